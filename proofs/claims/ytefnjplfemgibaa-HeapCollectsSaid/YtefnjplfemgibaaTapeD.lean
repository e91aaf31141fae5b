/- The walks of Num, Int, Str, Byte, End, Open of layer 1; nil tapes. The walks of Str, Byte, End, Open of layer 1; nil tapes. The walks of Byte, End, Open of layer 1; nil tapes; num; a tape of the call's own. -/
import Derived.Test.YtefnjplfemgibaaNumber
import Derived.Test.YtefnjplfemgibaaLays
namespace Go.Proofs.Ytefnjplfemgibaa
section
open Go.RowKit
set_option linter.unusedVariables false

theorem number_stops_le {t : TS} (signed : Bool) : (t.number signed).2.bytes = t.bytes := by
  unfold TS.number
  split
  · split
    · rfl
    · unfold TS.rest
      split
      · split
        · rfl
        · split
          · rfl
          · split <;> rfl
      · split
        · rfl
        · split
          · rfl
          · split <;> rfl
  · rfl
theorem rest_lt (t : TS) (wd : Nat) (b : Bool) : (t.rest wd b).1.1 < 18446744073709551616 := by
  unfold TS.rest
  split
  · exact Nat.zero_lt_succ _
  · split
    · exact Nat.zero_lt_succ _
    · split
      · exact Nat.zero_lt_succ _
      · exact toldN_lt _
theorem number_lt {t : TS} (signed : Bool) : (t.number signed).1.1 < 18446744073709551616 := by
  unfold TS.number
  split
  · split
    · exact Nat.zero_lt_succ _
    · split <;> exact rest_lt _ _ _
  · exact Nat.zero_lt_succ _

def TS.int (t : TS) : Int × TS :=
  if 9223372036854775808 ≤ (t.number true).1.1 then (0, (t.number true).2.stops 11 t.pos)
  else (if (t.number true).1.2 = true then -((t.number true).1.1 : Int) - 1 else ((t.number true).1.1 : Int), (t.number true).2)
def TS.str (t : TS) (most : Int) : List UInt8 × TS :=
  if (t.number false).2.fault ≠ 0 then ([], (t.number false).2)
  else if (max most 0).toNat < (t.number false).1.1 then ([], (t.number false).2.stops 1 t.pos)
  else if (t.number false).2.bytes.length - (t.number false).2.pos < (t.number false).1.1 then ([], (t.number false).2.stops 3 t.pos)
  else (((t.number false).2.bytes.drop (t.number false).2.pos).take (t.number false).1.1, { (t.number false).2 with pos := (t.number false).2.pos + (t.number false).1.1 })
def TS.byte (t : TS) : UInt8 × TS :=
  if t.fault ≠ 0 then (0, t) else match t.bytes[t.pos]? with
    | none => (0, t.stops 3 t.pos)
    | some h => (h, { t with pos := t.pos + 1 })
def TS.end_ (t : TS) : Nat := if t.fault = 0 ∧ t.pos < t.bytes.length then 4 else t.fault

section
variable {pt : Nat} {A : Option Addr} {c : Nat} {t : TS} {w w' : World}
set_option maxHeartbeats 400000 in
theorem tnum_any (h : TapeAt pt A c t w) : Calls Try.prog 45 #[.pointer (some ⟨pt, 0, none⟩)] w fun r w' => r = .returned (.int .u64 (t.number false).1.1) ∧ TAct w pt A c (t.number false).2 w' := by
  have HN := Lib.hid (number_any h false)
  generalize t.number false = x at *
  go_enter Try.func45, Try.ntmps45
  go_wp2_with (go_at_call 79; refine HN.out.mono ?_; rintro e w2 ⟨rfl, hA⟩)
  go_ret
  exact ⟨rfl, hA⟩

end
end
section
open Go.RowKit
set_option linter.unusedVariables false

section
variable {pt : Nat} {A : Option Addr} {c : Nat} {t : TS} {w w' : World}
def StrEnds (w : World) (pt : Nat) (A : Option Addr) (c : Nat) (x : List UInt8 × TS) (r : Ending) (w' : World) : Prop :=
  r = .returned (.string ⟨x.1.toArray⟩) ∧ TAct w pt A c x.2 w'

set_option maxHeartbeats 1000000 in
theorem tstr_any (h : TapeAt pt A c t w) (most : Int) (hm : most ≤ 9223372036854775807) : Calls Try.prog 46 #[.pointer (some ⟨pt, 0, none⟩), .int .i64 most] w (StrEnds w pt A c (t.str most)) := by
  have HP := Lib.hid (pos_any h)
  have HN := Lib.hid (tnum_any h)
  have hlt := number_lt (t := t) false
  have hby := number_stops_le (t := t) false
  have hpos := h.pos
  have HI : Hid (t.str most = if (t.number false).2.fault ≠ 0 then ([], (t.number false).2)
    else if (max most 0).toNat < (t.number false).1.1 then ([], (t.number false).2.stops 1 t.pos)
    else if (t.number false).2.bytes.length - (t.number false).2.pos < (t.number false).1.1 then ([], (t.number false).2.stops 3 t.pos)
    else (((t.number false).2.bytes.drop (t.number false).2.pos).take (t.number false).1.1, { (t.number false).2 with pos := (t.number false).2.pos + (t.number false).1.1 })) := rfl
  obtain ⟨n, b, t2, hx⟩ : ∃ n b t2, t.number false = ((n, b), t2) := ⟨_, _, _, rfl⟩
  rw [hx] at HN HI hlt hby
  simp only at hlt hby HN HI
  have hpos2 : t.pos ≤ t2.bytes.length := by rw [hby]; exact hpos
  clear hx hby
  obtain ⟨mx, hmx⟩ : ∃ mx : Nat, (mx : Int) = max most 0 := ⟨(max most 0).toNat, by omega⟩
  have hmx2 : (max most 0).toNat = mx := by omega
  rw [hmx2] at HI
  have hmx9 : mx ≤ 9223372036854775807 := by omega
  have qm : max most 0 = (mx : Int) := hmx.symm
  have qu : IntKind.u64.wrap (mx : Int) = (mx : Int) := by show (mx : Int) % 18446744073709551616 = _; omega
  clear hmx hmx2
  by_cases hf : t2.fault ≠ 0
  · rw [if_pos hf] at HI
    have hfb : (t2.fault == 0) = false := by simp [hf]
    have HFB := Lib.hid hfb
    clear hfb
    go_enter Try.func46, Try.ntmps46
    go_wp2_with (first
      | (go_at_call 80; refine HP.out.mono ?_; rintro e w' ⟨rfl, rfl⟩)
      | (go_at_call 45; refine HN.out.mono ?_; rintro e w2 ⟨rfl, hA⟩)
      | (go_at_call 81; refine (runs_any hA.tape).mono ?_; rw [HFB.out]; rintro e w3 ⟨rfl, rfl⟩))
    go_ret
    rw [HI.out]
    exact ⟨rfl, hA⟩
  · rw [if_neg hf] at HI
    have hfb : (t2.fault == 0) = true := by simpa using hf
    have HFB := Lib.hid hfb
    clear hfb
    by_cases hlong : mx < n
    · rw [if_pos hlong] at HI
      have hdl : decide (mx < n) = true := by simpa using hlong
      go_enter Try.func46, Try.ntmps46
      go_wp2_with (first
        | (go_at_call 80; refine HP.out.mono ?_; rintro e w' ⟨rfl, rfl⟩)
        | (go_at_call 45; refine HN.out.mono ?_; rintro e w2 ⟨rfl, hA⟩)
        | (go_at_call 81; refine (runs_any hA.tape).mono ?_; rw [HFB.out]; rintro e w3 ⟨rfl, rfl⟩)
        | (go_at_call 82; refine (stops_any hA.tape 1 t.pos (by omega) hpos2).mono ?_; rintro e w3 ⟨rfl, hA3⟩))
      go_ret
      rw [HI.out]
      exact ⟨rfl, hA.trans hA3⟩
    · rw [if_neg hlong] at HI
      have hdl : decide (mx < n) = false := by simpa using hlong
      have hn9 : n ≤ 9223372036854775807 := by omega
      by_cases hsh : t2.bytes.length - t2.pos < n
      · rw [if_pos hsh] at HI
        have hnil := fun W => run_str (P := Try.prog) Try.underlying51 Try.underlying5 Try.underlying9 W none 0 0 [] rfl (.inl rfl)
        go_enter Try.func46, Try.ntmps46
        go_wp2_with (first
          | (go_at_call 80; refine HP.out.mono ?_; rintro e w' ⟨rfl, rfl⟩)
          | (go_at_call 45; refine HN.out.mono ?_; rintro e w2 ⟨rfl, hA⟩)
          | (go_at_call 81; refine (runs_any hA.tape).mono ?_; rw [HFB.out]; rintro e w3 ⟨rfl, rfl⟩)
          | (go_at_call 83; refine (cut_short hA.tape n t.pos hsh hn9 hpos2).mono ?_; rintro e w3 ⟨rfl, hA3⟩))
        go_ret
        rw [HI.out]
        exact ⟨rfl, hA.trans hA3⟩
      · rw [if_neg hsh] at HI
        obtain ⟨x, hx⟩ : ∃ x, x = (t2.bytes.drop t2.pos).take n := ⟨_, rfl⟩
        rw [← hx] at HI
        have HXL := Lib.hid (show x.length = n by rw [hx]; simp; omega)
        have HX := Lib.hid hx
        clear hx
        go_enter Try.func46, Try.ntmps46
        go_wp2_with (first
          | (go_at_call 80; refine HP.out.mono ?_; rintro e w' ⟨rfl, rfl⟩)
          | (go_at_call 45; refine HN.out.mono ?_; rintro e w2 ⟨rfl, hA⟩)
          | (go_at_call 81; refine (runs_any hA.tape).mono ?_; rw [HFB.out]; rintro e w3 ⟨rfl, rfl⟩)
          | (go_at_call 83; refine (cut_ok hA.tape n t.pos (by omega) hpos2).mono ?_; rintro e w3 ⟨B, cB, rfl, hr3, hA3⟩; rw [← HX.out] at hr3; have hst := run_str (P := Try.prog) Try.underlying51 Try.underlying5 Try.underlying9 w3 B n cB x HXL.out hr3))
        go_ret
        rw [HI.out]
        exact ⟨rfl, hA.trans hA3⟩
end
end
section
open Go.RowKit
set_option linter.unusedVariables false

section
variable {pt : Nat} {A : Option Addr} {c : Nat} {t : TS} {w w' : World}
set_option maxHeartbeats 600000 in
theorem tend_any (h : TapeAt pt A c t w) : Calls Try.prog 47 #[.pointer (some ⟨pt, 0, none⟩)] w fun r w' => r = .returned (.int .i64 t.end_) ∧ ∃ q, w' = w.drewN q := by
  have HR := Lib.hid (runs_any h)
  have HRs := Lib.hid (rest_any h)
  have hcap := h.cap
  have hcm := h.capm
  by_cases hf : t.fault = 0
  · rw [show (t.fault == 0) = true by simp [hf]] at HR
    by_cases hp : t.pos < t.bytes.length
    · have HI := Lib.hid (show t.end_ = 4 by unfold TS.end_; rw [if_pos ⟨hf, hp⟩])
      obtain ⟨r, hr⟩ : ∃ r, r = t.bytes.length - t.pos := ⟨_, rfl⟩
      rw [← hr] at HRs
      have hr0 : 0 < r := by omega
      have hr1 : decide (0 < (r : Int)) = true := by simp; omega
      clear hr hf
      go_enter Try.func47, Try.ntmps47
      go_wp2_with (first
        | (go_at_call 81; refine HR.out.mono ?_; rintro e w2 ⟨rfl, rfl⟩)
        | (go_at_call 84; refine HRs.out.mono ?_; rintro e w3 ⟨rfl, q3, rfl⟩))
      go_ret
      rw [HI.out]
      exact ⟨rfl, _, rfl⟩
    · have HI := Lib.hid (show t.end_ = t.fault by unfold TS.end_; rw [if_neg (fun x => hp x.2)])
      rw [show t.bytes.length - t.pos = 0 by omega] at HRs
      clear hf
      go_enter Try.func47, Try.ntmps47
      go_wp2_with (first
        | (go_at_call 81; refine HR.out.mono ?_; rintro e w2 ⟨rfl, rfl⟩)
        | (go_at_call 84; refine HRs.out.mono ?_; rintro e w3 ⟨rfl, q3, rfl⟩)
        | (go_at_call 43; refine (fault_any (h.keep (below_drewN (Below.refl _ _) q3))).mono ?_; rintro e w4 ⟨rfl, q4, rfl⟩))
      go_ret
      rw [HI.out]
      exact ⟨rfl, _, by first | rfl | exact World.drewN_drewN _ _ _⟩
  · rw [show (t.fault == 0) = false by simp [hf]] at HR
    have HI := Lib.hid (show t.end_ = t.fault by unfold TS.end_; rw [if_neg (fun x => hf x.1)])
    go_enter Try.func47, Try.ntmps47
    go_wp2_with (first
      | (go_at_call 81; refine HR.out.mono ?_; rintro e w2 ⟨rfl, rfl⟩)
      | (go_at_call 43; refine (fault_any h).mono ?_; rintro e w4 ⟨rfl, q4, rfl⟩))
    go_ret
    rw [HI.out]
    exact ⟨rfl, _, rfl⟩
end

/-- A tape of the call's own. -/
structure TOwn (w0 : World) (pt : Nat) (A : Option Addr) (c : Nat) (t : TS) (W : World) : Prop where
  tape : TapeAt pt A c t W
  bel : Below w0.heap.size w0 W
  own : w0.heap.size ≤ pt
theorem TOwn.act {w0 W W' : World} {pt : Nat} {A : Option Addr} {c : Nat} {t t' : TS} (h : TOwn w0 pt A c t W) (a : TAct W pt A c t' W') : TOwn w0 pt A c t' W' :=
  ⟨a.tape, h.bel.trans (a.fr.below h.bel.size (fun k hk => by rw [hk]; exact h.own)), h.own⟩
theorem TOwn.below {w0 W W' : World} {pt : Nat} {A : Option Addr} {c : Nat} {t : TS} (h : TOwn w0 pt A c t W) (hb : Below W.heap.size W W') : TOwn w0 pt A c t W' := ⟨h.tape.keep hb, below_step h.bel hb, h.own⟩

set_option maxHeartbeats 600000 in
theorem open_any (A : Option Addr) (l : List UInt8) (n c : Nat) (w : World) (hl : l.length = n) (hn : n ≤ 140737488351232) (hr : Rd w A l) :
    Calls Try.prog 41 #[.slice A n c] w fun r w' => ∃ pt B cB, r = .returned (.pointer (some ⟨pt, 0, none⟩)) ∧ TOwn w pt B cB ⟨l, 0, 0, 0⟩ w' ∧ (∀ b off, B = some ⟨b, off, none⟩ → w.heap.size ≤ b ∧ b < pt) ∧ pt < w'.heap.size := by
  have HC := Lib.hid (clone_any A l n c w hl hn hr)
  have HL := Lib.hid hl
  clear hl
  go_enter Try.func41, Try.ntmps41
  go_wp2_with (go_at_call 78; refine HC.out.mono ?_; rintro e w2 ⟨v, rfl, hown, hb2⟩; obtain ⟨B, cB, rfl, hrB, _, hcB⟩ := own_rd hown)
  go_ret
  have hcm : cB ≤ 9223372036854775807 := by
    rcases hown.2 with ⟨hv, _⟩ | ⟨g, cap, cur, hv, _, _, _, h10, _⟩
    · have := (Value.slice.inj hv).2.2; omega
    · have := (Value.slice.inj hv).2.2; unfold maxLen at h10; omega
  have hBl : ∀ b off, B = some ⟨b, off, none⟩ → w.heap.size ≤ b ∧ b < w2.heap.size := by
    intro b off e
    rcases hown.2 with ⟨hv, _⟩ | ⟨g, cap, cur, hv, hwg, hg, _⟩
    · have := (Value.slice.inj hv).1
      rw [e] at this
      cases this
    · have := (Value.slice.inj hv).1
      rw [e] at this
      injection this with this
      injection this with this
      have hlt := (Array.getElem?_eq_some_iff.1 hg).1
      omega
  refine ⟨w2.heap.size, B, cB, rfl, ⟨⟨?_, hrB.below (below_alloc w2 _), fun b off e => by have := hBl b off e; omega, by rw [HL.out]; exact hcB, hcm, Nat.zero_le _, Nat.zero_le _, Nat.zero_le _⟩, hb2.alloc hb2.size _, hb2.size⟩, hBl, by simp⟩
  have := Blk.new w2 125 #[.slice B n cB, .int .i64 0, .int .i64 0, .int .i64 0]
  show Blk _ _ _ #[.slice B l.length cB, .int .i64 0, .int .i64 0, .int .i64 0]
  rw [HL.out]
  exact this
/-- A tape of the call's own, and what an act on another one leaves of it. -/
theorem TOwn.far {w0 W W' : World} {pt ps : Nat} {A A' : Option Addr} {c c' : Nat} {t t' : TS} (h : TOwn w0 pt A c t W) (a : TAct W ps A' c' t' W') (h1 : pt ≠ ps) (h2 : ∀ b off, A = some ⟨b, off, none⟩ → b ≠ ps) (h3 : w0.heap.size ≤ ps) : TOwn w0 pt A c t W' :=
  ⟨h.tape.far a.fr h1 h2, h.bel.trans (a.fr.below h.bel.size (fun k hk => by rw [hk]; exact h3)), h.own⟩

-- nil tapes
set_option maxHeartbeats 400000 in
theorem number_nil (b : Bool) (w : World) : Calls Try.prog 79 #[.pointer none, .bool b] w fun r w' => r = .returned (.tuple #[.int .u64 0, .bool false]) ∧ w = w' := by
  go_enter Try.func79, Try.ntmps79
  go_wp2_with (go_at_call 81; refine (runs_nil _).mono ?_; rintro e w2 ⟨rfl, rfl⟩)
  go_ret2
  exact ⟨rfl, rfl⟩
set_option maxHeartbeats 400000 in
theorem tnum_nil (w : World) : Calls Try.prog 45 #[.pointer none] w fun r w' => r = .returned (.int .u64 0) ∧ w = w' := by
  go_enter Try.func45, Try.ntmps45
  go_wp2_with (go_at_call 79; refine (number_nil _ _).mono ?_; rintro e w2 ⟨rfl, rfl⟩)
  go_ret
  exact ⟨rfl, rfl⟩
set_option maxHeartbeats 400000 in
theorem tstr_nil (m : Int) (w : World) : Calls Try.prog 46 #[.pointer none, .int .i64 m] w fun r w' => r = .returned (.string ⟨#[]⟩) ∧ w = w' := by
  go_enter Try.func46, Try.ntmps46
  go_wp2_with (first
    | (go_at_call 45; refine (tnum_nil _).mono ?_; rintro e w2 ⟨rfl, rfl⟩)
    | (go_at_call 81; refine (runs_nil _).mono ?_; rintro e w2 ⟨rfl, rfl⟩)
    | (go_at_call 80; refine (pos_nil _).mono ?_; rintro e w2 ⟨rfl, rfl⟩))
  go_ret
  exact ⟨rfl, rfl⟩
set_option maxHeartbeats 400000 in
theorem tend_nil (w : World) : Calls Try.prog 47 #[.pointer none] w fun r w' => r = .returned (.int .i64 0) ∧ w = w' := by
  go_enter Try.func47, Try.ntmps47
  go_wp2_with (first
    | (go_at_call 81; refine (runs_nil _).mono ?_; rintro e w2 ⟨rfl, rfl⟩)
    | (go_at_call 43; refine (fault_nil _).mono ?_; rintro e w2 ⟨rfl, rfl⟩))
  go_ret
  exact ⟨rfl, rfl⟩
end
end Go.Proofs.Ytefnjplfemgibaa
