/- The walks of Byte, End, Open of layer 1; nil tapes; num; a tape of the call's own. -/
import Derived.Test.YtcnhfbckaacalaaTapeC
namespace Go.Proofs.Ytcnhfbckaacalaa
open Go.RowKit
set_option linter.unusedVariables false

section
variable {pt : Nat} {A : Option Addr} {c : Nat} {t : TS} {w w' : World}
end

/-- A tape of the call's own. -/
structure TOwn (w0 : World) (pt : Nat) (A : Option Addr) (c : Nat) (t : TS) (W : World) : Prop where
  tape : TapeAt pt A c t W
  bel : Below w0.heap.size w0 W
  own : w0.heap.size ≤ pt
theorem TOwn.act {w0 W W' : World} {pt : Nat} {A : Option Addr} {c : Nat} {t t' : TS} (h : TOwn w0 pt A c t W) (a : TAct W pt A c t' W') : TOwn w0 pt A c t' W' :=
  ⟨a.tape, h.bel.trans (a.fr.below h.bel.size (fun k hk => by rw [hk]; exact h.own)), h.own⟩
theorem TOwn.below {w0 W W' : World} {pt : Nat} {A : Option Addr} {c : Nat} {t : TS} (h : TOwn w0 pt A c t W) (hb : Below W.heap.size W W') : TOwn w0 pt A c t W' := ⟨h.tape.keep hb, below_step h.bel hb, h.own⟩

set_option maxHeartbeats 600000 in
theorem open_any (A : Option Addr) (l : List UInt8) (n c : Nat) (w : World) (hl : l.length = n) (hn : n ≤ 140737488351232) (hr : Rd w A l) :
    Calls Try.prog 41 #[.slice A n c] w fun r w' => ∃ pt B cB, r = .returned (.pointer (some ⟨pt, 0, none⟩)) ∧ TOwn w pt B cB ⟨l, 0, 0, 0⟩ w' ∧ (∀ b off, B = some ⟨b, off, none⟩ → w.heap.size ≤ b ∧ b < pt) ∧ pt < w'.heap.size := by
  have HC := Lib.hid (clone_any A l n c w hl hn hr)
  have HL := Lib.hid hl
  clear hl
  go_enter Try.func41, Try.ntmps41
  go_wp2_with (go_at_call 67; refine HC.out.mono ?_; rintro e w2 ⟨v, rfl, hown, hb2⟩; obtain ⟨B, cB, rfl, hrB, _, hcB⟩ := own_rd hown)
  go_ret
  have hcm : cB ≤ 9223372036854775807 := by
    rcases hown.2 with ⟨hv, _⟩ | ⟨g, cap, cur, hv, _, _, _, h10, _⟩
    · have := (Value.slice.inj hv).2.2; omega
    · have := (Value.slice.inj hv).2.2; unfold maxLen at h10; omega
  have hBl : ∀ b off, B = some ⟨b, off, none⟩ → w.heap.size ≤ b ∧ b < w2.heap.size := by
    intro b off e
    rcases hown.2 with ⟨hv, _⟩ | ⟨g, cap, cur, hv, hwg, hg, _⟩
    · have := (Value.slice.inj hv).1
      rw [e] at this
      cases this
    · have := (Value.slice.inj hv).1
      rw [e] at this
      injection this with this
      injection this with this
      have hlt := (Array.getElem?_eq_some_iff.1 hg).1
      omega
  refine ⟨w2.heap.size, B, cB, rfl, ⟨⟨?_, hrB.below (below_alloc w2 _), fun b off e => by have := hBl b off e; omega, by rw [HL.out]; exact hcB, hcm, Nat.zero_le _, Nat.zero_le _, Nat.zero_le _⟩, hb2.alloc hb2.size _, hb2.size⟩, hBl, by simp⟩
  have := Blk.new w2 108 #[.slice B n cB, .int .i64 0, .int .i64 0, .int .i64 0]
  show Blk _ _ _ #[.slice B l.length cB, .int .i64 0, .int .i64 0, .int .i64 0]
  rw [HL.out]
  exact this
/-- A tape of the call's own, and what an act on another one leaves of it. -/
theorem TOwn.far {w0 W W' : World} {pt ps : Nat} {A A' : Option Addr} {c c' : Nat} {t t' : TS} (h : TOwn w0 pt A c t W) (a : TAct W ps A' c' t' W') (h1 : pt ≠ ps) (h2 : ∀ b off, A = some ⟨b, off, none⟩ → b ≠ ps) (h3 : w0.heap.size ≤ ps) : TOwn w0 pt A c t W' :=
  ⟨h.tape.far a.fr h1 h2, h.bel.trans (a.fr.below h.bel.size (fun k hk => by rw [hk]; exact h3)), h.own⟩

-- nil tapes
set_option maxHeartbeats 400000 in
theorem number_nil (b : Bool) (w : World) : Calls Try.prog 82 #[.pointer none, .bool b] w fun r w' => r = .returned (.tuple #[.int .u64 0, .bool false]) ∧ w = w' := by
  go_enter Try.func82, Try.ntmps82
  go_wp2_with (go_at_call 69; refine (runs_nil _).mono ?_; rintro e w2 ⟨rfl, rfl⟩)
  go_ret2
  exact ⟨rfl, rfl⟩
set_option maxHeartbeats 400000 in
theorem tnum_nil (w : World) : Calls Try.prog 68 #[.pointer none] w fun r w' => r = .returned (.int .u64 0) ∧ w = w' := by
  go_enter Try.func68, Try.ntmps68
  go_wp2_with (go_at_call 82; refine (number_nil _ _).mono ?_; rintro e w2 ⟨rfl, rfl⟩)
  go_ret
  exact ⟨rfl, rfl⟩
set_option maxHeartbeats 400000 in
theorem tstr_nil (m : Int) (w : World) : Calls Try.prog 43 #[.pointer none, .int .i64 m] w fun r w' => r = .returned (.string ⟨#[]⟩) ∧ w = w' := by
  go_enter Try.func43, Try.ntmps43
  go_wp2_with (first
    | (go_at_call 68; refine (tnum_nil _).mono ?_; rintro e w2 ⟨rfl, rfl⟩)
    | (go_at_call 69; refine (runs_nil _).mono ?_; rintro e w2 ⟨rfl, rfl⟩)
    | (go_at_call 45; refine (pos_nil _).mono ?_; rintro e w2 ⟨rfl, rfl⟩))
  go_ret
  exact ⟨rfl, rfl⟩
end Go.Proofs.Ytcnhfbckaacalaa
