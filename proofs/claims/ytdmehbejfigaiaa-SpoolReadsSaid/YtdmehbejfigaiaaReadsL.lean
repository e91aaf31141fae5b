/- SpoolReads: pairs of ints in memory; a tape and the document's reader beside each other. -/
import Derived.Test.YtdmehbejfigaiaaRdrB
import Derived.Test.YtdmehbejfigaiaaSpLive
namespace Go.Proofs.Ytdmehbejfigaiaa
open Go.RowKit
set_option linter.unusedVariables false

/-- A slice with the address A reads as these pairs of ints. -/
def RdP (w : World) (A : Option Addr) (l : List (Int × Int)) : Prop := l = [] ∨ ∃ b off, A = some ⟨b, off, none⟩ ∧ ∀ j, (h : j < l.length) → w.cell? ⟨b, off + j * 2, none⟩ = some (.int .i64 l[j].1) ∧ w.cell? ⟨b, off + j * 2 + 1, none⟩ = some (.int .i64 l[j].2)
theorem RdP.at_ {w : World} {A : Option Addr} {l : List (Int × Int)} (h : RdP w A l) {k : Nat} (hk : k < l.length) : ∃ b off, A = some ⟨b, off, none⟩ ∧ w.cell? ⟨b, off + k * 2, none⟩ = some (.int .i64 l[k].1) ∧ w.cell? ⟨b, off + k * 2 + 1, none⟩ = some (.int .i64 l[k].2) := by
  rcases h with rfl | ⟨b, off, rfl, h⟩
  · simp at hk
  · exact ⟨b, off, rfl, h k hk⟩

theorem int_bytes (t : TS) : t.int.2.bytes = t.bytes := by
  unfold TS.int
  split <;> simp [TS.stops, number_stops_le]
theorem str_bytes (t : TS) (m : Int) : (t.str m).2.bytes = t.bytes := by
  unfold TS.str
  split
  · exact number_stops_le false
  · split
    · simp [TS.stops, number_stops_le]
    · split <;> simp [TS.stops, number_stops_le]
theorem byte_bytes (t : TS) : t.byte.2.bytes = t.bytes := by
  unfold TS.byte
  split
  · rfl
  · split <;> rfl

/-- A tape and a reader of the call's own, apart. -/
structure Two (w0 : World) (pt pr : Nat) (A : Option Addr) (c : Nat) (B : Option Addr) (cB : Nat) (t u : TS) (W : World) : Prop where
  tape : TapeAt pt A c t W
  read : ReadAt pr B cB u W
  bel : Below w0.heap.size w0 W
  lo1 : w0.heap.size ≤ pt
  lo2 : w0.heap.size ≤ pr
  ne : pt ≠ pr
  nA : ∀ b off, A = some ⟨b, off, none⟩ → b ≠ pr
  nB : ∀ b off, B = some ⟨b, off, none⟩ → b ≠ pt
section
variable {w0 W W' : World} {pt pr : Nat} {A B : Option Addr} {c cB : Nat} {t u t' u' : TS}
theorem Two.tact (h : Two w0 pt pr A c B cB t u W) (a : TAct W pt A c t' W') : Two w0 pt pr A c B cB t' u W' :=
  ⟨a.tape, h.read.far a.fr (fun e => h.ne e.symm) h.nB, h.bel.trans (a.fr.below h.bel.size (fun k hk => by rw [hk]; exact h.lo1)), h.lo1, h.lo2, h.ne, h.nA, h.nB⟩
theorem Two.ract (h : Two w0 pt pr A c B cB t u W) (a : RAct W pr B cB u' W') : Two w0 pt pr A c B cB t u' W' :=
  ⟨h.tape.far a.fr h.ne h.nA, a.tape, h.bel.trans (a.fr.below h.bel.size (fun k hk => by rw [hk]; exact h.lo2)), h.lo1, h.lo2, h.ne, h.nA, h.nB⟩
theorem Two.keep (h : Two w0 pt pr A c B cB t u W) (hb : Below W.heap.size W W') : Two w0 pt pr A c B cB t u W' :=
  ⟨h.tape.keep hb, h.read.keep hb, below_step h.bel hb, h.lo1, h.lo2, h.ne, h.nA, h.nB⟩
theorem Two.drewN (h : Two w0 pt pr A c B cB t u W) (q : Nat) : Two w0 pt pr A c B cB t u (W.drewN q) := h.keep (below_drewN (Below.refl _ _) q)
/-- A block that is neither's. -/
structure Off (w0 : World) (pt pr : Nat) (A B : Option Addr) (g : Nat) : Prop where
  lo : w0.heap.size ≤ g
  t : pt ≠ g
  r : pr ≠ g
  a : ∀ b off, A = some ⟨b, off, none⟩ → b ≠ g
  b : ∀ b off, B = some ⟨b, off, none⟩ → b ≠ g
theorem Two.setOff (h : Two w0 pt pr A c B cB t u W) {g : Nat} (ho : Off w0 pt pr A B g) (i : Nat) (v : Value) : Two w0 pt pr A c B cB t u (W.setCell ⟨g, i, none⟩ v) := by
  have hfr := Fr.setCell (fun k => k = g) W (p := ⟨g, i, none⟩) (fun _ => rfl) v
  exact ⟨h.tape.far hfr ho.t ho.a, h.read.far hfr ho.r ho.b, h.bel.trans (hfr.below h.bel.size (fun k hk => by rw [hk]; exact ho.lo)), h.lo1, h.lo2, h.ne, h.nA, h.nB⟩
/-- Bytes of the call's own, that are neither's. -/
def RowAny (w0 : World) (pt pr : Nat) (A B Q : Option Addr) (n : Nat) (W : World) : Prop :=
  n = 0 ∨ ∃ g cs, Q = some ⟨g, 0, none⟩ ∧ Off w0 pt pr A B g ∧ Blk W g 5 cs ∧ ∀ j, j < n → ∃ x : UInt8, cs[j]? = some (bv x)

theorem u_num (h : Two w0 pt pr A c B cB t u W) : Calls Try.prog 13 #[.pointer (some ⟨pt, 0, none⟩)] W fun r w' => r = .returned (.int .u64 (t.number false).1.1) ∧ Two w0 pt pr A c B cB (t.number false).2 u w' :=
  (tnum_any h.tape).mono fun _ _ ⟨he, ha⟩ => ⟨he, h.tact ha⟩
theorem u_int (h : Two w0 pt pr A c B cB t u W) : Calls Try.prog 15 #[.pointer (some ⟨pt, 0, none⟩)] W fun r w' => r = .returned (.int .i64 t.int.1) ∧ Two w0 pt pr A c B cB t.int.2 u w' :=
  (tint_any h.tape).mono fun _ _ ⟨he, ha⟩ => ⟨he, h.tact ha⟩
theorem u_str (h : Two w0 pt pr A c B cB t u W) (m : Int) (hm : m ≤ 9223372036854775807) : Calls Try.prog 26 #[.pointer (some ⟨pt, 0, none⟩), .int .i64 m] W fun r w' => r = .returned (.string ⟨(t.str m).1.toArray⟩) ∧ Two w0 pt pr A c B cB (t.str m).2 u w' :=
  (tstr_any h.tape m hm).mono fun _ _ ⟨he, ha⟩ => ⟨he, h.tact ha⟩
theorem u_byte (h : Two w0 pt pr A c B cB t u W) : Calls Try.prog 32 #[.pointer (some ⟨pt, 0, none⟩)] W fun r w' => r = .returned (.int .u8 (t.byte.1.toNat : Int)) ∧ Two w0 pt pr A c B cB t.byte.2 u w' :=
  (tbyte_any h.tape).mono fun _ _ ⟨he, ha⟩ => ⟨he, h.tact ha⟩
theorem r_num (h : Two w0 pt pr A c B cB t u W) : Calls Try.prog 29 #[.pointer (some ⟨pr, 0, none⟩)] W fun r w' => r = .returned (.int .u64 (u.number false).1.1) ∧ Two w0 pt pr A c B cB t (u.number false).2 w' :=
  (ruint_any h.read).mono fun _ _ ⟨he, ha⟩ => ⟨he, h.ract ha⟩
theorem r_int (h : Two w0 pt pr A c B cB t u W) : Calls Try.prog 30 #[.pointer (some ⟨pr, 0, none⟩)] W fun r w' => r = .returned (.int .i64 u.int.1) ∧ Two w0 pt pr A c B cB t u.int.2 w' :=
  (rint_any h.read).mono fun _ _ ⟨he, ha⟩ => ⟨he, h.ract ha⟩
theorem r_str (h : Two w0 pt pr A c B cB t u W) (m : Int) (hm : m ≤ 9223372036854775807) : Calls Try.prog 31 #[.pointer (some ⟨pr, 0, none⟩), .int .i64 m] W fun r w' => r = .returned (.string ⟨(u.str m).1.toArray⟩) ∧ Two w0 pt pr A c B cB t (u.str m).2 w' :=
  (rtext_any h.read m hm).mono fun _ _ ⟨he, ha⟩ => ⟨he, h.ract ha⟩
theorem r_byte (h : Two w0 pt pr A c B cB t u W) : Calls Try.prog 33 #[.pointer (some ⟨pr, 0, none⟩)] W fun r w' => r = .returned (.int .u8 (u.byte.1.toNat : Int)) ∧ Two w0 pt pr A c B cB t u.byte.2 w' :=
  (rbyte_any h.read).mono fun _ _ ⟨he, ha⟩ => ⟨he, h.ract ha⟩
end
theorem xor85 (x : UInt8) : Value.int .u8 (bits BinOp.xor IntKind.u8 (x.toNat : Int) 85) = bv (UInt8.ofNat (x.toNat ^^^ 85)) := by
  have h1 := u8_lt x
  have h3 : x.toNat ^^^ 85 < 2 ^ 8 := Nat.xor_lt_two_pow h1 (by omega)
  have h4 := u8_xor_nat x.toNat 85 h1 (by omega)
  rw [show ((85 : Nat) : Int) = 85 from rfl] at h4
  rw [h4, ← bv_ofNat]
  congr 1
  omega
theorem RowAny.put {w0 W : World} {pt pr g : Nat} {A B : Option Addr} {n k : Nat} {cs : Array Value} {v : Value} {y : UInt8} (ho : Off w0 pt pr A B g) (hB : Blk W g 5 cs) (hc : ∀ j, j < n → ∃ x : UInt8, cs[j]? = some (bv x)) (hk : k < n) (hv : v = bv y) :
    RowAny w0 pt pr A B (some ⟨g, 0, none⟩) n (W.setCell ⟨g, k, none⟩ v) := by
  refine .inr ⟨g, _, rfl, ho, hB.set_ k v, fun j hj => ?_⟩
  by_cases e : k = j
  · subst e
    obtain ⟨x, hx⟩ := hc k hj
    exact ⟨y, by rw [Array.getElem?_setIfInBounds_self, if_pos (Array.getElem?_eq_some_iff.1 hx).1, hv]⟩
  · obtain ⟨x, hx⟩ := hc j hj
    exact ⟨x, by rw [Array.getElem?_setIfInBounds_ne e]; exact hx⟩
end Go.Proofs.Ytdmehbejfigaiaa
