/- The walk of number of layer 1. -/
import Derived.Test.YtefnjplfemgibaaTape
import Derived.Laws.BitsAllLaws
import Derived.Laws.BitsLemmas
namespace Go.Proofs.Ytefnjplfemgibaa
open Go.RowKit
set_option linter.unusedVariables false

/-- 'shl 8, or a byte', on a number of 64 bits. -/
theorem or_byte (n c : Nat) (hn : n < 18446744073709551616) (hc : c < 256) :
    bits BinOp.or IntKind.u64 (IntKind.u64.wrap ((n : Int) * 256)) (c : Int) = ((n * 256 % 18446744073709551616 + c : Nat) : Int) := by
  have e1 : IntKind.u64.wrap ((n : Int) * 256) = ((n * 256 % 18446744073709551616 : Nat) : Int) := by
    simp only [IntKind.wrap, IntKind.bits, IntKind.signed]; simp
  rw [e1, u64_or_nat _ _ (by omega) (by omega), nat_join 8 _ _ (by omega) (by omega)]

/-- What stands behind the first byte, of a width. -/
def TS.rest (t : TS) (wd : Nat) (below : Bool) : (Nat × Bool) × TS :=
  if 8 < wd then ((0, false), t.stops 10 t.pos)
  else if t.bytes.length - (t.pos + 1) < wd then ((0, false), t.stops 3 t.pos)
  else if 0 < wd ∧ (t.bytes.drop (t.pos + 1)).head? = some 0 then ((0, false), t.stops 10 t.pos)
  else ((toldN ((t.bytes.drop (t.pos + 1)).take wd), below), { t with pos := t.pos + 1 + wd })
/-- number, as a function. -/
def TS.number (t : TS) (signed : Bool) : (Nat × Bool) × TS :=
  if t.fault = 0 then
    match t.bytes[t.pos]? with
    | none => ((0, false), t.stops 3 t.pos)
    | some h => if signed = true ∧ 128 ≤ h.toNat then t.rest (h.toNat - 128) true else t.rest h.toNat false
  else ((0, false), t)
def NumEnds (w : World) (pt : Nat) (A : Option Addr) (c : Nat) (x : (Nat × Bool) × TS) (r : Ending) (w' : World) : Prop :=
  r = .returned (.tuple #[.int .u64 x.1.1, .bool x.1.2]) ∧ TAct w pt A c x.2 w'

section
variable {pt : Nat} {A : Option Addr} {c : Nat} {t : TS} {w w' : World}
theorem drop_head {l : List UInt8} {p : Nat} (h : p < l.length) : (l.drop p).take 1 = [l[p]] := by
  rw [List.drop_eq_getElem_cons h]; rfl

set_option maxHeartbeats 1000000 in
theorem number_stopped (h : TapeAt pt A c t w) (signed : Bool) (hf : t.fault ≠ 0) : Calls Try.prog 79 #[.pointer (some ⟨pt, 0, none⟩), .bool signed] w (NumEnds w pt A c (t.number signed)) := by
  have HN := Lib.hid (show t.number signed = ((0, false), t) by unfold TS.number; rw [if_neg hf])
  have HR := Lib.hid (runs_any h)
  rw [show (t.fault == 0) = false by simp [hf]] at HR
  have hA := drew_tact h 0
  clear hf
  go_enter Try.func79, Try.ntmps79
  go_wp2_with (go_at_call 81; refine HR.out.mono ?_; rintro e w2 ⟨rfl, rfl⟩)
  go_ret2
  rw [HN.out]
  exact ⟨rfl, hA⟩

set_option maxHeartbeats 1000000 in
theorem number_end (h : TapeAt pt A c t w) (signed : Bool) (hf : t.fault = 0) (hp : ¬ t.pos < t.bytes.length) : Calls Try.prog 79 #[.pointer (some ⟨pt, 0, none⟩), .bool signed] w (NumEnds w pt A c (t.number signed)) := by
  have HN := Lib.hid (show t.number signed = ((0, false), t.stops 3 t.pos) by unfold TS.number; rw [if_pos hf, List.getElem?_eq_none (by omega)])
  have HR := Lib.hid (runs_any h)
  rw [show (t.fault == 0) = true by simp [hf]] at HR
  obtain ⟨c0, c1, c2, c3⟩ := h.cells
  have HC := Lib.hid (cut_short h 1 t.pos (by omega) (by omega) h.pos)
  clear hf
  go_enter Try.func79, Try.ntmps79
  go_wp2_with (first
    | (go_at_call 81; refine HR.out.mono ?_; rintro e w2 ⟨rfl, rfl⟩)
    | (go_at_call 83; refine HC.out.mono ?_; rintro e w2 ⟨rfl, hA⟩))
  go_ret2
  rw [HN.out]
  exact ⟨rfl, hA⟩

set_option maxHeartbeats 4000000 in
/-- The walk behind the first byte. -/
theorem number_more (h : TapeAt pt A c t w) (signed : Bool) (hf : t.fault = 0) (hp : t.pos < t.bytes.length) (hd wd : Nat) (below : Bool) (hhd : (t.bytes[t.pos]'hp).toNat = hd) (hways : (signed = false ∧ wd = hd ∧ below = false) ∨ (signed = true ∧ hd < 128 ∧ wd = hd ∧ below = false) ∨ (signed = true ∧ 128 ≤ hd ∧ wd = hd - 128 ∧ below = true)) :
    Calls Try.prog 79 #[.pointer (some ⟨pt, 0, none⟩), .bool signed] w (NumEnds w pt A c (t.rest wd below)) := by
  have HR := Lib.hid (runs_any h)
  rw [show (t.fault == 0) = true by simp [hf]] at HR
  obtain ⟨c0, c1, c2, c3⟩ := h.cells
  have hpb := h.pos
  have HC := Lib.hid (cut_ok h 1 t.pos (by omega) h.pos)
  have hd8 : hd < 256 := by rw [← hhd]; exact u8_lt _
  have HH := Lib.hid hhd
  clear hf hhd
  have hw8 : wd < 256 := by omega
  go_enter Try.func79, Try.ntmps79
  go_upto_region 7 with (first
    | (go_at_call 81; refine HR.out.mono ?_; rintro e w2 ⟨rfl, rfl⟩)
    | (go_at_call 83; refine HC.out.mono ?_; rintro e w2 ⟨B, cB, rfl, hrB, hA⟩))
  rw [drop_head hp] at hrB
  obtain ⟨b, off, rfl, _, hcl⟩ := hrB.at_ (k := 0) (by simp)
  simp only [List.getElem_cons_zero, Nat.add_zero] at hcl
  rw [HH.out] at hcl
  have hT2 := hA.tape
  have hST := stops_any hT2 10 t.pos (by omega) hpb
  have HST := Lib.hid hST
  have HA := Lib.hid hA
  clear hST hA hrB HC HR c0 c1 c2 c3
  have qsub : ∀ h' : 128 ≤ hd, wd = hd - 128 → (hd : Int) - 128 = (wd : Int) := fun _ _ => by omega
  have hways2 : (signed = false ∧ wd = hd ∧ below = false) ∨ (signed = true ∧ decide ((128 : Int) ≤ (hd : Int)) = false ∧ wd = hd ∧ below = false) ∨ (signed = true ∧ decide ((128 : Int) ≤ (hd : Int)) = true ∧ (hd : Int) - 128 = (wd : Int) ∧ below = true) := by
    rcases hways with ⟨h1, h2, h3⟩ | ⟨h1, h2, h3, h4⟩ | ⟨h1, h2, h3, h4⟩
    · exact .inl ⟨h1, h2, h3⟩
    · exact .inr (.inl ⟨h1, by simp; omega, h3, h4⟩)
    · exact .inr (.inr ⟨h1, by simp; omega, by omega, h4⟩)
  clear hways qsub
  by_cases hw : 8 < wd
  · have HN := Lib.hid (show t.rest wd below = ((0, false), t.stops 10 t.pos) by unfold TS.rest; rw [if_pos hw])
    rcases hways2 with ⟨rfl, rfl, rfl⟩ | ⟨rfl, hd1, rfl, rfl⟩ | ⟨rfl, hd1, hd2, rfl⟩
    all_goals
      go_wp2_with (go_at_call 82; refine HST.out.mono ?_; rintro e w3 ⟨rfl, hA3⟩)
      go_ret2
      rw [HN.out]
      exact ⟨rfl, HA.out.trans hA3⟩
  · by_cases hsh : t.bytes.length - (t.pos + 1) < wd
    · have HN := Lib.hid (show t.rest wd below = ((0, false), t.stops 3 t.pos) by unfold TS.rest; rw [if_neg hw, if_pos hsh])
      have HCS := Lib.hid (cut_short hT2 wd t.pos hsh (by omega) hpb)
      rcases hways2 with ⟨rfl, rfl, rfl⟩ | ⟨rfl, hd1, rfl, rfl⟩ | ⟨rfl, hd1, hd2, rfl⟩
      all_goals
        go_wp2_with (go_at_call 83; refine HCS.out.mono ?_; rintro e w3 ⟨rfl, hA3⟩)
        go_ret2
        rw [HN.out]
        exact ⟨rfl, HA.out.trans hA3⟩
    · have HCO := Lib.hid (cut_ok hT2 wd t.pos (by show wd ≤ t.bytes.length - (t.pos + 1); omega) hpb)
      obtain ⟨l, hl⟩ : ∃ l, l = (t.bytes.drop (t.pos + 1)).take wd := ⟨_, rfl⟩
      have hll : l.length = wd := by rw [hl]; simp; omega
      have HLL := Lib.hid hll
      have HL := Lib.hid hl
      by_cases hz : 0 < wd ∧ (t.bytes.drop (t.pos + 1)).head? = some 0
      · have HN := Lib.hid (show t.rest wd below = ((0, false), t.stops 10 t.pos) by unfold TS.rest; rw [if_neg hw, if_neg hsh, if_pos hz])
        have hz0 : 0 < l.length := by omega
        have HZ := Lib.hid (show l[0]'hz0 = 0 by
          have h1 : l.head? = some 0 := by rw [hl, List.head?_take, if_neg (by omega)]; exact hz.2
          rw [List.head?_eq_getElem?, List.getElem?_eq_getElem hz0] at h1
          exact Option.some.inj h1)
        have hwp : 0 < wd := hz.1
        have hwd0 : decide (0 < (wd : Int)) = true := by simp; omega
        clear hz hl hll
        rcases hways2 with ⟨rfl, rfl, rfl⟩ | ⟨rfl, hd1, rfl, rfl⟩ | ⟨rfl, hd1, hd2, rfl⟩
        all_goals
          go_upto_region 14 with (go_at_call 83; refine HCO.out.mono ?_; rintro e w3 ⟨B3, c3, rfl, hr3, hA3⟩)
          have hr3' : Rd w3 B3 l := by rw [HL.out]; exact hr3
          obtain ⟨b3, off3, rfl, _, hcl3⟩ := hr3'.at_ hz0
          rw [HZ.out] at hcl3
          have hcl4 : w3.cell? ⟨b3, off3, none⟩ = some (.int .u8 0) := hcl3
          clear hcl3
          have HS3 := Lib.hid (stops_any hA3.tape 10 t.pos (by omega) hpb)
          go_wp2_with (go_at_call 82; refine HS3.out.mono ?_; rintro e w4 ⟨rfl, hA4⟩)
          go_ret2
          rw [HN.out]
          exact ⟨rfl, (HA.out.trans hA3).trans hA4⟩
      · have HN := Lib.hid (show t.rest wd below = ((toldN l, below), { t with pos := t.pos + 1 + wd }) by unfold TS.rest; rw [if_neg hw, if_neg hsh, if_neg hz, hl])
        have HZ : Hid (∀ h0 : 0 < l.length, ((l[0].toNat : Int) == 0) = false) := fun h0 => by
          rw [beq_eq_false_iff_ne]
          intro e
          refine hz ⟨by omega, ?_⟩
          have h1 : l.head? = some (l[0]) := by rw [List.head?_eq_getElem?, List.getElem?_eq_getElem h0]
          have h2 : l[0] = 0 := by
            apply UInt8.toNat_inj.1
            have h5 : (l[0].toNat : Int) = 0 := e
            have h6 : l[0].toNat = 0 := by omega
            rw [h6]
            rfl
          rw [h2] at h1
          rw [hl, List.head?_take, if_neg (by omega)] at h1
          exact h1
        clear hz hl hll
        by_cases hw0 : wd = 0
        · have hl0 : l = [] := List.eq_nil_of_length_eq_zero (by rw [HLL.out]; exact hw0)
          have HL0 := Lib.hid hl0
          subst hw0
          clear hl0
          rcases hways2 with ⟨rfl, rfl, rfl⟩ | ⟨rfl, hd1, rfl, rfl⟩ | ⟨rfl, hd1, hd2, rfl⟩
          all_goals
            go_upto_region 14 with (go_at_call 83; refine HCO.out.mono ?_; rintro e w3 ⟨B3, c3, rfl, hr3, hA3⟩)
            go_wp2
            refine wp_loop_rounds 1 ?_
            rw [rounds_succ]
            go_wp2
            go_ret2
            rw [HN.out, HL0.out]
            exact ⟨rfl, HA.out.trans hA3⟩
        · have hz0 : 0 < l.length := by rw [HLL.out]; omega
          have hwd0 : decide (0 < (wd : Int)) = true := by simp; omega
          have hzz := HZ.out hz0
          rcases hways2 with ⟨rfl, rfl, rfl⟩ | ⟨rfl, hd1, rfl, rfl⟩ | ⟨rfl, hd1, hd2, rfl⟩
          all_goals
            go_upto_region 14 with (go_at_call 83; refine HCO.out.mono ?_; rintro e w3 ⟨B3, c3, rfl, hr3, hA3⟩)
            have hr3' : Rd w3 B3 l := by rw [HL.out]; exact hr3
            obtain ⟨b3, off3, rfl, _, hcl3⟩ := hr3'.at_ hz0
            have hcl4 : w3.cell? ⟨b3, off3, none⟩ = some (.int .u8 (l[0].toNat : Int)) := hcl3
            clear hcl3 hr3
            go_wp2
            clear hcl4 hzz hcl
            obtain ⟨w4, rfl⟩ : ∃ w4 : World, w4 = w3 := ⟨_, rfl⟩
            go_loop [4, 68] (fun s i => ∃ k : Nat, k ≤ wd ∧ i = .int .i64 k ∧ s = .int .u64 (toldN (l.take k))) (fun _ i => wd - (intOf i).toNat)
            case atStart => exact ⟨0, Nat.zero_le _, rfl, rfl⟩
            case round =>
              obtain ⟨k, hk, rfl, rfl⟩ := hrel
              by_cases hlt : k < wd
              · have hkl : k < l.length := by rw [HLL.out]; exact hlt
                obtain ⟨b4, off4, hBe, _, hck⟩ := hr3'.at_ hkl
                injection hBe with hBe
                injection hBe with e1 e2
                subst e1 e2
                have HS := Lib.hid (show toldN (l.take (k + 1)) = toldN (l.take k) * 256 % 18446744073709551616 + l[k].toNat by
                  rw [← toldN_snoc, ← List.take_succ_eq_append_getElem hkl])
                have hck8 := u8_lt l[k]
                have htk := toldN_lt (l.take k)
                generalize l[k].toNat = ck at *
                generalize toldN (l.take k) = tk at *
                have hd5 : decide (k < wd) = true := by simp; omega
                go_wp2
                go_round
                case rel => exact ⟨k + 1, by omega, by go_num, by rw [HS.out, or_byte _ _ htk hck8]⟩
                case measure => simp [intOf]; omega
              · have hd5 : decide (k < wd) = false := by simp; omega
                go_wp2
                go_ret2
                rw [HN.out]
                refine ⟨?_, HA.out.trans hA3⟩
                rw [show l.take k = l from List.take_of_length_le (by rw [HLL.out]; omega)]
                rfl

/-- number. -/
theorem number_any (h : TapeAt pt A c t w) (signed : Bool) : Calls Try.prog 79 #[.pointer (some ⟨pt, 0, none⟩), .bool signed] w (NumEnds w pt A c (t.number signed)) := by
  by_cases hf : t.fault = 0
  · by_cases hp : t.pos < t.bytes.length
    · have e : t.number signed = if signed = true ∧ 128 ≤ (t.bytes[t.pos]).toNat then t.rest ((t.bytes[t.pos]).toNat - 128) true else t.rest (t.bytes[t.pos]).toNat false := by
        unfold TS.number
        rw [if_pos hf, List.getElem?_eq_getElem hp]
      rw [e]
      by_cases hs : signed = true ∧ 128 ≤ (t.bytes[t.pos]).toNat
      · rw [if_pos hs]
        exact number_more h signed hf hp _ _ true rfl (.inr (.inr ⟨hs.1, hs.2, rfl, rfl⟩))
      · rw [if_neg hs]
        refine number_more h signed hf hp _ _ false rfl ?_
        cases signed with
        | false => exact .inl ⟨rfl, rfl, rfl⟩
        | true => exact .inr (.inl ⟨rfl, by simp at hs; omega, rfl, rfl⟩)
    · exact number_end h signed hf hp
  · exact number_stopped h signed hf
end
end Go.Proofs.Ytefnjplfemgibaa
