/- Names (layer 19): the walks of num, live and huge of the statements. -/
import Derived.Test.YtfkolemkmhcbfaaNaD
import Derived.Test.YtfkolemkmhcbfaaNaO
namespace Go.Proofs.Ytfkolemkmhcbfaa
open Go.RowKit Go.Maps Go.WideMaps
set_option linter.unusedVariables false

def Yes (w : World) (e : Ending) (w' : World) : Prop := e = .returned (.bool true) ∧ Below w.heap.size w w'
set_option maxHeartbeats 400000 in
theorem num_any (n : Int) (w : World) :
    Calls Try.prog 11 #[.int .i64 n] w fun e w' => e = .returned (.int .i64 n) ∧ w = w' := by
  go_enter Try.func11, Try.ntmps11
  go_wp2
  go_ret
  exact ⟨rfl, rfl⟩
/-- Names among the call's own blocks. -/
structure NmB (w V : World) (pn b1 b2 : Nat) (L : NL) : Prop where
  at_ : NmAt V pn b1 b2 L
  bel : Below w.heap.size w V
  l0 : w.heap.size ≤ pn
  l1 : w.heap.size ≤ b1
  l2 : w.heap.size ≤ b2
section
variable {w V V' : World} {pn b1 b2 : Nat} {L L' : NL}
theorem NmB.keep (h : NmB w V pn b1 b2 L) (hb : Below V.heap.size V V') : NmB w V' pn b1 b2 L := ⟨h.at_.keep hb, below_step h.bel hb, h.l0, h.l1, h.l2⟩
theorem NmB.turn (h : NmB w V pn b1 b2 L) (hN : NmAt V' pn b1 b2 L') (hF : Fr (fun k => k = b1 ∨ k = b2) V V') : NmB w V' pn b1 b2 L' :=
  ⟨hN, h.bel.trans (hF.below h.bel.size (fun k hk => by rcases hk with rfl | rfl; exact h.l1; exact h.l2)), h.l0, h.l1, h.l2⟩
theorem NmB.add (h : NmB w V pn b1 b2 L) {s : List UInt8} {p : Int} (hs : s.length ≤ maxLen) (hp : (Lit.int .i64 p).wf = true) (hL : L.length < 1000000) {a : Nat × NL} (ha : addP L s p = a) :
    Calls Try.prog 12 #[.pointer (some ⟨pn, 0, none⟩), .string ⟨s.toArray⟩, .int .i64 p] V fun e V' => e = .returned (.int .i64 (a.1 : Int)) ∧ NmB w V' pn b1 b2 a.2 :=
  (nadd_any h.at_ s p hs hp hL).mono fun e V' ⟨he, hN, hF⟩ => by subst ha; exact ⟨he, h.turn hN hF⟩
theorem NmB.remove (h : NmB w V pn b1 b2 L) {s : List UInt8} (hs : s.length ≤ maxLen) {a : Bool × NL} (ha : removeP L s = a) :
    Calls Try.prog 13 #[.pointer (some ⟨pn, 0, none⟩), .string ⟨s.toArray⟩] V fun e V' => e = .returned (.bool a.1) ∧ NmB w V' pn b1 b2 a.2 :=
  (nremove_any h.at_ s hs).mono fun e V' ⟨he, hN, hF⟩ => by subst ha; exact ⟨he, h.turn hN hF⟩
theorem NmB.drop (h : NmB w V pn b1 b2 L) {p : Int} (hp : (Lit.int .i64 p).wf = true) {a : Bool × NL} (ha : dropP L p = a) :
    Calls Try.prog 15 #[.pointer (some ⟨pn, 0, none⟩), .int .i64 p] V fun e V' => e = .returned (.bool a.1) ∧ NmB w V' pn b1 b2 a.2 :=
  (ndrop_any h.at_ p hp).mono fun e V' ⟨he, hN, hF⟩ => by subst ha; exact ⟨he, h.turn hN hF⟩
theorem NmB.find (h : NmB w V pn b1 b2 L) {s : List UInt8} (hs : s.length ≤ maxLen) {a : Option Int} (ha : get1 L s = a) :
    Calls Try.prog 17 #[.pointer (some ⟨pn, 0, none⟩), .string ⟨s.toArray⟩] V fun e V' => e = .returned (.tuple #[.int .i64 (a.getD 0), .bool a.isSome]) ∧ V = V' := by subst ha; exact nfind_any h.at_ s hs
theorem NmB.of (h : NmB w V pn b1 b2 L) {p : Int} (hp : (Lit.int .i64 p).wf = true) {a : Option (List UInt8)} (ha : of1 L p = a) :
    Calls Try.prog 19 #[.pointer (some ⟨pn, 0, none⟩), .int .i64 p] V fun e V' => e = .returned (.tuple #[.string ⟨(a.getD []).toArray⟩, .bool a.isSome]) ∧ V = V' := by subst ha; exact nof_any h.at_ p hp
theorem nnew_nil (w V : World) (hb : Below w.heap.size w V) : Calls Try.prog 10 #[.slice none 0 0] V fun e V' => ∃ pn b1 b2, e = .returned (.tuple #[.pointer (some ⟨pn, 0, none⟩), .int .i64 0]) ∧ NmB w V' pn b1 b2 [] :=
  (nnew_any [] none 0 0 V rfl (by omega) (.inl rfl) (fun x hx => by simp at hx)).mono fun e V' ⟨hbel, h⟩ => by
    have hz := hb.size
    rcases h with ⟨h9, _⟩ | ⟨_, pn, b1, b2, he, hN, h0, h1, h2⟩
    · exact absurd rfl h9
    · exact ⟨pn, b1, b2, he, hN, below_step hb hbel, by omega, by omega, by omega⟩

set_option maxRecDepth 100000 in
set_option maxHeartbeats 2000000 in
theorem live_any (w : World) : Calls Try.prog 8 #[] w (Yes w) := by
  have HNEW := Lib.hid (nnew_nil w w (Below.refl _ _))
  have a1 : addP [] [97] 1 = (0, [([97], 1)]) := by decide
  have a2 : addP [([97], 1)] [98] 1 = (8, [([97], 1)]) := by decide
  have a3 : dropP [([97], 1)] 1 = (true, []) := by decide
  have A1 := Lib.hid (fun pn b1 b2 V (h : NmB w V pn b1 b2 []) => h.add (by decide) (by decide) (by decide) a1)
  have A2 := Lib.hid (fun pn b1 b2 V (h : NmB w V pn b1 b2 [([97], 1)]) => h.add (by decide) (by decide) (by decide) a2)
  have A3 := Lib.hid (fun pn b1 b2 V (h : NmB w V pn b1 b2 [([97], 1)]) => h.drop (by decide) a3)
  have A4 := Lib.hid (fun pn b1 b2 V (h : NmB w V pn b1 b2 [([97], 1)]) => h.find (s := [97]) (a := some 1) (by decide) (by decide))
  have A5 := Lib.hid (fun pn b1 b2 V (h : NmB w V pn b1 b2 [([97], 1)]) => h.of (p := 1) (a := some [97]) (by decide) (by decide))
  have A6 := Lib.hid (fun pn b1 b2 V (h : NmB w V pn b1 b2 []) => h.find (s := [97]) (a := none) (by decide) (by decide))
  simp only [Option.getD_some, Option.getD_none, Option.isSome_some, Option.isSome_none] at A4 A5 A6
  clear a1 a2 a3
  go_enter Try.func8, Try.ntmps8
  go_upto_region 2 with (go_at_call 10; refine HNEW.out.mono ?_; rintro e w1 ⟨pn, b1, b2, rfl, hN⟩)
  have HN := Lib.hid hN
  have A1 := Lib.hid (A1.out _ _ _ _ hN)
  clear hN HNEW
  go_upto_region 4 with (first
    | (go_at_call 11; refine (num_any _ _).mono ?_; rintro e w' ⟨rfl, rfl⟩)
    | (go_at_call 12; (with_reducible refine A1.out.mono ?_); rintro e w2 ⟨rfl, hN2⟩; have A2 := Lib.hid (A2.out _ _ _ _ hN2))
    | (go_at_call 12; (with_reducible refine A2.out.mono ?_); rintro e w3 ⟨rfl, hN3⟩))
  have HN3 := Lib.hid hN3
  have A3 := Lib.hid (A3.out _ _ _ _ hN3)
  have A4 := Lib.hid (A4.out _ _ _ _ hN3)
  have A5 := Lib.hid (A5.out _ _ _ _ hN3)
  clear hN2 hN3 HN A1 A2
  go_upto_region 7 with (first
    | (go_at_call 17; refine A4.out.mono ?_; rintro e w4 ⟨rfl, rfl⟩)
    | (go_at_call 19; refine A5.out.mono ?_; rintro e w4 ⟨rfl, rfl⟩)
    | (go_at_call 15; refine A3.out.mono ?_; rintro e w5 ⟨rfl, hN5⟩))
  have A6 := Lib.hid (A6.out _ _ _ _ hN5)
  go_upto_region 8 with (go_at_call 17; refine A6.out.mono ?_; rintro e w6 ⟨rfl, rfl⟩)
  go_wp2
  go_ret
  exact ⟨rfl, hN5.bel⟩

/-- How many bytes the first k names bear. -/
def sumN (l : List ActN) (k : Nat) : Nat := ((l.take k).map (fun a => a.name.length)).sum
theorem sumN_succ (l : List ActN) (k : Nat) (h : k < l.length) : sumN l (k + 1) = sumN l k + l[k].name.length := by
  unfold sumN
  rw [List.take_succ_eq_append_getElem h, List.map_append, List.sum_append]
  simp
theorem sumN_le (l : List ActN) (k : Nat) (h : ∀ a ∈ l, a.Ok) : sumN l k ≤ k * 140737488351232 := by
  induction k with
  | zero => simp [sumN]
  | succ k ih =>
    by_cases hk : k < l.length
    · rw [sumN_succ l k hk]
      have := (h _ (List.getElem_mem hk)).s2
      omega
    · have : sumN l (k + 1) = sumN l k := by
        unfold sumN
        rw [List.take_of_length_le (by omega), List.take_of_length_le (by omega)]
      omega
theorem le_sum_of {x : Nat} : ∀ l : List Nat, x ∈ l → x ≤ l.sum
  | y :: r, h => by
    rw [List.sum_cons]
    rcases List.mem_cons.1 h with rfl | h
    · omega
    · have := le_sum_of r h; omega
theorem sumN_mono (l : List ActN) (k : Nat) (h : k < l.length) : l[k].name.length ≤ sumN l l.length := by
  unfold sumN
  rw [List.take_length]
  exact le_sum_of _ (List.mem_map.2 ⟨l[k], List.getElem_mem h, rfl⟩)
def hugeB (l : List ActN) : Bool := decide (150 < l.length ∨ 20000 < sumN l l.length)
theorem huge_not {l : List ActN} {n : Nat} (hl : l.length = n) (h : hugeB l = false) : n ≤ 150 ∧ ∀ a ∈ l, a.name.length ≤ 20000 := by
  unfold hugeB at h
  rw [decide_eq_false_iff_not] at h
  refine ⟨by omega, fun a ha => ?_⟩
  obtain ⟨j, hj, rfl⟩ := List.getElem_of_mem ha
  have := sumN_mono l j hj
  omega

set_option maxHeartbeats 400000 in
theorem huge_any (A : Option Addr) (l : List ActN) (n c : Nat) (w : World) (hl : l.length = n) (hn : n ≤ 9223372036854775807) (hr : RdNA w A l) (ho : ∀ a ∈ l, a.Ok) :
    Calls Try.prog 7 #[.slice A n c] w fun e w' => e = .returned (.bool (hugeB l)) ∧ w = w' := by
  have HL := Lib.hid hl
  have HO := Lib.hid ho
  clear hl ho
  go_enter Try.func7, Try.ntmps7
  go_wp2
  go_loop [3, 4] (fun s i => ∃ k : Nat, k ≤ n ∧ k ≤ 151 ∧ i = .int .i64 k ∧ s = .int .i64 (sumN l k)) (fun _ i => 151 - (intOf i).toNat)
  case atStart => exact ⟨0, Nat.zero_le _, by omega, rfl, rfl⟩
  case round =>
    obtain ⟨k, hk, hk2, rfl, rfl⟩ := hrel
    have hs1 := sumN_le l k HO.out
    by_cases hlt : k < n ∧ k ≤ 150
    · obtain ⟨hlt1, hlt2⟩ := hlt
      have hd1 : decide ((k : Int) < n) = true := by simp; omega
      have hkl : k < l.length := by rw [HL.out]; exact hlt1
      obtain ⟨b, off, rfl, c0, c1, c2⟩ := hr.at_ hkl
      have hp2 := (HO.out _ (List.getElem_mem hkl)).s2
      have HS := Lib.hid (sumN_succ l k hkl)
      generalize (l[k]'hkl).name = nm at *
      generalize sumN l k = sk at *
      go_wp2
      go_round
      case rel => exact ⟨k + 1, by omega, by omega, by go_num, by rw [HS.out]; go_num⟩
      case measure => simp [intOf]; omega
    · by_cases h150 : 150 < n
      · have HF := Lib.hid (show hugeB l = true by unfold hugeB; rw [HL.out]; simp [h150])
        have hex : (decide (k < n) = true ∧ decide ((k : Int) ≤ 150) = false) ∨ decide (k < n) = false := by
          by_cases h1 : k < n
          · exact .inl ⟨by simp; omega, by simp; omega⟩
          · exact .inr (by simp; omega)
        have hd3 : decide (150 < (n : Int)) = true := by simp; omega
        clear hlt
        rcases hex with ⟨hd1, hd2⟩ | hd1
        all_goals
          go_wp2
          go_ret
          exact ⟨by rw [HF.out]; rfl, rfl⟩
      · obtain rfl : k = n := by omega
        have HF := Lib.hid (show hugeB l = decide (20000 < (sumN l k : Int)) by
          unfold hugeB; rw [HL.out]; rw [decide_eq_decide]; omega)
        have hd1 : decide ((k : Int) < k) = false := by simp
        have hd3 : decide (150 < (k : Int)) = false := by simp; omega
        clear hlt
        generalize sumN l k = sk at *
        go_wp2
        go_ret
        exact ⟨by rw [HF.out]; rfl, rfl⟩
end
end Go.Proofs.Ytfkolemkmhcbfaa
