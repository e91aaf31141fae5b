/- The document's reader in memory; the walks of its fail, taken, Uint of layer 1. The walks of Int, Text, Byte, Done, New of the document's reader of layer 1. -/
import Derived.Test.YtefnjplfemgibaaTapeD
import Derived.Test.YtefnjplfemgibaaRefG
import Derived.Test.YtefnjplfemgibaaLeastL
import Derived.Test.YtefnjplfemgibaaBackL
namespace Go.Proofs.Ytefnjplfemgibaa
section
open Go.RowKit
set_option linter.unusedVariables false

structure ReadAt (pt : Nat) (A : Option Addr) (c : Nat) (t : TS) (w : World) : Prop where
  obj : Blk w pt 100 #[.slice A t.bytes.length c, .int .i64 (t.pos : Int), .int .i64 (t.fault : Int), .int .i64 (t.spot : Int)]
  rd : Rd w A t.bytes
  ne : ∀ b off, A = some ⟨b, off, none⟩ → b ≠ pt
  cap : t.bytes.length ≤ c
  capm : c ≤ 9223372036854775807
  pos : t.pos ≤ t.bytes.length
  flt : t.fault ≤ 1000
  spt : t.spot ≤ t.bytes.length

section
variable {pt : Nat} {A : Option Addr} {c : Nat} {t : TS} {w w' : World}
theorem ReadAt.cells (h : ReadAt pt A c t w) : w.cell? ⟨pt, 0, none⟩ = some (.slice A t.bytes.length c) ∧ w.cell? ⟨pt, 1, none⟩ = some (.int .i64 (t.pos : Int)) ∧ w.cell? ⟨pt, 2, none⟩ = some (.int .i64 (t.fault : Int)) ∧ w.cell? ⟨pt, 3, none⟩ = some (.int .i64 (t.spot : Int)) :=
  ⟨h.obj.cell 0, h.obj.cell 1, h.obj.cell 2, h.obj.cell 3⟩
theorem ReadAt.keep (h : ReadAt pt A c t w) (hb : Below w.heap.size w w') : ReadAt pt A c t w' := ⟨h.obj.keep hb, h.rd.below hb, h.ne, h.cap, h.capm, h.pos, h.flt, h.spt⟩
theorem ReadAt.far {F : Nat → Prop} (h : ReadAt pt A c t w) (hf : Fr F w w') (h1 : ¬ F pt) (h2 : ∀ b off, A = some ⟨b, off, none⟩ → ¬ F b) : ReadAt pt A c t w' :=
  ⟨hf.blk h.obj h1, hf.rd h.rd (fun b off e _ => h2 b off e), h.ne, h.cap, h.capm, h.pos, h.flt, h.spt⟩
structure RAct (w : World) (pt : Nat) (A : Option Addr) (c : Nat) (t' : TS) (w' : World) : Prop where
  tape : ReadAt pt A c t' w'
  fr : Fr (fun k => k = pt) w w'
theorem drew_ract (h : ReadAt pt A c t w) (q : Nat) : RAct w pt A c t (w.drewN q) := ⟨h.keep (below_drewN (Below.refl _ _) q), Fr.of_below (below_drewN (Below.refl _ _) q) _⟩
theorem RAct.trans {t2 t3 : TS} {w2 w3 : World} (a : RAct w pt A c t2 w2) (b : RAct w2 pt A c t3 w3) : RAct w pt A c t3 w3 := ⟨b.tape, a.fr.same b.fr⟩

set_option maxHeartbeats 400000 in
theorem rfail_ok (h : ReadAt pt A c t w) (e a : Nat) (he : e ≤ 1000) (ha : a ≤ t.bytes.length) (hf : t.fault = 0) :
    Calls Try.prog 86 #[.pointer (some ⟨pt, 0, none⟩), .int .i64 e, .int .i64 a] w fun r w' => r = .returned (.tuple #[]) ∧ RAct w pt A c (t.stops e a) w' := by
  obtain ⟨c0, c1, c2, c3⟩ := h.cells
  rw [hf] at c2
  have f1 := h.obj.frozen 1
  have f2 := h.obj.frozen 2
  have f3 := h.obj.frozen 3
  have HA : Hid (RAct w pt A c (t.stops e a) (((w.setCell ⟨pt, 2, none⟩ (.int .i64 (e : Int))).setCell ⟨pt, 3, none⟩ (.int .i64 (a : Int))).setCell ⟨pt, 1, none⟩ (.int .i64 (a : Int)))) := by
    have hfr := ((Fr.setCell (fun k => k = pt) w (p := ⟨pt, 2, none⟩) (fun _ => rfl) (.int .i64 (e : Int))).same (Fr.setCell (fun k => k = pt) _ (p := ⟨pt, 3, none⟩) (fun _ => rfl) (.int .i64 (a : Int)))).same (Fr.setCell (fun k => k = pt) _ (p := ⟨pt, 1, none⟩) (fun _ => rfl) (.int .i64 (a : Int)))
    exact ⟨⟨((h.obj.set_ 2 _).set_ 3 _).set_ 1 _, hfr.rd h.rd (fun b off e _ => h.ne b off e), h.ne, h.cap, h.capm, ha, he, ha⟩, hfr⟩
  clear hf
  go_enter Try.func86, Try.ntmps86
  go_wp2
  go_end0
  exact ⟨rfl, HA.out⟩

theorem be_head_ne' {n k : Nat} (hn : n < 18446744073709551616) (hk : wid n = k + 1) : UInt8.ofNat (n / 256 ^ k) ≠ 0 := be_head_ne hn hk
/-- Whether a number has as many bytes as were read. -/
theorem wid_told (l : List UInt8) (h8 : l.length ≤ 8) : wid (toldN l) = l.length ↔ ¬ (0 < l.length ∧ l.head? = some 0) := by
  obtain ⟨h1, h2, h3⟩ := be_told l.length l rfl h8
  constructor
  · rintro hw ⟨h0, hz⟩
    obtain ⟨k, hk⟩ : ∃ k, l.length = k + 1 := ⟨l.length - 1, by omega⟩
    have hge := wid_ge (toldN_lt l) (hw.trans hk)
    have hb : be (k + 1) (toldN l) = l := by rw [← hk]; exact h1
    have hh : l.head? = some (UInt8.ofNat (toldN l / 256 ^ k)) := by
      conv => lhs; rw [← hb]
      rfl
    rw [hz] at hh
    exact be_head_ne' (toldN_lt l) (hw.trans hk) (Option.some.inj hh).symm
  · intro hz
    refine wid_of (toldN_lt l) h2 (fun j hj => ?_)
    have h0 : 0 < l.length := by omega
    have h4 := h3 h0 (fun e => hz ⟨h0, by rw [List.head?_eq_getElem?, List.getElem?_eq_getElem h0, e]⟩)
    rw [hj] at h4
    simpa using h4

def MoreIs (signed : Bool) (more : Int) : Prop := (signed = false ∧ more = 0) ∨ (signed = true ∧ more = 128)
def RNumEnds (w : World) (pt : Nat) (A : Option Addr) (c : Nat) (x : (Nat × Bool) × TS) (r : Ending) (w' : World) : Prop :=
  r = .returned (.tuple #[.int .u64 x.1.1, .bool x.1.2]) ∧ RAct w pt A c x.2 w'

set_option maxHeartbeats 1000000 in
theorem taken_stopped (h : ReadAt pt A c t w) (signed : Bool) (more : Int) (hf : t.fault ≠ 0) : Calls Try.prog 85 #[.pointer (some ⟨pt, 0, none⟩), .int .i64 more] w (RNumEnds w pt A c (t.number signed)) := by
  have HN := Lib.hid (show t.number signed = ((0, false), t) by unfold TS.number; rw [if_neg hf])
  have hA := drew_ract h 0
  obtain ⟨c0, c1, c2, c3⟩ := h.cells
  have hfb : ((t.fault : Int) != 0) = true := by simp [hf]
  clear hf
  go_enter Try.func85, Try.ntmps85
  go_wp2
  go_ret2
  rw [HN.out]
  exact ⟨rfl, hA⟩

set_option maxHeartbeats 1000000 in
theorem taken_end (h : ReadAt pt A c t w) (signed : Bool) (more : Int) (hf : t.fault = 0) (hp : ¬ t.pos < t.bytes.length) : Calls Try.prog 85 #[.pointer (some ⟨pt, 0, none⟩), .int .i64 more] w (RNumEnds w pt A c (t.number signed)) := by
  have HN := Lib.hid (show t.number signed = ((0, false), t.stops 3 t.pos) by unfold TS.number; rw [if_pos hf, List.getElem?_eq_none (by omega)])
  have HF := Lib.hid (rfail_ok h 3 t.pos (by omega) h.pos hf)
  obtain ⟨c0, c1, c2, c3⟩ := h.cells
  rw [hf] at c2
  have hd : decide (t.bytes.length ≤ t.pos) = true := by simp; omega
  clear hf
  go_enter Try.func85, Try.ntmps85
  go_wp2_with (go_at_call 86; refine HF.out.mono ?_; rintro e w2 ⟨rfl, hA⟩)
  go_ret2
  rw [HN.out]
  exact ⟨rfl, hA⟩

set_option maxHeartbeats 4000000 in
theorem taken_more (h : ReadAt pt A c t w) (signed : Bool) (more : Int) (hf : t.fault = 0) (hp : t.pos < t.bytes.length) (hd wd : Nat) (below : Bool) (hhd : (t.bytes[t.pos]'hp).toNat = hd) (hways : (signed = false ∧ more = 0 ∧ wd = hd ∧ below = false) ∨ (signed = true ∧ more = 128 ∧ hd < 128 ∧ wd = hd ∧ below = false) ∨ (signed = true ∧ more = 128 ∧ 128 ≤ hd ∧ wd = hd - 128 ∧ below = true)) :
    Calls Try.prog 85 #[.pointer (some ⟨pt, 0, none⟩), .int .i64 more] w (RNumEnds w pt A c (t.rest wd below)) := by
  obtain ⟨c0, c1, c2, c3⟩ := h.cells
  rw [hf] at c2
  have f1 := h.obj.frozen 1
  obtain ⟨b, off, hA, _, hcl⟩ := h.rd.at_ hp
  have hpb := h.pos
  have hcm := h.capm
  have hcap := h.cap
  have hd8 : hd < 256 := by rw [← hhd]; exact u8_lt _
  rw [hhd] at hcl
  subst hA
  have HF10 := Lib.hid (rfail_ok h 10 t.pos (by omega) hpb hf)
  have HF3 := Lib.hid (rfail_ok h 3 t.pos (by omega) hpb hf)
  have hw8 : wd < 256 := by omega
  have hdp : decide (t.bytes.length ≤ t.pos) = false := by simp; omega
  have HRD := Lib.hid h.rd
  have HOK : Hid (∀ n, t.pos + 1 + n ≤ t.bytes.length → RAct w pt (some ⟨b, off, none⟩) c { t with pos := t.pos + 1 + n } (w.setCell ⟨pt, 1, none⟩ (.int .i64 ((t.pos : Int) + 1 + (n : Int))))) := fun n hn => by
    have hfr := Fr.setCell (fun k => k = pt) w (p := ⟨pt, 1, none⟩) (fun _ => rfl) (.int .i64 ((t.pos : Int) + 1 + (n : Int)))
    have e : (t.pos : Int) + 1 + (n : Int) = ((t.pos + 1 + n : Nat) : Int) := by omega
    refine ⟨⟨?_, hfr.rd h.rd (fun b off e _ => h.ne b off e), h.ne, h.cap, h.capm, hn, h.flt, h.spt⟩, hfr⟩
    have := h.obj.set_ 1 (.int .i64 ((t.pos : Int) + 1 + (n : Int)))
    rw [e] at this ⊢
    exact this
  have hways2 : (more = 0 ∧ wd = hd ∧ below = false) ∨ (more = 128 ∧ decide ((128 : Int) ≤ (hd : Int)) = false ∧ wd = hd ∧ below = false) ∨ (more = 128 ∧ decide ((128 : Int) ≤ (hd : Int)) = true ∧ (hd : Int) - 128 = (wd : Int) ∧ below = true) := by
    rcases hways with ⟨h1, h2, h3, h4⟩ | ⟨h1, h2, h3, h4, h5⟩ | ⟨h1, h2, h3, h4, h5⟩
    · exact .inl ⟨h2, h3, h4⟩
    · exact .inr (.inl ⟨h2, by simp; omega, h4, h5⟩)
    · exact .inr (.inr ⟨h2, by simp; omega, by omega, h5⟩)
  clear hways hhd hf
  by_cases hw : 8 < wd
  · have HN := Lib.hid (show t.rest wd below = ((0, false), t.stops 10 t.pos) by unfold TS.rest; rw [if_pos hw])
    rcases hways2 with ⟨rfl, rfl, rfl⟩ | ⟨rfl, hd1, rfl, rfl⟩ | ⟨rfl, hd1, hd2, rfl⟩
    all_goals
      go_enter Try.func85, Try.ntmps85
      go_wp2_with (go_at_call 86; refine HF10.out.mono ?_; rintro e w3 ⟨rfl, hA3⟩)
      go_ret2
      rw [HN.out]
      exact ⟨rfl, hA3⟩
  · by_cases hsh : t.bytes.length - (t.pos + 1) < wd
    · have HN := Lib.hid (show t.rest wd below = ((0, false), t.stops 3 t.pos) by unfold TS.rest; rw [if_neg hw, if_pos hsh])
      have hds : decide ((t.bytes.length : Int) - (t.pos : Int) - 1 < (wd : Int)) = true := by simp; omega
      rcases hways2 with ⟨rfl, rfl, rfl⟩ | ⟨rfl, hd1, rfl, rfl⟩ | ⟨rfl, hd1, hd2, rfl⟩
      all_goals
        go_enter Try.func85, Try.ntmps85
        go_wp2_with (go_at_call 86; refine HF3.out.mono ?_; rintro e w3 ⟨rfl, hA3⟩)
        go_ret2
        rw [HN.out]
        exact ⟨rfl, hA3⟩
    · have hds : decide ((t.bytes.length : Int) - (t.pos : Int) - 1 < (wd : Int)) = false := by simp; omega
      obtain ⟨l, hl⟩ : ∃ l, l = (t.bytes.drop (t.pos + 1)).take wd := ⟨_, rfl⟩
      have hll : l.length = wd := by rw [hl]; simp; omega
      have HLL := Lib.hid hll
      have hend : (t.rest wd below = ((toldN l, below), { t with pos := t.pos + 1 + wd }) ∧ wid (toldN l) = wd) ∨ (t.rest wd below = ((0, false), t.stops 10 t.pos) ∧ ((wid (toldN l) : Int) != (wd : Int)) = true) := by
        have hwt := wid_told l (by omega)
        rw [hll] at hwt
        have hhead : 0 < wd → (l.head? = some 0 ↔ (t.bytes.drop (t.pos + 1)).head? = some 0) := fun h0 => by
          rw [hl, List.head?_take, if_neg (by omega)]
        by_cases hz : 0 < wd ∧ (t.bytes.drop (t.pos + 1)).head? = some 0
        · refine .inr ⟨by unfold TS.rest; rw [if_neg hw, if_neg hsh, if_pos hz], ?_⟩
          have : ¬ wid (toldN l) = wd := fun e => hwt.1 e ⟨hz.1, (hhead hz.1).2 hz.2⟩
          simp; omega
        · refine .inl ⟨by unfold TS.rest; rw [if_neg hw, if_neg hsh, if_neg hz, hl], hwt.2 (fun e => hz ⟨e.1, (hhead e.1).1 e.2⟩)⟩
      have HEND := Lib.hid hend
      have HL := Lib.hid hl
      have hfit : t.pos + 1 + wd ≤ t.bytes.length := by omega
      have HCELL : Hid (∀ k (hk : k < l.length), w.cell? ⟨b, off + (t.pos + 1 + k), none⟩ = some (.int .u8 (l[k].toNat : Int))) := by
        intro k hk
        have hk2 : t.pos + 1 + k < t.bytes.length := by omega
        obtain ⟨b', off', e, _, hc⟩ := HRD.out.at_ hk2
        injection e with e
        injection e with e1 e2
        subst e1 e2
        rw [hc]
        simp only [HL.out, List.getElem_take, List.getElem_drop]
      clear hend hl hll
      rcases hways2 with ⟨rfl, rfl, rfl⟩ | ⟨rfl, hd1, rfl, rfl⟩ | ⟨rfl, hd1, hd2, rfl⟩
      all_goals
        go_enter Try.func85, Try.ntmps85
        go_wp2
        go_loop [9, 10] (fun s i => ∃ k : Nat, k ≤ wd ∧ i = .int .i64 ((k : Int) + 1) ∧ s = .int .u64 (toldN (l.take k))) (fun _ i => wd + 1 - (intOf i).toNat)
        case atStart => exact ⟨0, Nat.zero_le _, rfl, rfl⟩
        case round =>
          obtain ⟨k, hk, rfl, rfl⟩ := hrel
          by_cases hlt : k < wd
          · have hkl : k < l.length := by rw [HLL.out]; exact hlt
            have hck := HCELL.out k hkl
            have HS := Lib.hid (show toldN (l.take (k + 1)) = toldN (l.take k) * 256 % 18446744073709551616 + l[k].toNat by
              rw [← toldN_snoc, ← List.take_succ_eq_append_getElem hkl])
            have hck8 := u8_lt l[k]
            have htk := toldN_lt (l.take k)
            generalize l[k].toNat = ck at *
            generalize toldN (l.take k) = tk at *
            have hd5 : decide ((k : Int) + 1 ≤ (wd : Int)) = true := by simp; omega
            obtain ⟨j, hj, hj2⟩ : ∃ j : Nat, (t.pos : Int) + ((k : Int) + 1) = (j : Int) ∧ t.pos + 1 + k = j := ⟨t.pos + 1 + k, by omega, rfl⟩
            rw [hj2] at hck
            have hjl : j < t.bytes.length := by omega
            clear hj2
            go_wp2
            go_round
            case rel => exact ⟨k + 1, by omega, by go_num, by rw [HS.out, or_byte _ _ htk hck8]⟩
            case measure => simp [intOf]; omega
          · obtain rfl : wd = k := by omega
            have hd5 : decide ((wd : Int) + 1 ≤ (wd : Int)) = false := by simp; omega
            rw [show l.take wd = l from List.take_of_length_le (by rw [HLL.out]; omega)]
            have HMY := Lib.hid (many_any (toldN l) w (toldN_lt l))
            have htl := toldN_lt l
            rcases HEND.out with ⟨e1, e2⟩ | ⟨e1, e2⟩
            · rw [e2] at HMY
              have E1 := Lib.hid e1
              clear e1 e2
              generalize toldN l = tl at *
              have HK := Lib.hid (HOK.out wd hfit)
              have hs1 : (t.pos : Int) + 1 + (wd : Int) ≤ 9223372036854775807 := by omega
              go_wp2_with (go_at_call 98; refine HMY.out.mono ?_; rintro e w3 ⟨rfl, rfl⟩)
              go_ret2
              rw [E1.out]
              exact ⟨rfl, HK.out⟩
            · have E1 := Lib.hid e1
              clear e1
              generalize wid (toldN l) = wl at *
              generalize toldN l = tl at *
              go_wp2_with (first
                | (go_at_call 98; refine HMY.out.mono ?_; rintro e w3 ⟨rfl, rfl⟩)
                | (go_at_call 86; refine HF10.out.mono ?_; rintro e w3 ⟨rfl, hA3⟩))
              go_ret2
              rw [E1.out]
              exact ⟨rfl, hA3⟩

theorem taken_any (h : ReadAt pt A c t w) (signed : Bool) (more : Int) (hm : MoreIs signed more) : Calls Try.prog 85 #[.pointer (some ⟨pt, 0, none⟩), .int .i64 more] w (RNumEnds w pt A c (t.number signed)) := by
  by_cases hf : t.fault = 0
  · by_cases hp : t.pos < t.bytes.length
    · have e : t.number signed = if signed = true ∧ 128 ≤ (t.bytes[t.pos]).toNat then t.rest ((t.bytes[t.pos]).toNat - 128) true else t.rest (t.bytes[t.pos]).toNat false := by
        unfold TS.number
        rw [if_pos hf, List.getElem?_eq_getElem hp]
      rw [e]
      by_cases hs : signed = true ∧ 128 ≤ (t.bytes[t.pos]).toNat
      · rw [if_pos hs]
        rcases hm with ⟨rfl, rfl⟩ | ⟨rfl, rfl⟩
        · exact absurd hs.1 (by simp)
        · exact taken_more h true 128 hf hp _ _ true rfl (.inr (.inr ⟨rfl, rfl, hs.2, rfl, rfl⟩))
      · rw [if_neg hs]
        rcases hm with ⟨rfl, rfl⟩ | ⟨rfl, rfl⟩
        · exact taken_more h false 0 hf hp _ _ false rfl (.inl ⟨rfl, rfl, rfl, rfl⟩)
        · exact taken_more h true 128 hf hp _ _ false rfl (.inr (.inl ⟨rfl, rfl, by simp at hs; omega, rfl, rfl⟩))
    · exact taken_end h signed more hf hp
  · exact taken_stopped h signed more hf

set_option maxHeartbeats 400000 in
theorem ruint_any (h : ReadAt pt A c t w) : Calls Try.prog 50 #[.pointer (some ⟨pt, 0, none⟩)] w fun r w' => r = .returned (.int .u64 (t.number false).1.1) ∧ RAct w pt A c (t.number false).2 w' := by
  have HN := Lib.hid (taken_any h false 0 (.inl ⟨rfl, rfl⟩))
  generalize t.number false = x at *
  go_enter Try.func50, Try.ntmps50
  go_wp2_with (go_at_call 85; refine HN.out.mono ?_; rintro e w2 ⟨rfl, hA⟩)
  go_ret
  exact ⟨rfl, hA⟩
end
end
section
open Go.RowKit
set_option linter.unusedVariables false

theorem number_failed {t : TS} (s : Bool) (h : (t.number s).2.fault ≠ 0) : (t.number s).1 = (0, false) := by
  have hr : ∀ wd b, t.fault = 0 → (t.rest wd b).2.fault ≠ 0 → (t.rest wd b).1 = (0, false) := by
    intro wd b hf
    unfold TS.rest
    by_cases h1 : 8 < wd
    · rw [if_pos h1]; intro _; rfl
    · rw [if_neg h1]
      by_cases h2 : t.bytes.length - (t.pos + 1) < wd
      · rw [if_pos h2]; intro _; rfl
      · rw [if_neg h2]
        by_cases h3 : 0 < wd ∧ (t.bytes.drop (t.pos + 1)).head? = some 0
        · rw [if_pos h3]; intro _; rfl
        · rw [if_neg h3]; intro hne; exact absurd hf hne
  by_cases hf : t.fault = 0
  · cases hb : t.bytes[t.pos]? with
    | none => unfold TS.number; rw [if_pos hf, hb]
    | some x =>
      by_cases hs : s = true ∧ 128 ≤ x.toNat
      · have e : t.number s = t.rest (x.toNat - 128) true := by unfold TS.number; rw [if_pos hf, hb]; exact if_pos hs
        rw [e] at h ⊢
        exact hr _ _ hf h
      · have e : t.number s = t.rest x.toNat false := by unfold TS.number; rw [if_pos hf, hb]; exact if_neg hs
        rw [e] at h ⊢
        exact hr _ _ hf h
  · unfold TS.number; rw [if_neg hf]

section
variable {pt : Nat} {A : Option Addr} {c : Nat} {t : TS} {w w' : World}
theorem RAct.drewN {w2 : World} (a : RAct w pt A c t w2) (q : Nat) : RAct w pt A c t (w2.drewN q) := a.trans (drew_ract a.tape q)

set_option maxHeartbeats 1000000 in
theorem rdone_any (h : ReadAt pt A c t w) : Calls Try.prog 52 #[.pointer (some ⟨pt, 0, none⟩)] w fun r w' => r = .returned (.int .i64 t.end_) ∧ ∃ q, w' = w.drewN q := by
  obtain ⟨c0, c1, c2, c3⟩ := h.cells
  have hcap := h.cap
  have hcm := h.capm
  by_cases hf : t.fault = 0
  · rw [hf] at c2
    by_cases hp : t.pos < t.bytes.length
    · have HI := Lib.hid (show t.end_ = 4 by unfold TS.end_; rw [if_pos ⟨hf, hp⟩])
      have hd : decide (t.pos < t.bytes.length) = true := by simpa using hp
      clear hf
      go_enter Try.func52, Try.ntmps52
      go_wp2
      go_quiet (fail)
      go_wp2
      go_ret
      rw [HI.out]
      exact ⟨rfl, _, rfl⟩
    · have HI := Lib.hid (show t.end_ = 0 by unfold TS.end_; rw [if_neg (fun x => hp x.2), hf])
      have hd : decide (t.pos < t.bytes.length) = false := by simpa using hp
      clear hf
      go_enter Try.func52, Try.ntmps52
      go_wp2
      go_quiet (fail)
      go_wp2
      go_ret
      rw [HI.out]
      exact ⟨rfl, _, rfl⟩
  · have HI := Lib.hid (show t.end_ = t.fault by unfold TS.end_; rw [if_neg (fun x => hf x.1)])
    have hd : ((t.fault : Int) == 0) = false := by simp [hf]
    go_enter Try.func52, Try.ntmps52
    go_wp2
    go_quiet (fail)
    go_wp2
    go_ret
    rw [HI.out]
    exact ⟨rfl, _, rfl⟩

theorem rmove (h : ReadAt pt A c t w) (p : Nat) (hp : p ≤ t.bytes.length) : RAct w pt A c { t with pos := p } (w.setCell ⟨pt, 1, none⟩ (.int .i64 (p : Int))) := by
  have hfr := Fr.setCell (fun k => k = pt) w (p := ⟨pt, 1, none⟩) (fun _ => rfl) (.int .i64 (p : Int))
  exact ⟨⟨h.obj.set_ 1 _, hfr.rd h.rd (fun b off e _ => h.ne b off e), h.ne, h.cap, h.capm, hp, h.flt, h.spt⟩, hfr⟩

def RStrEnds (w : World) (pt : Nat) (A : Option Addr) (c : Nat) (x : List UInt8 × TS) (r : Ending) (w' : World) : Prop :=
  r = .returned (.string ⟨x.1.toArray⟩) ∧ RAct w pt A c x.2 w'

set_option maxHeartbeats 2000000 in
theorem rtext_any (h : ReadAt pt A c t w) (most : Int) (hm : most ≤ 9223372036854775807) : Calls Try.prog 51 #[.pointer (some ⟨pt, 0, none⟩), .int .i64 most] w (RStrEnds w pt A c (t.str most)) := by
  have HN := Lib.hid (ruint_any h)
  have hlt := number_lt (t := t) false
  have hby := number_stops_le (t := t) false
  have hpos := h.pos
  obtain ⟨c0, c1, c2, c3⟩ := h.cells
  have HI : Hid (t.str most = if (t.number false).2.fault ≠ 0 then ([], (t.number false).2)
    else if (max most 0).toNat < (t.number false).1.1 then ([], (t.number false).2.stops 1 t.pos)
    else if (t.number false).2.bytes.length - (t.number false).2.pos < (t.number false).1.1 then ([], (t.number false).2.stops 3 t.pos)
    else (((t.number false).2.bytes.drop (t.number false).2.pos).take (t.number false).1.1, { (t.number false).2 with pos := (t.number false).2.pos + (t.number false).1.1 })) := rfl
  obtain ⟨n, b, t2, hx⟩ : ∃ n b t2, t.number false = ((n, b), t2) := ⟨_, _, _, rfl⟩
  rw [hx] at HN HI hlt hby
  simp only at hlt hby HN HI
  have hpos2 : t.pos ≤ t2.bytes.length := by rw [hby]; exact hpos
  clear hx hby
  obtain ⟨mx, hmx⟩ : ∃ mx : Nat, (mx : Int) = max most 0 := ⟨(max most 0).toNat, by omega⟩
  have hmx2 : (max most 0).toNat = mx := by omega
  rw [hmx2] at HI
  have hmx9 : mx ≤ 9223372036854775807 := by omega
  have qm : max most 0 = (mx : Int) := hmx.symm
  have qu : IntKind.u64.wrap (mx : Int) = (mx : Int) := by show (mx : Int) % 18446744073709551616 = _; omega
  clear hmx hmx2
  go_enter Try.func51, Try.ntmps51
  go_upto_region 3 with (go_at_call 50; refine HN.out.mono ?_; rintro e w2 ⟨rfl, hA⟩)
  obtain ⟨d0, d1, d2, d3⟩ := hA.tape.cells
  have hp2 := hA.tape.pos
  have hcap2 := hA.tape.cap
  have hcm2 := hA.tape.capm
  clear c0 c1 c2 c3 HN
  by_cases hf : t2.fault ≠ 0
  · rw [if_pos hf] at HI
    have hfb : ((t2.fault : Int) != 0) = true := by simp [hf]
    go_wp2
    go_ret
    rw [HI.out]
    exact ⟨rfl, hA⟩
  · rw [if_neg hf] at HI
    have hf0 : t2.fault = 0 := by omega
    rw [hf0] at d2
    have HF0 := Lib.hid hf0
    clear hf hf0
    by_cases hlong : mx < n
    · rw [if_pos hlong] at HI
      have hdl : decide (mx < n) = true := by simpa using hlong
      go_wp2_with (go_at_call 86; refine (rfail_ok hA.tape 1 t.pos (by omega) hpos2 HF0.out).mono ?_; rintro e w3 ⟨rfl, hA3⟩)
      go_ret
      rw [HI.out]
      exact ⟨rfl, hA.trans hA3⟩
    · rw [if_neg hlong] at HI
      have hdl : decide (mx < n) = false := by simpa using hlong
      have hn9 : n ≤ 9223372036854775807 := by omega
      obtain ⟨rs, hrs, hrs2⟩ : ∃ rs : Nat, (t2.bytes.length : Int) - (t2.pos : Int) = (rs : Int) ∧ t2.bytes.length - t2.pos = rs := ⟨t2.bytes.length - t2.pos, by omega, rfl⟩
      rw [hrs2] at HI
      have q1 : IntKind.i64.wrap ((t2.bytes.length : Int) - (t2.pos : Int)) = (rs : Int) := by rw [hrs]; exact IntWalk.i64_in _ (by omega)
      have q2 : IntKind.u64.wrap (rs : Int) = (rs : Int) := by show (rs : Int) % 18446744073709551616 = _; omega
      by_cases hsh : rs < n
      · rw [if_pos hsh] at HI
        have hds : decide (rs < n) = true := by simpa using hsh
        clear hrs2
        go_wp2
        go_quiet (fail)
        go_wp2_with (go_at_call 86; refine (rfail_ok (hA.drewN _).tape 3 t.pos (by omega) hpos2 HF0.out).mono ?_; rintro e w3 ⟨rfl, hA3⟩)
        go_ret
        rw [HI.out]
        exact ⟨rfl, (hA.drewN _).trans hA3⟩
      · rw [if_neg hsh] at HI
        have hds : decide (rs < n) = false := by simpa using hsh
        obtain ⟨x, hx⟩ : ∃ x, x = (t2.bytes.drop t2.pos).take n := ⟨_, rfl⟩
        rw [← hx] at HI
        have HXL := Lib.hid (show x.length = n by rw [hx]; simp; omega)
        have HX := Lib.hid hx
        obtain ⟨p, hpp, hpi⟩ : ∃ p : Nat, t2.pos + n = p ∧ (t2.pos : Int) + (n : Int) = (p : Int) := ⟨t2.pos + n, rfl, by omega⟩
        have hpl : p ≤ t2.bytes.length := by omega
        have q3 : IntKind.i64.wrap ((t2.pos : Int) + (n : Int)) = (p : Int) := by rw [hpi]; exact IntWalk.i64_in _ (by omega)
        rw [hpp] at HI
        have f1 := hA.tape.obj.frozen 1
        have HMV : Hid (∀ q, RAct w pt A c { t2 with pos := p } ((w2.drewN q).setCell ⟨pt, 1, none⟩ (.int .i64 (p : Int)))) := fun q => (hA.drewN q).trans (rmove (hA.drewN q).tape p hpl)
        clear hx hrs2
        go_wp2
        go_quiet (fail)
        go_upto_region 12 with (fail)
        refine wp_world (fun W => RAct w pt A c { t2 with pos := p } W) (HMV.out _) ?_
        intro w3 hA3
        obtain ⟨e0, e1, e2, e3⟩ := hA3.tape.cells
        simp only at e0 e1
        have q4 : (p : Int) - (n : Int) = (t2.pos : Int) := by omega
        have q5 : IntKind.i64.wrap ((p : Int) - (n : Int)) = (t2.pos : Int) := by rw [q4]; exact IntWalk.i64_in _ (by omega)
        have q6 : (0 : Int) ≤ (t2.pos : Int) := by omega
        have q7 : (t2.pos : Int) ≤ (p : Int) := by omega
        have q8 : (p : Int) ≤ (c : Int) := by omega
        have q9 : p - t2.pos = n := by omega
        have HRP : Rd w3 (A.map fun x => x.add t2.pos) x := by rw [HX.out]; exact rd_part hA3.tape.rd t2.pos n
        have HCV := fun (q cc : Nat) => run_str (P := Try.prog) Try.underlying51 Try.underlying5 Try.underlying9 (w3.drewN q) (A.map fun x => x.add t2.pos) n cc x HXL.out (HRP.below (below_drewN (Below.refl _ _) q))
        clear hrs q1 q2 q3 hpi hpp HMV f1 d0 d1 d2 d3
        by_cases hcp : c = t2.pos
        · have hn0 : n = 0 := by omega
          have HX0 := Lib.hid (show x = [] from List.eq_nil_of_length_eq_zero (by rw [HXL.out]; exact hn0))
          have HCV0 := fun (q cc : Nat) => run_str (P := Try.prog) Try.underlying51 Try.underlying5 Try.underlying9 (w3.drewN q) A n cc [] (by rw [hn0]; rfl) (.inl rfl)
          have HA9 : Hid (∀ q, RAct w pt A t2.pos { t2 with pos := p } (w3.drewN q)) := fun q => by have h9 := hA3.drewN q; rwa [hcp] at h9
          clear HCV HRP hn0
          go_quiet (fail)
          go_wp2
          go_ret
          rw [HI.out, HX0.out]
          exact ⟨rfl, HA9.out _⟩
        · clear HRP
          go_quiet (fail)
          go_wp2
          go_ret
          rw [HI.out]
          exact ⟨rfl, hA3.drewN _⟩
end

set_option maxHeartbeats 600000 in
theorem rnew_any (A : Option Addr) (l : List UInt8) (n c : Nat) (w : World) (hl : l.length = n) (hn : n ≤ 140737488351232) (hr : Rd w A l) :
    Calls Try.prog 48 #[.slice A n c] w fun r w' => ∃ pt B cB, r = .returned (.pointer (some ⟨pt, 0, none⟩)) ∧ ReadAt pt B cB ⟨l, 0, 0, 0⟩ w' ∧ Below w.heap.size w w' ∧ w.heap.size ≤ pt ∧ (∀ b off, B = some ⟨b, off, none⟩ → w.heap.size ≤ b ∧ b < pt) ∧ pt < w'.heap.size := by
  have HL := Lib.hid hl
  have H0 : Hid ((w.alloc (.cells #[] 5)).ownsRow w.heap.size 5 1 (.slice (some ⟨w.heap.size, 0, none⟩) 0 0) 0 [] ∧ Cs (w.alloc (.cells #[] 5)) A (l.map bv)) :=
    ⟨⟨rfl, .inr ⟨w.heap.size, 0, #[], rfl, Nat.le_refl _, heap_alloc_new _ _, Nat.le_refl _, Nat.zero_le _, rfl, rfl⟩⟩, (hr.below (below_alloc _ _)).cs⟩
  have hone := bvs_one l
  have HLM := Lib.hid (show (l.map bv).length = n * 1 by rw [List.length_map, hl]; omega)
  have hmx : 0 + n ≤ maxLen := by simp only [maxLen]; omega
  have hbx : (0 + n) * 1 ≤ 140737488355328 := by omega
  have hbs : w.heap.size ≤ (w.alloc (.cells #[] 5)).heap.size := by simp
  clear hl
  go_enter Try.func48, Try.ntmps48
  go_wp2_with (at_builtin; refine wpList_app bytesT rfl (.tmp 3) (.tmp 4) rfl w.heap.size (.slice (some ⟨w.heap.size, 0, none⟩) 0 0) 0 [] rfl H0.out.1 A n c (l.map bv) rfl HLM.out H0.out.2 hone hmx hbx hbs ?_; intro v' w2 hown hgr _; simp only [Nat.zero_add, List.nil_append] at hown; obtain ⟨B, cB, rfl, hrB, _, hcB⟩ := own_rd hown)
  have hb2 : Below w.heap.size w w2 := (below_alloc w _).grown hgr (by simp) (fun k hk => Nat.le_of_eq (by simpa [Value.ownBlock] using hk))
  go_ret
  have hcm : cB ≤ 9223372036854775807 := by
    rcases hown.2 with ⟨hv, _⟩ | ⟨g, cap, cur, hv, _, _, _, h10, _⟩
    · have := (Value.slice.inj hv).2.2; omega
    · have := (Value.slice.inj hv).2.2; unfold maxLen at h10; omega
  have hBl : ∀ b off, B = some ⟨b, off, none⟩ → w.heap.size ≤ b ∧ b < w2.heap.size := by
    intro b off e
    subst e
    exact World.ownsRow.lt hown b rfl
  refine ⟨w2.heap.size, B, cB, rfl, ⟨?_, hrB.below (below_alloc w2 _), fun b off e => by have := hBl b off e; omega, by rw [HL.out]; exact hcB, hcm, Nat.zero_le _, Nat.zero_le _, Nat.zero_le _⟩, hb2.alloc hb2.size _, hb2.size, hBl, by simp⟩
  have := Blk.new w2 100 #[.slice B n cB, .int .i64 0, .int .i64 0, .int .i64 0]
  show Blk _ _ _ #[.slice B l.length cB, .int .i64 0, .int .i64 0, .int .i64 0]
  rw [HL.out]
  exact this
end
end Go.Proofs.Ytefnjplfemgibaa
