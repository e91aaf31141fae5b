/- The document's reader in memory; the walks of its fail, taken, Uint of layer 1. -/
import Derived.Test.YtommadcjemljcaaTapeD
import Derived.Test.YtommadcjemljcaaRefP
import Derived.Test.YtommadcjemljcaaLeastL
import Derived.Test.YtommadcjemljcaaBackL
namespace Go.Proofs.Ytommadcjemljcaa
open Go.RowKit
set_option linter.unusedVariables false

structure ReadAt (pt : Nat) (A : Option Addr) (c : Nat) (t : TS) (w : World) : Prop where
  obj : Blk w pt 61 #[.slice A t.bytes.length c, .int .i64 (t.pos : Int), .int .i64 (t.fault : Int), .int .i64 (t.spot : Int)]
  rd : Rd w A t.bytes
  ne : ∀ b off, A = some ⟨b, off, none⟩ → b ≠ pt
  cap : t.bytes.length ≤ c
  capm : c ≤ 9223372036854775807
  pos : t.pos ≤ t.bytes.length
  flt : t.fault ≤ 1000
  spt : t.spot ≤ t.bytes.length

section
variable {pt : Nat} {A : Option Addr} {c : Nat} {t : TS} {w w' : World}
theorem ReadAt.cells (h : ReadAt pt A c t w) : w.cell? ⟨pt, 0, none⟩ = some (.slice A t.bytes.length c) ∧ w.cell? ⟨pt, 1, none⟩ = some (.int .i64 (t.pos : Int)) ∧ w.cell? ⟨pt, 2, none⟩ = some (.int .i64 (t.fault : Int)) ∧ w.cell? ⟨pt, 3, none⟩ = some (.int .i64 (t.spot : Int)) :=
  ⟨h.obj.cell 0, h.obj.cell 1, h.obj.cell 2, h.obj.cell 3⟩
theorem ReadAt.keep (h : ReadAt pt A c t w) (hb : Below w.heap.size w w') : ReadAt pt A c t w' := ⟨h.obj.keep hb, h.rd.below hb, h.ne, h.cap, h.capm, h.pos, h.flt, h.spt⟩
theorem ReadAt.far {F : Nat → Prop} (h : ReadAt pt A c t w) (hf : Fr F w w') (h1 : ¬ F pt) (h2 : ∀ b off, A = some ⟨b, off, none⟩ → ¬ F b) : ReadAt pt A c t w' :=
  ⟨hf.blk h.obj h1, hf.rd h.rd (fun b off e _ => h2 b off e), h.ne, h.cap, h.capm, h.pos, h.flt, h.spt⟩
structure RAct (w : World) (pt : Nat) (A : Option Addr) (c : Nat) (t' : TS) (w' : World) : Prop where
  tape : ReadAt pt A c t' w'
  fr : Fr (fun k => k = pt) w w'
theorem drew_ract (h : ReadAt pt A c t w) (q : Nat) : RAct w pt A c t (w.drewN q) := ⟨h.keep (below_drewN (Below.refl _ _) q), Fr.of_below (below_drewN (Below.refl _ _) q) _⟩
theorem RAct.trans {t2 t3 : TS} {w2 w3 : World} (a : RAct w pt A c t2 w2) (b : RAct w2 pt A c t3 w3) : RAct w pt A c t3 w3 := ⟨b.tape, a.fr.same b.fr⟩

set_option maxHeartbeats 400000 in
theorem rfail_ok (h : ReadAt pt A c t w) (e a : Nat) (he : e ≤ 1000) (ha : a ≤ t.bytes.length) (hf : t.fault = 0) :
    Calls Try.prog 68 #[.pointer (some ⟨pt, 0, none⟩), .int .i64 e, .int .i64 a] w fun r w' => r = .returned (.tuple #[]) ∧ RAct w pt A c (t.stops e a) w' := by
  obtain ⟨c0, c1, c2, c3⟩ := h.cells
  rw [hf] at c2
  have f1 := h.obj.frozen 1
  have f2 := h.obj.frozen 2
  have f3 := h.obj.frozen 3
  have HA : Hid (RAct w pt A c (t.stops e a) (((w.setCell ⟨pt, 2, none⟩ (.int .i64 (e : Int))).setCell ⟨pt, 3, none⟩ (.int .i64 (a : Int))).setCell ⟨pt, 1, none⟩ (.int .i64 (a : Int)))) := by
    have hfr := ((Fr.setCell (fun k => k = pt) w (p := ⟨pt, 2, none⟩) (fun _ => rfl) (.int .i64 (e : Int))).same (Fr.setCell (fun k => k = pt) _ (p := ⟨pt, 3, none⟩) (fun _ => rfl) (.int .i64 (a : Int)))).same (Fr.setCell (fun k => k = pt) _ (p := ⟨pt, 1, none⟩) (fun _ => rfl) (.int .i64 (a : Int)))
    exact ⟨⟨((h.obj.set_ 2 _).set_ 3 _).set_ 1 _, hfr.rd h.rd (fun b off e _ => h.ne b off e), h.ne, h.cap, h.capm, ha, he, ha⟩, hfr⟩
  clear hf
  go_enter Try.func68, Try.ntmps68
  go_wp2
  go_end0
  exact ⟨rfl, HA.out⟩

theorem be_head_ne' {n k : Nat} (hn : n < 18446744073709551616) (hk : wid n = k + 1) : UInt8.ofNat (n / 256 ^ k) ≠ 0 := be_head_ne hn hk
/-- Whether a number has as many bytes as were read. -/
theorem wid_told (l : List UInt8) (h8 : l.length ≤ 8) : wid (toldN l) = l.length ↔ ¬ (0 < l.length ∧ l.head? = some 0) := by
  obtain ⟨h1, h2, h3⟩ := be_told l.length l rfl h8
  constructor
  · rintro hw ⟨h0, hz⟩
    obtain ⟨k, hk⟩ : ∃ k, l.length = k + 1 := ⟨l.length - 1, by omega⟩
    have hge := wid_ge (toldN_lt l) (hw.trans hk)
    have hb : be (k + 1) (toldN l) = l := by rw [← hk]; exact h1
    have hh : l.head? = some (UInt8.ofNat (toldN l / 256 ^ k)) := by
      conv => lhs; rw [← hb]
      rfl
    rw [hz] at hh
    exact be_head_ne' (toldN_lt l) (hw.trans hk) (Option.some.inj hh).symm
  · intro hz
    refine wid_of (toldN_lt l) h2 (fun j hj => ?_)
    have h0 : 0 < l.length := by omega
    have h4 := h3 h0 (fun e => hz ⟨h0, by rw [List.head?_eq_getElem?, List.getElem?_eq_getElem h0, e]⟩)
    rw [hj] at h4
    simpa using h4

def MoreIs (signed : Bool) (more : Int) : Prop := (signed = false ∧ more = 0) ∨ (signed = true ∧ more = 128)
def RNumEnds (w : World) (pt : Nat) (A : Option Addr) (c : Nat) (x : (Nat × Bool) × TS) (r : Ending) (w' : World) : Prop :=
  r = .returned (.tuple #[.int .u64 x.1.1, .bool x.1.2]) ∧ RAct w pt A c x.2 w'

set_option maxHeartbeats 1000000 in
theorem taken_stopped (h : ReadAt pt A c t w) (signed : Bool) (more : Int) (hf : t.fault ≠ 0) : Calls Try.prog 53 #[.pointer (some ⟨pt, 0, none⟩), .int .i64 more] w (RNumEnds w pt A c (t.number signed)) := by
  have HN := Lib.hid (show t.number signed = ((0, false), t) by unfold TS.number; rw [if_neg hf])
  have hA := drew_ract h 0
  obtain ⟨c0, c1, c2, c3⟩ := h.cells
  have hfb : ((t.fault : Int) != 0) = true := by simp [hf]
  clear hf
  go_enter Try.func53, Try.ntmps53
  go_wp2
  go_ret2
  rw [HN.out]
  exact ⟨rfl, hA⟩

set_option maxHeartbeats 1000000 in
theorem taken_end (h : ReadAt pt A c t w) (signed : Bool) (more : Int) (hf : t.fault = 0) (hp : ¬ t.pos < t.bytes.length) : Calls Try.prog 53 #[.pointer (some ⟨pt, 0, none⟩), .int .i64 more] w (RNumEnds w pt A c (t.number signed)) := by
  have HN := Lib.hid (show t.number signed = ((0, false), t.stops 3 t.pos) by unfold TS.number; rw [if_pos hf, List.getElem?_eq_none (by omega)])
  have HF := Lib.hid (rfail_ok h 3 t.pos (by omega) h.pos hf)
  obtain ⟨c0, c1, c2, c3⟩ := h.cells
  rw [hf] at c2
  have hd : decide (t.bytes.length ≤ t.pos) = true := by simp; omega
  clear hf
  go_enter Try.func53, Try.ntmps53
  go_wp2_with (go_at_call 68; refine HF.out.mono ?_; rintro e w2 ⟨rfl, hA⟩)
  go_ret2
  rw [HN.out]
  exact ⟨rfl, hA⟩

set_option maxHeartbeats 4000000 in
theorem taken_more (h : ReadAt pt A c t w) (signed : Bool) (more : Int) (hf : t.fault = 0) (hp : t.pos < t.bytes.length) (hd wd : Nat) (below : Bool) (hhd : (t.bytes[t.pos]'hp).toNat = hd) (hways : (signed = false ∧ more = 0 ∧ wd = hd ∧ below = false) ∨ (signed = true ∧ more = 128 ∧ hd < 128 ∧ wd = hd ∧ below = false) ∨ (signed = true ∧ more = 128 ∧ 128 ≤ hd ∧ wd = hd - 128 ∧ below = true)) :
    Calls Try.prog 53 #[.pointer (some ⟨pt, 0, none⟩), .int .i64 more] w (RNumEnds w pt A c (t.rest wd below)) := by
  obtain ⟨c0, c1, c2, c3⟩ := h.cells
  rw [hf] at c2
  have f1 := h.obj.frozen 1
  obtain ⟨b, off, hA, _, hcl⟩ := h.rd.at_ hp
  have hpb := h.pos
  have hcm := h.capm
  have hcap := h.cap
  have hd8 : hd < 256 := by rw [← hhd]; exact u8_lt _
  rw [hhd] at hcl
  subst hA
  have HF10 := Lib.hid (rfail_ok h 10 t.pos (by omega) hpb hf)
  have HF3 := Lib.hid (rfail_ok h 3 t.pos (by omega) hpb hf)
  have hw8 : wd < 256 := by omega
  have hdp : decide (t.bytes.length ≤ t.pos) = false := by simp; omega
  have HRD := Lib.hid h.rd
  have HOK : Hid (∀ n, t.pos + 1 + n ≤ t.bytes.length → RAct w pt (some ⟨b, off, none⟩) c { t with pos := t.pos + 1 + n } (w.setCell ⟨pt, 1, none⟩ (.int .i64 ((t.pos : Int) + 1 + (n : Int))))) := fun n hn => by
    have hfr := Fr.setCell (fun k => k = pt) w (p := ⟨pt, 1, none⟩) (fun _ => rfl) (.int .i64 ((t.pos : Int) + 1 + (n : Int)))
    have e : (t.pos : Int) + 1 + (n : Int) = ((t.pos + 1 + n : Nat) : Int) := by omega
    refine ⟨⟨?_, hfr.rd h.rd (fun b off e _ => h.ne b off e), h.ne, h.cap, h.capm, hn, h.flt, h.spt⟩, hfr⟩
    have := h.obj.set_ 1 (.int .i64 ((t.pos : Int) + 1 + (n : Int)))
    rw [e] at this ⊢
    exact this
  have hways2 : (more = 0 ∧ wd = hd ∧ below = false) ∨ (more = 128 ∧ decide ((128 : Int) ≤ (hd : Int)) = false ∧ wd = hd ∧ below = false) ∨ (more = 128 ∧ decide ((128 : Int) ≤ (hd : Int)) = true ∧ (hd : Int) - 128 = (wd : Int) ∧ below = true) := by
    rcases hways with ⟨h1, h2, h3, h4⟩ | ⟨h1, h2, h3, h4, h5⟩ | ⟨h1, h2, h3, h4, h5⟩
    · exact .inl ⟨h2, h3, h4⟩
    · exact .inr (.inl ⟨h2, by simp; omega, h4, h5⟩)
    · exact .inr (.inr ⟨h2, by simp; omega, by omega, h5⟩)
  clear hways hhd hf
  by_cases hw : 8 < wd
  · have HN := Lib.hid (show t.rest wd below = ((0, false), t.stops 10 t.pos) by unfold TS.rest; rw [if_pos hw])
    rcases hways2 with ⟨rfl, rfl, rfl⟩ | ⟨rfl, hd1, rfl, rfl⟩ | ⟨rfl, hd1, hd2, rfl⟩
    all_goals
      go_enter Try.func53, Try.ntmps53
      go_wp2_with (go_at_call 68; refine HF10.out.mono ?_; rintro e w3 ⟨rfl, hA3⟩)
      go_ret2
      rw [HN.out]
      exact ⟨rfl, hA3⟩
  · by_cases hsh : t.bytes.length - (t.pos + 1) < wd
    · have HN := Lib.hid (show t.rest wd below = ((0, false), t.stops 3 t.pos) by unfold TS.rest; rw [if_neg hw, if_pos hsh])
      have hds : decide ((t.bytes.length : Int) - (t.pos : Int) - 1 < (wd : Int)) = true := by simp; omega
      rcases hways2 with ⟨rfl, rfl, rfl⟩ | ⟨rfl, hd1, rfl, rfl⟩ | ⟨rfl, hd1, hd2, rfl⟩
      all_goals
        go_enter Try.func53, Try.ntmps53
        go_wp2_with (go_at_call 68; refine HF3.out.mono ?_; rintro e w3 ⟨rfl, hA3⟩)
        go_ret2
        rw [HN.out]
        exact ⟨rfl, hA3⟩
    · have hds : decide ((t.bytes.length : Int) - (t.pos : Int) - 1 < (wd : Int)) = false := by simp; omega
      obtain ⟨l, hl⟩ : ∃ l, l = (t.bytes.drop (t.pos + 1)).take wd := ⟨_, rfl⟩
      have hll : l.length = wd := by rw [hl]; simp; omega
      have HLL := Lib.hid hll
      have hend : (t.rest wd below = ((toldN l, below), { t with pos := t.pos + 1 + wd }) ∧ wid (toldN l) = wd) ∨ (t.rest wd below = ((0, false), t.stops 10 t.pos) ∧ ((wid (toldN l) : Int) != (wd : Int)) = true) := by
        have hwt := wid_told l (by omega)
        rw [hll] at hwt
        have hhead : 0 < wd → (l.head? = some 0 ↔ (t.bytes.drop (t.pos + 1)).head? = some 0) := fun h0 => by
          rw [hl, List.head?_take, if_neg (by omega)]
        by_cases hz : 0 < wd ∧ (t.bytes.drop (t.pos + 1)).head? = some 0
        · refine .inr ⟨by unfold TS.rest; rw [if_neg hw, if_neg hsh, if_pos hz], ?_⟩
          have : ¬ wid (toldN l) = wd := fun e => hwt.1 e ⟨hz.1, (hhead hz.1).2 hz.2⟩
          simp; omega
        · refine .inl ⟨by unfold TS.rest; rw [if_neg hw, if_neg hsh, if_neg hz, hl], hwt.2 (fun e => hz ⟨e.1, (hhead e.1).1 e.2⟩)⟩
      have HEND := Lib.hid hend
      have HL := Lib.hid hl
      have hfit : t.pos + 1 + wd ≤ t.bytes.length := by omega
      have HCELL : Hid (∀ k (hk : k < l.length), w.cell? ⟨b, off + (t.pos + 1 + k), none⟩ = some (.int .u8 (l[k].toNat : Int))) := by
        intro k hk
        have hk2 : t.pos + 1 + k < t.bytes.length := by omega
        obtain ⟨b', off', e, _, hc⟩ := HRD.out.at_ hk2
        injection e with e
        injection e with e1 e2
        subst e1 e2
        rw [hc]
        simp only [HL.out, List.getElem_take, List.getElem_drop]
      clear hend hl hll
      rcases hways2 with ⟨rfl, rfl, rfl⟩ | ⟨rfl, hd1, rfl, rfl⟩ | ⟨rfl, hd1, hd2, rfl⟩
      all_goals
        go_enter Try.func53, Try.ntmps53
        go_wp2
        go_loop [9, 10] (fun s i => ∃ k : Nat, k ≤ wd ∧ i = .int .i64 ((k : Int) + 1) ∧ s = .int .u64 (toldN (l.take k))) (fun _ i => wd + 1 - (intOf i).toNat)
        case atStart => exact ⟨0, Nat.zero_le _, rfl, rfl⟩
        case round =>
          obtain ⟨k, hk, rfl, rfl⟩ := hrel
          by_cases hlt : k < wd
          · have hkl : k < l.length := by rw [HLL.out]; exact hlt
            have hck := HCELL.out k hkl
            have HS := Lib.hid (show toldN (l.take (k + 1)) = toldN (l.take k) * 256 % 18446744073709551616 + l[k].toNat by
              rw [← toldN_snoc, ← List.take_succ_eq_append_getElem hkl])
            have hck8 := u8_lt l[k]
            have htk := toldN_lt (l.take k)
            generalize l[k].toNat = ck at *
            generalize toldN (l.take k) = tk at *
            have hd5 : decide ((k : Int) + 1 ≤ (wd : Int)) = true := by simp; omega
            obtain ⟨j, hj, hj2⟩ : ∃ j : Nat, (t.pos : Int) + ((k : Int) + 1) = (j : Int) ∧ t.pos + 1 + k = j := ⟨t.pos + 1 + k, by omega, rfl⟩
            rw [hj2] at hck
            have hjl : j < t.bytes.length := by omega
            clear hj2
            go_wp2
            go_round
            case rel => exact ⟨k + 1, by omega, by go_num, by rw [HS.out, or_byte _ _ htk hck8]⟩
            case measure => simp [intOf]; omega
          · obtain rfl : wd = k := by omega
            have hd5 : decide ((wd : Int) + 1 ≤ (wd : Int)) = false := by simp; omega
            rw [show l.take wd = l from List.take_of_length_le (by rw [HLL.out]; omega)]
            have HMY := Lib.hid (many_any (toldN l) w (toldN_lt l))
            have htl := toldN_lt l
            rcases HEND.out with ⟨e1, e2⟩ | ⟨e1, e2⟩
            · rw [e2] at HMY
              have E1 := Lib.hid e1
              clear e1 e2
              generalize toldN l = tl at *
              have HK := Lib.hid (HOK.out wd hfit)
              have hs1 : (t.pos : Int) + 1 + (wd : Int) ≤ 9223372036854775807 := by omega
              go_wp2_with (go_at_call 62; refine HMY.out.mono ?_; rintro e w3 ⟨rfl, rfl⟩)
              go_ret2
              rw [E1.out]
              exact ⟨rfl, HK.out⟩
            · have E1 := Lib.hid e1
              clear e1
              generalize wid (toldN l) = wl at *
              generalize toldN l = tl at *
              go_wp2_with (first
                | (go_at_call 62; refine HMY.out.mono ?_; rintro e w3 ⟨rfl, rfl⟩)
                | (go_at_call 68; refine HF10.out.mono ?_; rintro e w3 ⟨rfl, hA3⟩))
              go_ret2
              rw [E1.out]
              exact ⟨rfl, hA3⟩

theorem taken_any (h : ReadAt pt A c t w) (signed : Bool) (more : Int) (hm : MoreIs signed more) : Calls Try.prog 53 #[.pointer (some ⟨pt, 0, none⟩), .int .i64 more] w (RNumEnds w pt A c (t.number signed)) := by
  by_cases hf : t.fault = 0
  · by_cases hp : t.pos < t.bytes.length
    · have e : t.number signed = if signed = true ∧ 128 ≤ (t.bytes[t.pos]).toNat then t.rest ((t.bytes[t.pos]).toNat - 128) true else t.rest (t.bytes[t.pos]).toNat false := by
        unfold TS.number
        rw [if_pos hf, List.getElem?_eq_getElem hp]
      rw [e]
      by_cases hs : signed = true ∧ 128 ≤ (t.bytes[t.pos]).toNat
      · rw [if_pos hs]
        rcases hm with ⟨rfl, rfl⟩ | ⟨rfl, rfl⟩
        · exact absurd hs.1 (by simp)
        · exact taken_more h true 128 hf hp _ _ true rfl (.inr (.inr ⟨rfl, rfl, hs.2, rfl, rfl⟩))
      · rw [if_neg hs]
        rcases hm with ⟨rfl, rfl⟩ | ⟨rfl, rfl⟩
        · exact taken_more h false 0 hf hp _ _ false rfl (.inl ⟨rfl, rfl, rfl, rfl⟩)
        · exact taken_more h true 128 hf hp _ _ false rfl (.inr (.inl ⟨rfl, rfl, by simp at hs; omega, rfl, rfl⟩))
    · exact taken_end h signed more hf hp
  · exact taken_stopped h signed more hf

set_option maxHeartbeats 400000 in
theorem ruint_any (h : ReadAt pt A c t w) : Calls Try.prog 30 #[.pointer (some ⟨pt, 0, none⟩)] w fun r w' => r = .returned (.int .u64 (t.number false).1.1) ∧ RAct w pt A c (t.number false).2 w' := by
  have HN := Lib.hid (taken_any h false 0 (.inl ⟨rfl, rfl⟩))
  generalize t.number false = x at *
  go_enter Try.func30, Try.ntmps30
  go_wp2_with (go_at_call 53; refine HN.out.mono ?_; rintro e w2 ⟨rfl, hA⟩)
  go_ret
  exact ⟨rfl, hA⟩
end
end Go.Proofs.Ytommadcjemljcaa
