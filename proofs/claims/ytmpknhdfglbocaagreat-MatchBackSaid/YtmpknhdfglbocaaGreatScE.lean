/- Layer 10: the walk of quoted. -/
import Derived.Test.YtmpknhdfglbocaaGreatScD
import Derived.Test.YtmpknhdfglbocaaGreatLibA
import Derived.Test.YtmpknhdfglbocaaGreatOrd
namespace Go.Proofs.YtmpknhdfglbocaaGreat
open Go.RowKit
set_option linter.unusedVariables false

theorem cs_byte1 (w : World) (x : Int) (c : UInt8) (h : Value.int .u8 x = bv c) : Cs (w.alloc (.cells #[.int .u8 x] 5)) (some ⟨w.heap.size, 0, none⟩) ([c].map bv) := by
  rw [h]
  exact .inr ⟨_, rfl, cell_one_new w (bv c) 5⟩
theorem quoL_c {s : List UInt8} {a m i : Nat} {b : List UInt8} {r : QR} (h : quoL s a (m + 1) i b = some r) : (match s[i]? with
    | none => some (.bad a)
    | some c =>
      if c.toNat = 39 then (if b.length < 1 ∨ 255 < b.length then some (.bad a) else some ⟨b, i + 1, 0, 0⟩)
      else if c.toNat = 92 then (match s[i + 1]? with
        | none => some (.bad i)
        | some d => if d.toNat = 39 ∨ d.toNat = 92 then quoL s a m (i + 2) (b ++ [d])
          else if d.toNat = 120 ∧ i + 3 < s.length ∧ 0 ≤ hexB s (i + 2) ∧ 0 ≤ hexB s (i + 3) then quoL s a m (i + 4) (b ++ [UInt8.ofNat (16 * hexB s (i + 2) + hexB s (i + 3)).toNat])
          else some (.bad i))
      else if c.toNat < 32 ∨ 126 < c.toNat then some (.bad i)
      else quoL s a m (i + 1) (b ++ [c])) = some r := h
theorem hexN_le (n : Nat) : hexN n ≤ 15 := by
  unfold hexN
  split
  · rename_i h; unfold digN at h; simp at h; omega
  · split <;> omega
def QEnd (W : World) (r : QR) (e : Ending) (w' : World) : Prop := e = .returned (.tuple #[.string ⟨r.name.toArray⟩, .int .i64 (r.to : Nat), .int .i64 r.e, .int .i64 (r.at_ : Nat)]) ∧ Below W.heap.size W w'
/-- The state of the loop. -/
structure QI (W : World) (b : List UInt8) (v : Value) (wx : World) : Prop where
  own : wx.ownsRow W.heap.size 5 1 v b.length (b.map bv)
  bel : Below W.heap.size W wx
theorem QI.app {W : World} {b : List UInt8} {v v' : Value} {wx w' : World} {o : Obj} {c : UInt8} (h : QI W b v wx) (ho : w'.ownsRow W.heap.size 5 1 v' (b.length + 1) (b.map bv ++ [c].map bv)) (hg : (wx.alloc o).grownBy w' v.ownBlock) : QI W (b ++ [c]) v' w' := by
  exact ⟨by rw [List.length_append, List.map_append]; exact ho, (h.bel.alloc h.bel.size o).grown hg (Nat.le_trans h.bel.size (below_alloc _ _).size) (fun k hk => (World.ownsRow.lt h.own k hk).1)⟩

set_option maxRecDepth 100000 in
set_option maxHeartbeats 8000000 in
theorem quoted_any (W : World) (s : List UInt8) {len : Nat} (hlen : s.length = len) (h16 : len ≤ 16384) (a : Nat) (ha : a < len) : Calls Tryz.prog 62 #[.string ⟨s.toArray⟩, .int .i64 (a : Int)] W (QEnd W (quoP s a)) := by
  have HQ := Lib.hid (quoP_eq s a)
  have HLEN := Lib.hid hlen
  obtain ⟨r, hr⟩ : ∃ r, quoP s a = r := ⟨_, rfl⟩
  rw [hr] at HQ ⊢
  have HST : Hid (QI W [] (.slice none 0 0) W) := ⟨World.ownsRow_nil _ _ _ _, Below.refl _ _⟩
  clear hr hlen
  go_enter Tryz.func62, Tryz.ntmps62
  go_wp2
  go_loopw [8, 9, 10, 11] (fun v8 v9 _ _ wx => ∃ (m i : Nat) (b : List UInt8) (v : Value), v9 = .int .i64 (i : Int) ∧ v8 = v ∧ i ≤ len ∧ b.length ≤ i ∧ quoL s a m i b = some r ∧ QI W b v wx) (fun _ v9 _ _ _ => len - (intOf v9).toNat)
  case atStart => exact ⟨_, a + 1, [], _, by go_num, rfl, by omega, by simp, HQ.out, HST.out⟩
  case round =>
    obtain ⟨m, i, b, v, rfl, rfl, hi, hbi, hl, hI⟩ := hrel
    clear HST HQ
    obtain _ | m := m
    · exact absurd hl (by simp [quoL])
    replace hl := quoL_c hl
    obtain ⟨B, cap, rfl, hrd, _, hnc⟩ := own_rd hI.own
    obtain ⟨n, hn⟩ : ∃ n, b.length = n := ⟨_, rfl⟩
    have HO : Hid (∀ o, (wr.alloc o).ownsRow W.heap.size 5 1 (.slice B n cap) n (b.map bv)) := fun o => by
      have h9 := own_far hI.own (below_alloc wr o)
      rw [hn] at h9
      exact h9
    have HI := Lib.hid hI
    rw [hn] at HI hbi ⊢
    have HN := Lib.hid hn
    have HRD := Lib.hid hrd
    clear hI hn hrd hnc
    by_cases hlt : i < len
    · have hil : i < s.length := by rw [HLEN.out]; exact hlt
      have d0 : decide (s.length ≤ i) = false := by simp; omega
      rw [List.getElem?_eq_getElem hil] at hl
      obtain ⟨c, hc⟩ : ∃ c, s[i] = c := ⟨_, rfl⟩
      rw [hc] at hl
      simp only at hl
      have hx : (ByteArray.mk s.toArray)[i]'hil = c := hc
      have q1 : (0 : Int) ≤ (i : Int) := by omega
      have q2 : (i : Int) < (s.length : Int) := by omega
      have hc256 : c.toNat < 256 := UInt8.toNat_lt c
      clear hc
      by_cases c39 : c.toNat = 39
      · rw [if_pos c39] at hl
        have e39 : ((c.toNat : Int) == 39) = true := by simp; omega
        by_cases b1 : n < 1
        · rw [if_pos (.inl (by rw [HN.out]; exact b1))] at hl
          have HR := Lib.hid (Option.some.inj hl).symm
          have e1 : decide ((n : Int) < 1) = true := by simp; omega
          clear hl b1 c39
          go_wp2
          exact bodyPost_ret (v := .tuple #[.string ⟨#[]⟩, .int .i64 0, .int .i64 100, .int .i64 (a : Nat)]) (by simp [results, Tryz.results62, go_sem]) rfl ⟨by rw [HR.out]; rfl, HI.out.bel⟩
        by_cases b2 : 255 < n
        · rw [if_pos (.inr (by rw [HN.out]; exact b2))] at hl
          have HR := Lib.hid (Option.some.inj hl).symm
          have e1 : decide ((n : Int) < 1) = false := by simp; omega
          have e2 : decide ((255 : Int) < (n : Int)) = true := by simp; omega
          clear hl b1 b2 c39
          go_wp2
          exact bodyPost_ret (v := .tuple #[.string ⟨#[]⟩, .int .i64 0, .int .i64 100, .int .i64 (a : Nat)]) (by simp [results, Tryz.results62, go_sem]) rfl ⟨by rw [HR.out]; rfl, HI.out.bel⟩
        rw [if_neg (by rw [HN.out]; omega)] at hl
        have HR := Lib.hid (Option.some.inj hl).symm
        have e1 : decide ((n : Int) < 1) = false := by simp; omega
        have e2 : decide ((255 : Int) < (n : Int)) = false := by simp; omega
        have hcv := run_str (P := Tryz.prog) Tryz.underlying103 Tryz.underlying5 Tryz.underlying9 wr B n cap b HN.out HRD.out
        have q9 : IntKind.i64.wrap ((i : Int) + 1) = ((i + 1 : Nat) : Int) := by rw [IntKind.wrap_i64]; omega
        clear hl b1 b2 c39
        go_wp2
        exact bodyPost_ret (v := .tuple #[.string ⟨b.toArray⟩, .int .i64 ((i + 1 : Nat) : Int), .int .i64 0, .int .i64 0]) (by simp [results, Tryz.results62, go_sem]) rfl ⟨by rw [HR.out]; rfl, HI.out.bel⟩
      · rw [if_neg c39] at hl
        have e39 : ((c.toNat : Int) == 39) = false := by simp; omega
        by_cases c92 : c.toNat = 92
        · rw [if_pos c92] at hl
          have e92 : ((c.toNat : Int) == 92) = true := by simp; omega
          have q9 : IntKind.i64.wrap ((i : Int) + 1) = ((i + 1 : Nat) : Int) := by rw [IntKind.wrap_i64]; omega
          clear c39 c92
          by_cases hi1 : i + 1 < len
          rotate_left
          · rw [List.getElem?_eq_none (by rw [HLEN.out]; omega)] at hl
            have HR := Lib.hid (Option.some.inj hl).symm
            have d1 : decide (s.length ≤ i + 1) = true := by simp; rw [HLEN.out]; omega
            have d2 : decide ((s.length : Int) ≤ (i : Int) + 1) = true := by simp; rw [HLEN.out]; omega
            clear hl hi1
            go_wp2
            exact bodyPost_ret (v := .tuple #[.string ⟨#[]⟩, .int .i64 0, .int .i64 100, .int .i64 (i : Nat)]) (by simp [results, Tryz.results62, go_sem]) rfl ⟨by rw [HR.out]; rfl, HI.out.bel⟩
          · have hi1l : i + 1 < s.length := by rw [HLEN.out]; exact hi1
            have d1 : decide (s.length ≤ i + 1) = false := by simp; omega
            have d2 : decide ((s.length : Int) ≤ (i : Int) + 1) = false := by simp; omega
            rw [List.getElem?_eq_getElem hi1l] at hl
            obtain ⟨d, hd⟩ : ∃ d, s[i + 1] = d := ⟨_, rfl⟩
            rw [hd] at hl
            simp only at hl
            have hx1 : (ByteArray.mk s.toArray)[i + 1]'hi1l = d := hd
            have q3 : (0 : Int) ≤ (i : Int) + 1 := by omega
            have q4 : (i : Int) + 1 < (s.length : Int) := by omega
            have q5 : ((i : Int) + 1).toNat = i + 1 := by omega
            have hd256 : d.toNat < 256 := UInt8.toNat_lt d
            clear hd
            by_cases dq : d.toNat = 39 ∨ d.toNat = 92
            · rw [if_pos dq] at hl
              have HL := Lib.hid hl
              by_cases d39 : d.toNat = 39
              · have f39 : ((d.toNat : Int) == 39) = true := by simp; omega
                clear hl dq d39
                go_wp2_with (at_builtin; refine wpList_app bytesT rfl (.tmp 65) (.tmp 67) rfl W.heap.size (.slice B n cap) n (b.map bv) rfl (HO.out _) (some ⟨wr.heap.size, 0, none⟩) 1 1 ([d].map bv) rfl rfl (cs_byte1 wr _ d rfl) (bvs_one _) (by unfold maxLen; omega) (by omega) (Nat.le_trans HI.out.bel.size (below_alloc _ _).size) ?_; intro v' w' ho hg hat)
                have hJ := HI.out.app (c := d) (by rw [HN.out]; exact ho) hg
                go_roundw
                case rel => exact ⟨m, i + 2, b ++ [d], v', by go_num, rfl, by omega, by rw [List.length_append, HN.out]; simp only [List.length_cons, List.length_nil]; omega, HL.out, hJ⟩
                case measure => simp [intOf]; omega
              · have f39 : ((d.toNat : Int) == 39) = false := by simp; omega
                have f92 : ((d.toNat : Int) == 92) = true := by simp; omega
                clear hl dq d39
                go_wp2_with (at_builtin; refine wpList_app bytesT rfl (.tmp 65) (.tmp 67) rfl W.heap.size (.slice B n cap) n (b.map bv) rfl (HO.out _) (some ⟨wr.heap.size, 0, none⟩) 1 1 ([d].map bv) rfl rfl (cs_byte1 wr _ d rfl) (bvs_one _) (by unfold maxLen; omega) (by omega) (Nat.le_trans HI.out.bel.size (below_alloc _ _).size) ?_; intro v' w' ho hg hat)
                have hJ := HI.out.app (c := d) (by rw [HN.out]; exact ho) hg
                go_roundw
                case rel => exact ⟨m, i + 2, b ++ [d], v', by go_num, rfl, by omega, by rw [List.length_append, HN.out]; simp only [List.length_cons, List.length_nil]; omega, HL.out, hJ⟩
                case measure => simp [intOf]; omega
            · rw [if_neg dq] at hl
              have f39 : ((d.toNat : Int) == 39) = false := by simp; omega
              have f92 : ((d.toNat : Int) == 92) = false := by simp; omega
              clear dq
              by_cases d120 : d.toNat = 120
              rotate_left
              · rw [if_neg (fun x => d120 x.1)] at hl
                have HR := Lib.hid (Option.some.inj hl).symm
                have f120 : ((d.toNat : Int) == 120) = false := by simp; omega
                clear hl d120
                go_wp2
                exact bodyPost_ret (v := .tuple #[.string ⟨#[]⟩, .int .i64 0, .int .i64 100, .int .i64 (i : Nat)]) (by simp [results, Tryz.results62, go_sem]) rfl ⟨by rw [HR.out]; rfl, HI.out.bel⟩
              have f120 : ((d.toNat : Int) == 120) = true := by simp; omega
              by_cases hi3 : i + 3 < len
              rotate_left
              · rw [if_neg (fun x => hi3 (by have := x.2.1; rw [HLEN.out] at this; exact this))] at hl
                have HR := Lib.hid (Option.some.inj hl).symm
                have g3 : decide (i + 3 < s.length) = false := by simp; rw [HLEN.out]; omega
                have g3' : decide ((i : Int) + 3 < (s.length : Int)) = false := by simp; rw [HLEN.out]; omega
                clear hl d120 hi3
                go_wp2
                exact bodyPost_ret (v := .tuple #[.string ⟨#[]⟩, .int .i64 0, .int .i64 100, .int .i64 (i : Nat)]) (by simp [results, Tryz.results62, go_sem]) rfl ⟨by rw [HR.out]; rfl, HI.out.bel⟩
              have hi3l : i + 3 < s.length := by rw [HLEN.out]; exact hi3
              have hi2l : i + 2 < s.length := by omega
              have g3 : decide (i + 3 < s.length) = true := by simpa using hi3l
              have g3' : decide ((i : Int) + 3 < (s.length : Int)) = true := by simp; omega
              have hh2 : hexB s (i + 2) = hexN (s[i + 2]).toNat := by unfold hexB; rw [List.getElem?_eq_getElem hi2l]
              have hh3 : hexB s (i + 3) = hexN (s[i + 3]).toNat := by unfold hexB; rw [List.getElem?_eq_getElem hi3l]
              rw [hh2, hh3] at hl
              obtain ⟨x2, hx2⟩ : ∃ x2, s[i + 2] = x2 := ⟨_, rfl⟩
              obtain ⟨x3, hx3⟩ : ∃ x3, s[i + 3] = x3 := ⟨_, rfl⟩
              rw [hx2, hx3] at hl
              have hx2 : (ByteArray.mk s.toArray)[i + 2]'hi2l = x2 := hx2
              have hx3 : (ByteArray.mk s.toArray)[i + 3]'hi3l = x3 := hx3
              have HC2 := Lib.hid (fun V => hex_any V (UInt8.toNat_lt x2))
              have HC3 := Lib.hid (fun V => hex_any V (UInt8.toNat_lt x3))
              have k2 := hexN_le x2.toNat
              have k3 := hexN_le x3.toNat
              obtain ⟨y2, hy2⟩ : ∃ y2, hexN x2.toNat = y2 := ⟨_, rfl⟩
              obtain ⟨y3, hy3⟩ : ∃ y3, hexN x3.toNat = y3 := ⟨_, rfl⟩
              rw [hy2, hy3] at hl
              rw [hy2] at HC2 k2
              rw [hy3] at HC3 k3
              have w2 : IntKind.i64.wrap ((i : Int) + 2) = (i : Int) + 2 := by rw [IntKind.wrap_i64]; omega
              have w3 : IntKind.i64.wrap ((i : Int) + 3) = (i : Int) + 3 := by rw [IntKind.wrap_i64]; omega
              have r1 : (0 : Int) ≤ (i : Int) + 2 := by omega
              have r2 : (i : Int) + 2 < (s.length : Int) := by omega
              have r3 : ((i : Int) + 2).toNat = i + 2 := by omega
              have r4 : (0 : Int) ≤ (i : Int) + 3 := by omega
              have r5 : (i : Int) + 3 < (s.length : Int) := by omega
              have r6 : ((i : Int) + 3).toNat = i + 3 := by omega
              clear hy2 hy3 hh2 hh3
              by_cases y2n : 0 ≤ y2
              rotate_left
              · rw [if_neg (fun x => y2n x.2.2.1)] at hl
                have HR := Lib.hid (Option.some.inj hl).symm
                have z2 : decide ((0 : Int) ≤ y2) = false := by simp; omega
                clear hl d120 hi3 y2n
                go_wp2_with (first
                  | (go_at_call 70; with_reducible refine (HC2.out _).mono ?_; rintro e w9 ⟨rfl, hw9⟩; replace hw9 := hw9.symm; subst hw9)
                  | (go_at_call 70; with_reducible refine (HC3.out _).mono ?_; rintro e w9 ⟨rfl, hw9⟩; replace hw9 := hw9.symm; subst hw9))
                exact bodyPost_ret (v := .tuple #[.string ⟨#[]⟩, .int .i64 0, .int .i64 100, .int .i64 (i : Nat)]) (by simp [results, Tryz.results62, go_sem]) rfl ⟨by rw [HR.out]; rfl, HI.out.bel⟩
              have z2 : decide ((0 : Int) ≤ y2) = true := by simpa using y2n
              by_cases y3n : 0 ≤ y3
              rotate_left
              · rw [if_neg (fun x => y3n x.2.2.2)] at hl
                have HR := Lib.hid (Option.some.inj hl).symm
                have z3 : decide ((0 : Int) ≤ y3) = false := by simp; omega
                clear hl d120 hi3 y3n
                go_wp2_with (first
                  | (go_at_call 70; with_reducible refine (HC2.out _).mono ?_; rintro e w9 ⟨rfl, hw9⟩; replace hw9 := hw9.symm; subst hw9)
                  | (go_at_call 70; with_reducible refine (HC3.out _).mono ?_; rintro e w9 ⟨rfl, hw9⟩; replace hw9 := hw9.symm; subst hw9))
                exact bodyPost_ret (v := .tuple #[.string ⟨#[]⟩, .int .i64 0, .int .i64 100, .int .i64 (i : Nat)]) (by simp [results, Tryz.results62, go_sem]) rfl ⟨by rw [HR.out]; rfl, HI.out.bel⟩
              have z3 : decide ((0 : Int) ≤ y3) = true := by simpa using y3n
              rw [if_pos ⟨d120, hi3l, y2n, y3n⟩] at hl
              have HL := Lib.hid hl
              have hi4 : i + 4 ≤ len := hi3
              clear hl d120 hi3
              obtain ⟨p2, rfl⟩ := Int.eq_ofNat_of_zero_le y2n
              obtain ⟨p3, rfl⟩ := Int.eq_ofNat_of_zero_le y3n
              have k2' : p2 ≤ 15 := by omega
              have k3' : p3 ≤ 15 := by omega
              obtain ⟨w, hw⟩ : ∃ w, UInt8.ofNat (16 * (p2 : Int) + (p3 : Int)).toNat = w := ⟨_, rfl⟩
              rw [hw] at HL
              have HWN := Lib.hid (show IntKind.u8.wrap (IntKind.i64.wrap (IntKind.i64.wrap (16 * (p2 : Int)) + (p3 : Int))) = (w.toNat : Int) by rw [show IntKind.i64.wrap (16 * (p2 : Int)) = 16 * (p2 : Int) by rw [IntKind.wrap_i64]; omega, show IntKind.i64.wrap (16 * (p2 : Int) + (p3 : Int)) = 16 * (p2 : Int) + (p3 : Int) by rw [IntKind.wrap_i64]; omega, ← hw]; simp [IntKind.wrap, IntKind.bits, IntKind.signed]; omega)
              clear hw
              go_upto_region 21 with (first
                | (go_at_call 70; with_reducible refine (HC2.out _).mono ?_; rintro e w9 ⟨rfl, hw9⟩; replace hw9 := hw9.symm; subst hw9)
                | (go_at_call 70; with_reducible refine (HC3.out _).mono ?_; rintro e w9 ⟨rfl, hw9⟩; replace hw9 := hw9.symm; subst hw9))
              refine wp_region_W 15 (fun X => Below wr.heap.size wr X) (by kernel_rfl) ?_ (fun hS0 => ?_)
              · exact (Below.refl _ _).drew
              (refine wpAnyW_take (i := 0) (v := ?_) rfl (by kernel_rfl) (by kernel_rfl) (by kernel_rfl) (by kernel_rfl) (fun _ _ _ h => h) (Or.inl ⟨by kernel_rfl, ?_⟩) (by assumption) ?_; rotate_left; focus (intro V9 hS9; go_simp; (try (with_reducible rfl)); done))
              try simp only [Act.put, List.getElem_toArray, List.getElem_cons_zero, List.setIfInBounds_toArray, List.set_cons_succ, List.set_cons_zero]
              (refine wpAnyW_take (i := 1) (v := ?_) rfl (by kernel_rfl) (by kernel_rfl) (by kernel_rfl) (by kernel_rfl) (fun _ _ _ h => h) (Or.inl ⟨by kernel_rfl, ?_⟩) (by assumption) ?_; rotate_left; focus (intro V9 hS9; go_simp; (try (with_reducible rfl)); done))
              try simp only [Act.put, List.getElem_toArray, List.getElem_cons_succ, List.getElem_cons_zero, List.setIfInBounds_toArray, List.set_cons_succ, List.set_cons_zero]
              (refine wpAnyW_take (i := 2) (v := ?_) rfl (by kernel_rfl) (by kernel_rfl) (by kernel_rfl) (by kernel_rfl) (fun _ _ _ h => h) (Or.inl ⟨by kernel_rfl, ?_⟩) (by assumption) ?_; rotate_left; focus (intro V9 hS9; go_simp; (try (with_reducible rfl)); done))
              try simp only [Act.put, List.getElem_toArray, List.getElem_cons_succ, List.getElem_cons_zero, List.setIfInBounds_toArray, List.set_cons_succ, List.set_cons_zero]
              (refine wpAnyW_take (i := 3) (v := ?_) rfl (by kernel_rfl) (by kernel_rfl) (by kernel_rfl) (by kernel_rfl) (fun _ _ _ h => h) (Or.inl ⟨by kernel_rfl, ?_⟩) (by assumption) ?_; rotate_left; focus (intro V9 hS9; go_simp; (try (with_reducible rfl)); done))
              try simp only [Act.put, List.getElem_toArray, List.getElem_cons_succ, List.getElem_cons_zero, List.setIfInBounds_toArray, List.set_cons_succ, List.set_cons_zero]
              (refine wpAnyW_take (i := 4) (v := ?_) rfl (by kernel_rfl) (by kernel_rfl) (by kernel_rfl) (by kernel_rfl) (fun _ _ _ h => h) (Or.inl ⟨by kernel_rfl, ?_⟩) (by assumption) ?_; rotate_left; focus (intro V9 hS9; go_simp; (try (with_reducible rfl)); done))
              try simp only [Act.put, List.getElem_toArray, List.getElem_cons_succ, List.getElem_cons_zero, List.setIfInBounds_toArray, List.set_cons_succ, List.set_cons_zero]
              (refine wpAnyW_take (i := 7) (v := ?_) rfl (by kernel_rfl) (by kernel_rfl) (by kernel_rfl) (by kernel_rfl) (fun _ _ _ h => h) (Or.inl ⟨by kernel_rfl, ?_⟩) (by assumption) ?_; rotate_left; focus (intro V9 hS9; go_simp; (try (with_reducible rfl)); done))
              try simp only [Act.put, List.getElem_toArray, List.getElem_cons_succ, List.getElem_cons_zero, List.setIfInBounds_toArray, List.set_cons_succ, List.set_cons_zero]
              (refine wpAnyW_take (i := 8) (v := ?_) rfl (by kernel_rfl) (by kernel_rfl) (by kernel_rfl) (by kernel_rfl) (fun _ _ _ h => h) (Or.inl ⟨by kernel_rfl, ?_⟩) (by assumption) ?_; rotate_left; focus (intro V9 hS9; go_simp; (try (with_reducible rfl)); done))
              try simp only [Act.put, List.getElem_toArray, List.getElem_cons_succ, List.getElem_cons_zero, List.setIfInBounds_toArray, List.set_cons_succ, List.set_cons_zero]
              (refine wpAnyW_take (i := 9) (v := ?_) rfl (by kernel_rfl) (by kernel_rfl) (by kernel_rfl) (by kernel_rfl) (fun _ _ _ h => h) (Or.inl ⟨by kernel_rfl, ?_⟩) (by assumption) ?_; rotate_left; focus (intro V9 hS9; go_simp; (try (with_reducible rfl)); done))
              try simp only [Act.put, List.getElem_toArray, List.getElem_cons_succ, List.getElem_cons_zero, List.setIfInBounds_toArray, List.set_cons_succ, List.set_cons_zero]
              (refine wpAnyW_take (i := 10) (v := ?_) rfl (by kernel_rfl) (by kernel_rfl) (by kernel_rfl) (by kernel_rfl) (fun _ _ _ h => h) (Or.inl ⟨by kernel_rfl, ?_⟩) (by assumption) ?_; rotate_left; focus (intro V9 hS9; go_simp; (try (with_reducible rfl)); done))
              try simp only [Act.put, List.getElem_toArray, List.getElem_cons_succ, List.getElem_cons_zero, List.setIfInBounds_toArray, List.set_cons_succ, List.set_cons_zero]
              refine wpAnyW_ready (rs := [5]) (by kernel_rfl) (by simp) ?_
              refine AllReadyW.cons rfl (fun K hK => ?_) AllReadyW.nil
              go_simp
              refine (HC2.out _).mono ?_
              rintro e w5 ⟨rfl, rfl⟩
              refine hK.out _ _ (Below.refl _ _).drew (fun _ => ?_)
              clear hK K
              try simp only [Act.put, List.getElem_toArray, List.getElem_cons_succ, List.getElem_cons_zero, List.setIfInBounds_toArray, List.set_cons_succ, List.set_cons_zero]
              (refine wpAnyW_take (i := 6) (v := ?_) rfl (by kernel_rfl) (by kernel_rfl) (by kernel_rfl) (by kernel_rfl) (fun _ _ _ h => h) (Or.inl ⟨by kernel_rfl, ?_⟩) (by assumption) ?_; rotate_left; focus (intro V9 hS9; go_simp; (try (with_reducible rfl)); done))
              try simp only [Act.put, List.getElem_toArray, List.getElem_cons_succ, List.getElem_cons_zero, List.setIfInBounds_toArray, List.set_cons_succ, List.set_cons_zero]
              refine wpAnyW_ready (rs := [11]) (by kernel_rfl) (by simp) ?_
              refine AllReadyW.cons rfl (fun K hK => ?_) AllReadyW.nil
              go_simp
              refine (HC3.out _).mono ?_
              rintro e w5 ⟨rfl, rfl⟩
              refine hK.out _ _ (Below.refl _ _).drew (fun _ => ?_)
              clear hK K
              try simp only [Act.put, List.getElem_toArray, List.getElem_cons_succ, List.getElem_cons_zero, List.setIfInBounds_toArray, List.set_cons_succ, List.set_cons_zero]
              (refine wpAnyW_take (i := 12) (v := ?_) rfl (by kernel_rfl) (by kernel_rfl) (by kernel_rfl) (by kernel_rfl) (fun _ _ _ h => h) (Or.inl ⟨by kernel_rfl, ?_⟩) (by assumption) ?_; rotate_left; focus (intro V9 hS9; go_simp; (try (with_reducible rfl)); done))
              try simp only [Act.put, List.getElem_toArray, List.getElem_cons_succ, List.getElem_cons_zero, List.setIfInBounds_toArray, List.set_cons_succ, List.set_cons_zero]
              (refine wpAnyW_take (i := 13) (v := ?_) rfl (by kernel_rfl) (by kernel_rfl) (by kernel_rfl) (by kernel_rfl) (fun _ _ _ h => h) (Or.inl ⟨by kernel_rfl, ?_⟩) (by assumption) ?_; rotate_left; focus (intro V9 hS9; go_simp; (try (with_reducible rfl)); done))
              try simp only [Act.put, List.getElem_toArray, List.getElem_cons_succ, List.getElem_cons_zero, List.setIfInBounds_toArray, List.set_cons_succ, List.set_cons_zero]
              refine wpAnyW_ready (rs := [14]) (by kernel_rfl) (by simp) ?_
              refine AllReadyW.cons rfl (fun K hK => ?_) AllReadyW.nil
              go_simp
              refine hK.out _ _ ((Below.refl _ _).drew.alloc (Nat.le_refl _) _) (fun _ => ?_)
              clear hK K
              try simp only [Act.put, List.getElem_toArray, List.getElem_cons_succ, List.getElem_cons_zero, List.setIfInBounds_toArray, List.set_cons_succ, List.set_cons_zero]
              refine wpAnyW_ready (rs := [15]) (by kernel_rfl) (by simp) ?_
              refine AllReadyW.consE rfl (by kernel_rfl) (fun K hK => ?_) AllReadyW.nil
              refine step_appO bytesT (by kernel_rfl) (.tmp 97) (.tmp 111) rfl W.heap.size n (b.map bv) (.slice B n cap) (HO.out _) (some ⟨wr.heap.size, 0, none⟩) 1 1 ([w].map bv) (by rfl) (by rfl) rfl (cs_byte1 wr _ w (by show Value.int .u8 _ = Value.int .u8 _; rw [HWN.out])) (bvs_one _) (by unfold maxLen; omega) (by omega) (Nat.le_trans HI.out.bel.size (below_alloc _ _).size) ?_
              intro v' w' ho hg hat
              refine hK.out _ _ ?_
              clear hK K
              try simp only [Act.put, List.getElem_toArray, List.getElem_cons_succ, List.getElem_cons_zero, List.setIfInBounds_toArray, List.set_cons_succ, List.set_cons_zero]
              refine wpAnyW_ready (rs := [16]) (by kernel_rfl) (by simp) ?_
              refine AllReadyW.consE rfl (by kernel_rfl) (fun K hK => ?_) AllReadyW.nil
              go_simp
              refine hK.out _ _ ?_
              clear hK K
              refine wpAnyW_done (by kernel_rfl) ?_ _
              go_wp2
              have hJ := HI.out.app (c := w) (by rw [HN.out]; exact ho) ⟨hg.os, hg.tape, hg.output, hg.size, hg.block⟩
              go_roundw
              case rel => exact ⟨m, i + 4, b ++ [w], v', by go_num, rfl, by omega, by rw [List.length_append, HN.out]; simp only [List.length_cons, List.length_nil]; omega, HL.out, hJ⟩
              case measure => simp [intOf]; omega
        · rw [if_neg c92] at hl
          have e92 : ((c.toNat : Int) == 92) = false := by simp; omega
          clear c39 c92
          by_cases c32 : c.toNat < 32
          · rw [if_pos (.inl c32)] at hl
            have HR := Lib.hid (Option.some.inj hl).symm
            have e32 : decide ((c.toNat : Int) < 32) = true := by simp; omega
            clear hl c32
            go_wp2
            exact bodyPost_ret (v := .tuple #[.string ⟨#[]⟩, .int .i64 0, .int .i64 100, .int .i64 (i : Nat)]) (by simp [results, Tryz.results62, go_sem]) rfl ⟨by rw [HR.out]; rfl, HI.out.bel⟩
          have e32 : decide ((c.toNat : Int) < 32) = false := by simp; omega
          by_cases c126 : 126 < c.toNat
          · rw [if_pos (.inr c126)] at hl
            have HR := Lib.hid (Option.some.inj hl).symm
            have e126 : decide ((126 : Int) < (c.toNat : Int)) = true := by simp; omega
            clear hl c32 c126
            go_wp2
            exact bodyPost_ret (v := .tuple #[.string ⟨#[]⟩, .int .i64 0, .int .i64 100, .int .i64 (i : Nat)]) (by simp [results, Tryz.results62, go_sem]) rfl ⟨by rw [HR.out]; rfl, HI.out.bel⟩
          have e126 : decide ((126 : Int) < (c.toNat : Int)) = false := by simp; omega
          rw [if_neg (by omega)] at hl
          have HL := Lib.hid hl
          clear hl c32 c126
          go_wp2_with (at_builtin; refine wpList_app bytesT rfl (.tmp 22) (.tmp 24) rfl W.heap.size (.slice B n cap) n (b.map bv) rfl (HO.out _) (some ⟨wr.heap.size, 0, none⟩) 1 1 ([c].map bv) rfl rfl (cs_byte1 wr _ c rfl) (bvs_one _) (by unfold maxLen; omega) (by omega) (Nat.le_trans HI.out.bel.size (below_alloc _ _).size) ?_; intro v' w' ho hg hat)
          have hJ := HI.out.app (c := c) (by rw [HN.out]; exact ho) hg
          go_roundw
          case rel => exact ⟨m, i + 1, b ++ [c], v', by go_num, rfl, by omega, by rw [List.length_append, HN.out]; simp only [List.length_cons, List.length_nil]; omega, HL.out, hJ⟩
          case measure => simp [intOf]; omega
    · obtain rfl : i = len := by omega
      have d0 : decide (s.length ≤ i) = true := by simp; rw [HLEN.out]; exact Nat.le_refl _
      rw [List.getElem?_eq_none (by rw [HLEN.out]; exact Nat.le_refl _)] at hl
      have HR := Lib.hid (Option.some.inj hl).symm
      clear hl hlt
      go_wp2
      exact bodyPost_ret (v := .tuple #[.string ⟨#[]⟩, .int .i64 0, .int .i64 100, .int .i64 (a : Nat)]) (by simp [results, Tryz.results62, go_sem]) rfl ⟨by rw [HR.out]; rfl, HI.out.bel⟩

end Go.Proofs.YtmpknhdfglbocaaGreat
