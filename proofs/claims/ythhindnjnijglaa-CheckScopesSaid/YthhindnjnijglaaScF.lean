/- Layer 10: the walk of quoted. Layer 10: the walk of Scan. -/
import Derived.Test.YthhindnjnijglaaScD
import Derived.Test.YthhindnjnijglaaLibA
import Derived.Test.YthhindnjnijglaaOrd
import Derived.Test.YthhindnjnijglaaPaE
namespace Go.Proofs.Ythhindnjnijglaa
section
open Go.RowKit
set_option linter.unusedVariables false

theorem cs_byte1 (w : World) (x : Int) (c : UInt8) (h : Value.int .u8 x = bv c) : Cs (w.alloc (.cells #[.int .u8 x] 5)) (some ⟨w.heap.size, 0, none⟩) ([c].map bv) := by
  rw [h]
  exact .inr ⟨_, rfl, cell_one_new w (bv c) 5⟩
theorem quoL_c {s : List UInt8} {a m i : Nat} {b : List UInt8} {r : QR} (h : quoL s a (m + 1) i b = some r) : (match s[i]? with
    | none => some (.bad a)
    | some c =>
      if c.toNat = 39 then (if b.length < 1 ∨ 255 < b.length then some (.bad a) else some ⟨b, i + 1, 0, 0⟩)
      else if c.toNat = 92 then (match s[i + 1]? with
        | none => some (.bad i)
        | some d => if d.toNat = 39 ∨ d.toNat = 92 then quoL s a m (i + 2) (b ++ [d])
          else if d.toNat = 120 ∧ i + 3 < s.length ∧ 0 ≤ hexB s (i + 2) ∧ 0 ≤ hexB s (i + 3) then quoL s a m (i + 4) (b ++ [UInt8.ofNat (16 * hexB s (i + 2) + hexB s (i + 3)).toNat])
          else some (.bad i))
      else if c.toNat < 32 ∨ 126 < c.toNat then some (.bad i)
      else quoL s a m (i + 1) (b ++ [c])) = some r := h
theorem hexN_le (n : Nat) : hexN n ≤ 15 := by
  unfold hexN
  split
  · rename_i h; unfold digN at h; simp at h; omega
  · split <;> omega
def QEnd (W : World) (r : QR) (e : Ending) (w' : World) : Prop := e = .returned (.tuple #[.string ⟨r.name.toArray⟩, .int .i64 (r.to : Nat), .int .i64 r.e, .int .i64 (r.at_ : Nat)]) ∧ Below W.heap.size W w'
/-- The state of the loop. -/
structure QI (W : World) (b : List UInt8) (v : Value) (wx : World) : Prop where
  own : wx.ownsRow W.heap.size 5 1 v b.length (b.map bv)
  bel : Below W.heap.size W wx
theorem QI.app {W : World} {b : List UInt8} {v v' : Value} {wx w' : World} {o : Obj} {c : UInt8} (h : QI W b v wx) (ho : w'.ownsRow W.heap.size 5 1 v' (b.length + 1) (b.map bv ++ [c].map bv)) (hg : (wx.alloc o).grownBy w' v.ownBlock) : QI W (b ++ [c]) v' w' := by
  exact ⟨by rw [List.length_append, List.map_append]; exact ho, (h.bel.alloc h.bel.size o).grown hg (Nat.le_trans h.bel.size (below_alloc _ _).size) (fun k hk => (World.ownsRow.lt h.own k hk).1)⟩

set_option maxRecDepth 100000 in
set_option maxHeartbeats 8000000 in
theorem quoted_any (W : World) (s : List UInt8) {len : Nat} (hlen : s.length = len) (h16 : len ≤ 16384) (a : Nat) (ha : a < len) : Calls Try.prog 35 #[.string ⟨s.toArray⟩, .int .i64 (a : Int)] W (QEnd W (quoP s a)) := by
  have HQ := Lib.hid (quoP_eq s a)
  have HLEN := Lib.hid hlen
  obtain ⟨r, hr⟩ : ∃ r, quoP s a = r := ⟨_, rfl⟩
  rw [hr] at HQ ⊢
  have HST : Hid (QI W [] (.slice none 0 0) W) := ⟨World.ownsRow_nil _ _ _ _, Below.refl _ _⟩
  clear hr hlen
  go_enter Try.func35, Try.ntmps35
  go_wp2
  go_loopw [8, 9, 10, 11] (fun v8 v9 _ _ wx => ∃ (m i : Nat) (b : List UInt8) (v : Value), v9 = .int .i64 (i : Int) ∧ v8 = v ∧ i ≤ len ∧ b.length ≤ i ∧ quoL s a m i b = some r ∧ QI W b v wx) (fun _ v9 _ _ _ => len - (intOf v9).toNat)
  case atStart => exact ⟨_, a + 1, [], _, by go_num, rfl, by omega, by simp, HQ.out, HST.out⟩
  case round =>
    obtain ⟨m, i, b, v, rfl, rfl, hi, hbi, hl, hI⟩ := hrel
    clear HST HQ
    obtain _ | m := m
    · exact absurd hl (by simp [quoL])
    replace hl := quoL_c hl
    obtain ⟨B, cap, rfl, hrd, _, hnc⟩ := own_rd hI.own
    obtain ⟨n, hn⟩ : ∃ n, b.length = n := ⟨_, rfl⟩
    have HO : Hid (∀ o, (wr.alloc o).ownsRow W.heap.size 5 1 (.slice B n cap) n (b.map bv)) := fun o => by
      have h9 := own_far hI.own (below_alloc wr o)
      rw [hn] at h9
      exact h9
    have HI := Lib.hid hI
    rw [hn] at HI hbi ⊢
    have HN := Lib.hid hn
    have HRD := Lib.hid hrd
    clear hI hn hrd hnc
    by_cases hlt : i < len
    · have hil : i < s.length := by rw [HLEN.out]; exact hlt
      have d0 : decide (s.length ≤ i) = false := by simp; omega
      rw [List.getElem?_eq_getElem hil] at hl
      obtain ⟨c, hc⟩ : ∃ c, s[i] = c := ⟨_, rfl⟩
      rw [hc] at hl
      simp only at hl
      have hx : (ByteArray.mk s.toArray)[i]'hil = c := hc
      have q1 : (0 : Int) ≤ (i : Int) := by omega
      have q2 : (i : Int) < (s.length : Int) := by omega
      have hc256 : c.toNat < 256 := UInt8.toNat_lt c
      clear hc
      by_cases c39 : c.toNat = 39
      · rw [if_pos c39] at hl
        have e39 : ((c.toNat : Int) == 39) = true := by simp; omega
        by_cases b1 : n < 1
        · rw [if_pos (.inl (by rw [HN.out]; exact b1))] at hl
          have HR := Lib.hid (Option.some.inj hl).symm
          have e1 : decide ((n : Int) < 1) = true := by simp; omega
          clear hl b1 c39
          go_wp2
          exact bodyPost_ret (v := .tuple #[.string ⟨#[]⟩, .int .i64 0, .int .i64 100, .int .i64 (a : Nat)]) (by simp [results, Try.results35, go_sem]) rfl ⟨by rw [HR.out]; rfl, HI.out.bel⟩
        by_cases b2 : 255 < n
        · rw [if_pos (.inr (by rw [HN.out]; exact b2))] at hl
          have HR := Lib.hid (Option.some.inj hl).symm
          have e1 : decide ((n : Int) < 1) = false := by simp; omega
          have e2 : decide ((255 : Int) < (n : Int)) = true := by simp; omega
          clear hl b1 b2 c39
          go_wp2
          exact bodyPost_ret (v := .tuple #[.string ⟨#[]⟩, .int .i64 0, .int .i64 100, .int .i64 (a : Nat)]) (by simp [results, Try.results35, go_sem]) rfl ⟨by rw [HR.out]; rfl, HI.out.bel⟩
        rw [if_neg (by rw [HN.out]; omega)] at hl
        have HR := Lib.hid (Option.some.inj hl).symm
        have e1 : decide ((n : Int) < 1) = false := by simp; omega
        have e2 : decide ((255 : Int) < (n : Int)) = false := by simp; omega
        have hcv := run_str (P := Try.prog) Try.underlying104 Try.underlying5 Try.underlying9 wr B n cap b HN.out HRD.out
        have q9 : IntKind.i64.wrap ((i : Int) + 1) = ((i + 1 : Nat) : Int) := by rw [IntKind.wrap_i64]; omega
        clear hl b1 b2 c39
        go_wp2
        exact bodyPost_ret (v := .tuple #[.string ⟨b.toArray⟩, .int .i64 ((i + 1 : Nat) : Int), .int .i64 0, .int .i64 0]) (by simp [results, Try.results35, go_sem]) rfl ⟨by rw [HR.out]; rfl, HI.out.bel⟩
      · rw [if_neg c39] at hl
        have e39 : ((c.toNat : Int) == 39) = false := by simp; omega
        by_cases c92 : c.toNat = 92
        · rw [if_pos c92] at hl
          have e92 : ((c.toNat : Int) == 92) = true := by simp; omega
          have q9 : IntKind.i64.wrap ((i : Int) + 1) = ((i + 1 : Nat) : Int) := by rw [IntKind.wrap_i64]; omega
          clear c39 c92
          by_cases hi1 : i + 1 < len
          rotate_left
          · rw [List.getElem?_eq_none (by rw [HLEN.out]; omega)] at hl
            have HR := Lib.hid (Option.some.inj hl).symm
            have d1 : decide (s.length ≤ i + 1) = true := by simp; rw [HLEN.out]; omega
            have d2 : decide ((s.length : Int) ≤ (i : Int) + 1) = true := by simp; rw [HLEN.out]; omega
            clear hl hi1
            go_wp2
            exact bodyPost_ret (v := .tuple #[.string ⟨#[]⟩, .int .i64 0, .int .i64 100, .int .i64 (i : Nat)]) (by simp [results, Try.results35, go_sem]) rfl ⟨by rw [HR.out]; rfl, HI.out.bel⟩
          · have hi1l : i + 1 < s.length := by rw [HLEN.out]; exact hi1
            have d1 : decide (s.length ≤ i + 1) = false := by simp; omega
            have d2 : decide ((s.length : Int) ≤ (i : Int) + 1) = false := by simp; omega
            rw [List.getElem?_eq_getElem hi1l] at hl
            obtain ⟨d, hd⟩ : ∃ d, s[i + 1] = d := ⟨_, rfl⟩
            rw [hd] at hl
            simp only at hl
            have hx1 : (ByteArray.mk s.toArray)[i + 1]'hi1l = d := hd
            have q3 : (0 : Int) ≤ (i : Int) + 1 := by omega
            have q4 : (i : Int) + 1 < (s.length : Int) := by omega
            have q5 : ((i : Int) + 1).toNat = i + 1 := by omega
            have hd256 : d.toNat < 256 := UInt8.toNat_lt d
            clear hd
            by_cases dq : d.toNat = 39 ∨ d.toNat = 92
            · rw [if_pos dq] at hl
              have HL := Lib.hid hl
              by_cases d39 : d.toNat = 39
              · have f39 : ((d.toNat : Int) == 39) = true := by simp; omega
                clear hl dq d39
                go_wp2_with (at_builtin; refine wpList_app bytesT rfl (.tmp 65) (.tmp 67) rfl W.heap.size (.slice B n cap) n (b.map bv) rfl (HO.out _) (some ⟨wr.heap.size, 0, none⟩) 1 1 ([d].map bv) rfl rfl (cs_byte1 wr _ d rfl) (bvs_one _) (by unfold maxLen; omega) (by omega) (Nat.le_trans HI.out.bel.size (below_alloc _ _).size) ?_; intro v' w' ho hg hat)
                have hJ := HI.out.app (c := d) (by rw [HN.out]; exact ho) hg
                go_roundw
                case rel => exact ⟨m, i + 2, b ++ [d], v', by go_num, rfl, by omega, by rw [List.length_append, HN.out]; simp only [List.length_cons, List.length_nil]; omega, HL.out, hJ⟩
                case measure => simp [intOf]; omega
              · have f39 : ((d.toNat : Int) == 39) = false := by simp; omega
                have f92 : ((d.toNat : Int) == 92) = true := by simp; omega
                clear hl dq d39
                go_wp2_with (at_builtin; refine wpList_app bytesT rfl (.tmp 65) (.tmp 67) rfl W.heap.size (.slice B n cap) n (b.map bv) rfl (HO.out _) (some ⟨wr.heap.size, 0, none⟩) 1 1 ([d].map bv) rfl rfl (cs_byte1 wr _ d rfl) (bvs_one _) (by unfold maxLen; omega) (by omega) (Nat.le_trans HI.out.bel.size (below_alloc _ _).size) ?_; intro v' w' ho hg hat)
                have hJ := HI.out.app (c := d) (by rw [HN.out]; exact ho) hg
                go_roundw
                case rel => exact ⟨m, i + 2, b ++ [d], v', by go_num, rfl, by omega, by rw [List.length_append, HN.out]; simp only [List.length_cons, List.length_nil]; omega, HL.out, hJ⟩
                case measure => simp [intOf]; omega
            · rw [if_neg dq] at hl
              have f39 : ((d.toNat : Int) == 39) = false := by simp; omega
              have f92 : ((d.toNat : Int) == 92) = false := by simp; omega
              clear dq
              by_cases d120 : d.toNat = 120
              rotate_left
              · rw [if_neg (fun x => d120 x.1)] at hl
                have HR := Lib.hid (Option.some.inj hl).symm
                have f120 : ((d.toNat : Int) == 120) = false := by simp; omega
                clear hl d120
                go_wp2
                exact bodyPost_ret (v := .tuple #[.string ⟨#[]⟩, .int .i64 0, .int .i64 100, .int .i64 (i : Nat)]) (by simp [results, Try.results35, go_sem]) rfl ⟨by rw [HR.out]; rfl, HI.out.bel⟩
              have f120 : ((d.toNat : Int) == 120) = true := by simp; omega
              by_cases hi3 : i + 3 < len
              rotate_left
              · rw [if_neg (fun x => hi3 (by have := x.2.1; rw [HLEN.out] at this; exact this))] at hl
                have HR := Lib.hid (Option.some.inj hl).symm
                have g3 : decide (i + 3 < s.length) = false := by simp; rw [HLEN.out]; omega
                have g3' : decide ((i : Int) + 3 < (s.length : Int)) = false := by simp; rw [HLEN.out]; omega
                clear hl d120 hi3
                go_wp2
                exact bodyPost_ret (v := .tuple #[.string ⟨#[]⟩, .int .i64 0, .int .i64 100, .int .i64 (i : Nat)]) (by simp [results, Try.results35, go_sem]) rfl ⟨by rw [HR.out]; rfl, HI.out.bel⟩
              have hi3l : i + 3 < s.length := by rw [HLEN.out]; exact hi3
              have hi2l : i + 2 < s.length := by omega
              have g3 : decide (i + 3 < s.length) = true := by simpa using hi3l
              have g3' : decide ((i : Int) + 3 < (s.length : Int)) = true := by simp; omega
              have hh2 : hexB s (i + 2) = hexN (s[i + 2]).toNat := by unfold hexB; rw [List.getElem?_eq_getElem hi2l]
              have hh3 : hexB s (i + 3) = hexN (s[i + 3]).toNat := by unfold hexB; rw [List.getElem?_eq_getElem hi3l]
              rw [hh2, hh3] at hl
              obtain ⟨x2, hx2⟩ : ∃ x2, s[i + 2] = x2 := ⟨_, rfl⟩
              obtain ⟨x3, hx3⟩ : ∃ x3, s[i + 3] = x3 := ⟨_, rfl⟩
              rw [hx2, hx3] at hl
              have hx2 : (ByteArray.mk s.toArray)[i + 2]'hi2l = x2 := hx2
              have hx3 : (ByteArray.mk s.toArray)[i + 3]'hi3l = x3 := hx3
              have HC2 := Lib.hid (fun V => hex_any V (UInt8.toNat_lt x2))
              have HC3 := Lib.hid (fun V => hex_any V (UInt8.toNat_lt x3))
              have k2 := hexN_le x2.toNat
              have k3 := hexN_le x3.toNat
              obtain ⟨y2, hy2⟩ : ∃ y2, hexN x2.toNat = y2 := ⟨_, rfl⟩
              obtain ⟨y3, hy3⟩ : ∃ y3, hexN x3.toNat = y3 := ⟨_, rfl⟩
              rw [hy2, hy3] at hl
              rw [hy2] at HC2 k2
              rw [hy3] at HC3 k3
              have w2 : IntKind.i64.wrap ((i : Int) + 2) = (i : Int) + 2 := by rw [IntKind.wrap_i64]; omega
              have w3 : IntKind.i64.wrap ((i : Int) + 3) = (i : Int) + 3 := by rw [IntKind.wrap_i64]; omega
              have r1 : (0 : Int) ≤ (i : Int) + 2 := by omega
              have r2 : (i : Int) + 2 < (s.length : Int) := by omega
              have r3 : ((i : Int) + 2).toNat = i + 2 := by omega
              have r4 : (0 : Int) ≤ (i : Int) + 3 := by omega
              have r5 : (i : Int) + 3 < (s.length : Int) := by omega
              have r6 : ((i : Int) + 3).toNat = i + 3 := by omega
              clear hy2 hy3 hh2 hh3
              by_cases y2n : 0 ≤ y2
              rotate_left
              · rw [if_neg (fun x => y2n x.2.2.1)] at hl
                have HR := Lib.hid (Option.some.inj hl).symm
                have z2 : decide ((0 : Int) ≤ y2) = false := by simp; omega
                clear hl d120 hi3 y2n
                go_wp2_with (first
                  | (go_at_call 56; with_reducible refine (HC2.out _).mono ?_; rintro e w9 ⟨rfl, hw9⟩; replace hw9 := hw9.symm; subst hw9)
                  | (go_at_call 56; with_reducible refine (HC3.out _).mono ?_; rintro e w9 ⟨rfl, hw9⟩; replace hw9 := hw9.symm; subst hw9))
                exact bodyPost_ret (v := .tuple #[.string ⟨#[]⟩, .int .i64 0, .int .i64 100, .int .i64 (i : Nat)]) (by simp [results, Try.results35, go_sem]) rfl ⟨by rw [HR.out]; rfl, HI.out.bel⟩
              have z2 : decide ((0 : Int) ≤ y2) = true := by simpa using y2n
              by_cases y3n : 0 ≤ y3
              rotate_left
              · rw [if_neg (fun x => y3n x.2.2.2)] at hl
                have HR := Lib.hid (Option.some.inj hl).symm
                have z3 : decide ((0 : Int) ≤ y3) = false := by simp; omega
                clear hl d120 hi3 y3n
                go_wp2_with (first
                  | (go_at_call 56; with_reducible refine (HC2.out _).mono ?_; rintro e w9 ⟨rfl, hw9⟩; replace hw9 := hw9.symm; subst hw9)
                  | (go_at_call 56; with_reducible refine (HC3.out _).mono ?_; rintro e w9 ⟨rfl, hw9⟩; replace hw9 := hw9.symm; subst hw9))
                exact bodyPost_ret (v := .tuple #[.string ⟨#[]⟩, .int .i64 0, .int .i64 100, .int .i64 (i : Nat)]) (by simp [results, Try.results35, go_sem]) rfl ⟨by rw [HR.out]; rfl, HI.out.bel⟩
              have z3 : decide ((0 : Int) ≤ y3) = true := by simpa using y3n
              rw [if_pos ⟨d120, hi3l, y2n, y3n⟩] at hl
              have HL := Lib.hid hl
              have hi4 : i + 4 ≤ len := hi3
              clear hl d120 hi3
              obtain ⟨p2, rfl⟩ := Int.eq_ofNat_of_zero_le y2n
              obtain ⟨p3, rfl⟩ := Int.eq_ofNat_of_zero_le y3n
              have k2' : p2 ≤ 15 := by omega
              have k3' : p3 ≤ 15 := by omega
              obtain ⟨w, hw⟩ : ∃ w, UInt8.ofNat (16 * (p2 : Int) + (p3 : Int)).toNat = w := ⟨_, rfl⟩
              rw [hw] at HL
              have HWN := Lib.hid (show IntKind.u8.wrap (IntKind.i64.wrap (IntKind.i64.wrap (16 * (p2 : Int)) + (p3 : Int))) = (w.toNat : Int) by rw [show IntKind.i64.wrap (16 * (p2 : Int)) = 16 * (p2 : Int) by rw [IntKind.wrap_i64]; omega, show IntKind.i64.wrap (16 * (p2 : Int) + (p3 : Int)) = 16 * (p2 : Int) + (p3 : Int) by rw [IntKind.wrap_i64]; omega, ← hw]; simp [IntKind.wrap, IntKind.bits, IntKind.signed]; omega)
              clear hw
              go_upto_region 21 with (first
                | (go_at_call 56; with_reducible refine (HC2.out _).mono ?_; rintro e w9 ⟨rfl, hw9⟩; replace hw9 := hw9.symm; subst hw9)
                | (go_at_call 56; with_reducible refine (HC3.out _).mono ?_; rintro e w9 ⟨rfl, hw9⟩; replace hw9 := hw9.symm; subst hw9))
              refine wp_region_W 15 (fun X => Below wr.heap.size wr X) (by kernel_rfl) ?_ (fun hS0 => ?_)
              · exact (Below.refl _ _).drew
              (refine wpAnyW_take (i := 0) (v := ?_) rfl (by kernel_rfl) (by kernel_rfl) (by kernel_rfl) (by kernel_rfl) (fun _ _ _ h => h) (Or.inl ⟨by kernel_rfl, ?_⟩) (by assumption) ?_; rotate_left; focus (intro V9 hS9; go_simp; (try (with_reducible rfl)); done))
              try simp only [Act.put, List.getElem_toArray, List.getElem_cons_zero, List.setIfInBounds_toArray, List.set_cons_succ, List.set_cons_zero]
              (refine wpAnyW_take (i := 1) (v := ?_) rfl (by kernel_rfl) (by kernel_rfl) (by kernel_rfl) (by kernel_rfl) (fun _ _ _ h => h) (Or.inl ⟨by kernel_rfl, ?_⟩) (by assumption) ?_; rotate_left; focus (intro V9 hS9; go_simp; (try (with_reducible rfl)); done))
              try simp only [Act.put, List.getElem_toArray, List.getElem_cons_succ, List.getElem_cons_zero, List.setIfInBounds_toArray, List.set_cons_succ, List.set_cons_zero]
              (refine wpAnyW_take (i := 2) (v := ?_) rfl (by kernel_rfl) (by kernel_rfl) (by kernel_rfl) (by kernel_rfl) (fun _ _ _ h => h) (Or.inl ⟨by kernel_rfl, ?_⟩) (by assumption) ?_; rotate_left; focus (intro V9 hS9; go_simp; (try (with_reducible rfl)); done))
              try simp only [Act.put, List.getElem_toArray, List.getElem_cons_succ, List.getElem_cons_zero, List.setIfInBounds_toArray, List.set_cons_succ, List.set_cons_zero]
              (refine wpAnyW_take (i := 3) (v := ?_) rfl (by kernel_rfl) (by kernel_rfl) (by kernel_rfl) (by kernel_rfl) (fun _ _ _ h => h) (Or.inl ⟨by kernel_rfl, ?_⟩) (by assumption) ?_; rotate_left; focus (intro V9 hS9; go_simp; (try (with_reducible rfl)); done))
              try simp only [Act.put, List.getElem_toArray, List.getElem_cons_succ, List.getElem_cons_zero, List.setIfInBounds_toArray, List.set_cons_succ, List.set_cons_zero]
              (refine wpAnyW_take (i := 4) (v := ?_) rfl (by kernel_rfl) (by kernel_rfl) (by kernel_rfl) (by kernel_rfl) (fun _ _ _ h => h) (Or.inl ⟨by kernel_rfl, ?_⟩) (by assumption) ?_; rotate_left; focus (intro V9 hS9; go_simp; (try (with_reducible rfl)); done))
              try simp only [Act.put, List.getElem_toArray, List.getElem_cons_succ, List.getElem_cons_zero, List.setIfInBounds_toArray, List.set_cons_succ, List.set_cons_zero]
              (refine wpAnyW_take (i := 7) (v := ?_) rfl (by kernel_rfl) (by kernel_rfl) (by kernel_rfl) (by kernel_rfl) (fun _ _ _ h => h) (Or.inl ⟨by kernel_rfl, ?_⟩) (by assumption) ?_; rotate_left; focus (intro V9 hS9; go_simp; (try (with_reducible rfl)); done))
              try simp only [Act.put, List.getElem_toArray, List.getElem_cons_succ, List.getElem_cons_zero, List.setIfInBounds_toArray, List.set_cons_succ, List.set_cons_zero]
              (refine wpAnyW_take (i := 8) (v := ?_) rfl (by kernel_rfl) (by kernel_rfl) (by kernel_rfl) (by kernel_rfl) (fun _ _ _ h => h) (Or.inl ⟨by kernel_rfl, ?_⟩) (by assumption) ?_; rotate_left; focus (intro V9 hS9; go_simp; (try (with_reducible rfl)); done))
              try simp only [Act.put, List.getElem_toArray, List.getElem_cons_succ, List.getElem_cons_zero, List.setIfInBounds_toArray, List.set_cons_succ, List.set_cons_zero]
              (refine wpAnyW_take (i := 9) (v := ?_) rfl (by kernel_rfl) (by kernel_rfl) (by kernel_rfl) (by kernel_rfl) (fun _ _ _ h => h) (Or.inl ⟨by kernel_rfl, ?_⟩) (by assumption) ?_; rotate_left; focus (intro V9 hS9; go_simp; (try (with_reducible rfl)); done))
              try simp only [Act.put, List.getElem_toArray, List.getElem_cons_succ, List.getElem_cons_zero, List.setIfInBounds_toArray, List.set_cons_succ, List.set_cons_zero]
              (refine wpAnyW_take (i := 10) (v := ?_) rfl (by kernel_rfl) (by kernel_rfl) (by kernel_rfl) (by kernel_rfl) (fun _ _ _ h => h) (Or.inl ⟨by kernel_rfl, ?_⟩) (by assumption) ?_; rotate_left; focus (intro V9 hS9; go_simp; (try (with_reducible rfl)); done))
              try simp only [Act.put, List.getElem_toArray, List.getElem_cons_succ, List.getElem_cons_zero, List.setIfInBounds_toArray, List.set_cons_succ, List.set_cons_zero]
              refine wpAnyW_ready (rs := [5]) (by kernel_rfl) (by simp) ?_
              refine AllReadyW.cons rfl (fun K hK => ?_) AllReadyW.nil
              go_simp
              refine (HC2.out _).mono ?_
              rintro e w5 ⟨rfl, rfl⟩
              refine hK.out _ _ (Below.refl _ _).drew (fun _ => ?_)
              clear hK K
              try simp only [Act.put, List.getElem_toArray, List.getElem_cons_succ, List.getElem_cons_zero, List.setIfInBounds_toArray, List.set_cons_succ, List.set_cons_zero]
              (refine wpAnyW_take (i := 6) (v := ?_) rfl (by kernel_rfl) (by kernel_rfl) (by kernel_rfl) (by kernel_rfl) (fun _ _ _ h => h) (Or.inl ⟨by kernel_rfl, ?_⟩) (by assumption) ?_; rotate_left; focus (intro V9 hS9; go_simp; (try (with_reducible rfl)); done))
              try simp only [Act.put, List.getElem_toArray, List.getElem_cons_succ, List.getElem_cons_zero, List.setIfInBounds_toArray, List.set_cons_succ, List.set_cons_zero]
              refine wpAnyW_ready (rs := [11]) (by kernel_rfl) (by simp) ?_
              refine AllReadyW.cons rfl (fun K hK => ?_) AllReadyW.nil
              go_simp
              refine (HC3.out _).mono ?_
              rintro e w5 ⟨rfl, rfl⟩
              refine hK.out _ _ (Below.refl _ _).drew (fun _ => ?_)
              clear hK K
              try simp only [Act.put, List.getElem_toArray, List.getElem_cons_succ, List.getElem_cons_zero, List.setIfInBounds_toArray, List.set_cons_succ, List.set_cons_zero]
              (refine wpAnyW_take (i := 12) (v := ?_) rfl (by kernel_rfl) (by kernel_rfl) (by kernel_rfl) (by kernel_rfl) (fun _ _ _ h => h) (Or.inl ⟨by kernel_rfl, ?_⟩) (by assumption) ?_; rotate_left; focus (intro V9 hS9; go_simp; (try (with_reducible rfl)); done))
              try simp only [Act.put, List.getElem_toArray, List.getElem_cons_succ, List.getElem_cons_zero, List.setIfInBounds_toArray, List.set_cons_succ, List.set_cons_zero]
              (refine wpAnyW_take (i := 13) (v := ?_) rfl (by kernel_rfl) (by kernel_rfl) (by kernel_rfl) (by kernel_rfl) (fun _ _ _ h => h) (Or.inl ⟨by kernel_rfl, ?_⟩) (by assumption) ?_; rotate_left; focus (intro V9 hS9; go_simp; (try (with_reducible rfl)); done))
              try simp only [Act.put, List.getElem_toArray, List.getElem_cons_succ, List.getElem_cons_zero, List.setIfInBounds_toArray, List.set_cons_succ, List.set_cons_zero]
              refine wpAnyW_ready (rs := [14]) (by kernel_rfl) (by simp) ?_
              refine AllReadyW.cons rfl (fun K hK => ?_) AllReadyW.nil
              go_simp
              refine hK.out _ _ ((Below.refl _ _).drew.alloc (Nat.le_refl _) _) (fun _ => ?_)
              clear hK K
              try simp only [Act.put, List.getElem_toArray, List.getElem_cons_succ, List.getElem_cons_zero, List.setIfInBounds_toArray, List.set_cons_succ, List.set_cons_zero]
              refine wpAnyW_ready (rs := [15]) (by kernel_rfl) (by simp) ?_
              refine AllReadyW.consE rfl (by kernel_rfl) (fun K hK => ?_) AllReadyW.nil
              refine step_appO bytesT (by kernel_rfl) (.tmp 97) (.tmp 111) rfl W.heap.size n (b.map bv) (.slice B n cap) (HO.out _) (some ⟨wr.heap.size, 0, none⟩) 1 1 ([w].map bv) (by rfl) (by rfl) rfl (cs_byte1 wr _ w (by show Value.int .u8 _ = Value.int .u8 _; rw [HWN.out])) (bvs_one _) (by unfold maxLen; omega) (by omega) (Nat.le_trans HI.out.bel.size (below_alloc _ _).size) ?_
              intro v' w' ho hg hat
              refine hK.out _ _ ?_
              clear hK K
              try simp only [Act.put, List.getElem_toArray, List.getElem_cons_succ, List.getElem_cons_zero, List.setIfInBounds_toArray, List.set_cons_succ, List.set_cons_zero]
              refine wpAnyW_ready (rs := [16]) (by kernel_rfl) (by simp) ?_
              refine AllReadyW.consE rfl (by kernel_rfl) (fun K hK => ?_) AllReadyW.nil
              go_simp
              refine hK.out _ _ ?_
              clear hK K
              refine wpAnyW_done (by kernel_rfl) ?_ _
              go_wp2
              have hJ := HI.out.app (c := w) (by rw [HN.out]; exact ho) ⟨hg.os, hg.tape, hg.output, hg.size, hg.block⟩
              go_roundw
              case rel => exact ⟨m, i + 4, b ++ [w], v', by go_num, rfl, by omega, by rw [List.length_append, HN.out]; simp only [List.length_cons, List.length_nil]; omega, HL.out, hJ⟩
              case measure => simp [intOf]; omega
        · rw [if_neg c92] at hl
          have e92 : ((c.toNat : Int) == 92) = false := by simp; omega
          clear c39 c92
          by_cases c32 : c.toNat < 32
          · rw [if_pos (.inl c32)] at hl
            have HR := Lib.hid (Option.some.inj hl).symm
            have e32 : decide ((c.toNat : Int) < 32) = true := by simp; omega
            clear hl c32
            go_wp2
            exact bodyPost_ret (v := .tuple #[.string ⟨#[]⟩, .int .i64 0, .int .i64 100, .int .i64 (i : Nat)]) (by simp [results, Try.results35, go_sem]) rfl ⟨by rw [HR.out]; rfl, HI.out.bel⟩
          have e32 : decide ((c.toNat : Int) < 32) = false := by simp; omega
          by_cases c126 : 126 < c.toNat
          · rw [if_pos (.inr c126)] at hl
            have HR := Lib.hid (Option.some.inj hl).symm
            have e126 : decide ((126 : Int) < (c.toNat : Int)) = true := by simp; omega
            clear hl c32 c126
            go_wp2
            exact bodyPost_ret (v := .tuple #[.string ⟨#[]⟩, .int .i64 0, .int .i64 100, .int .i64 (i : Nat)]) (by simp [results, Try.results35, go_sem]) rfl ⟨by rw [HR.out]; rfl, HI.out.bel⟩
          have e126 : decide ((126 : Int) < (c.toNat : Int)) = false := by simp; omega
          rw [if_neg (by omega)] at hl
          have HL := Lib.hid hl
          clear hl c32 c126
          go_wp2_with (at_builtin; refine wpList_app bytesT rfl (.tmp 22) (.tmp 24) rfl W.heap.size (.slice B n cap) n (b.map bv) rfl (HO.out _) (some ⟨wr.heap.size, 0, none⟩) 1 1 ([c].map bv) rfl rfl (cs_byte1 wr _ c rfl) (bvs_one _) (by unfold maxLen; omega) (by omega) (Nat.le_trans HI.out.bel.size (below_alloc _ _).size) ?_; intro v' w' ho hg hat)
          have hJ := HI.out.app (c := c) (by rw [HN.out]; exact ho) hg
          go_roundw
          case rel => exact ⟨m, i + 1, b ++ [c], v', by go_num, rfl, by omega, by rw [List.length_append, HN.out]; simp only [List.length_cons, List.length_nil]; omega, HL.out, hJ⟩
          case measure => simp [intOf]; omega
    · obtain rfl : i = len := by omega
      have d0 : decide (s.length ≤ i) = true := by simp; rw [HLEN.out]; exact Nat.le_refl _
      rw [List.getElem?_eq_none (by rw [HLEN.out]; exact Nat.le_refl _)] at hl
      have HR := Lib.hid (Option.some.inj hl).symm
      clear hl hlt
      go_wp2
      exact bodyPost_ret (v := .tuple #[.string ⟨#[]⟩, .int .i64 0, .int .i64 100, .int .i64 (a : Nat)]) (by simp [results, Try.results35, go_sem]) rfl ⟨by rw [HR.out]; rfl, HI.out.bel⟩
end
section
open Go.RowKit
set_option linter.unusedVariables false

abbrev tokL (l : List Tok) : List Value := flat (fun t => (tokC t).toList) l
theorem tokC_len (t : Tok) : ((tokC t).toList).length = 5 := rfl
theorem tokC_one (t : Tok) : ∀ u ∈ (tokC t).toList, u.oneCell' = true := by
  intro u hu
  simp only [tokC, List.mem_cons, List.mem_nil_iff, or_false] at hu
  rcases hu with rfl | rfl | rfl | rfl | rfl <;> rfl
theorem tokT : ElT Try.prog 38 80 (.agg #[.int .i64 0, .int .i64 0, .string ⟨#[]⟩, .int .i64 0, .int .i64 0]) 5 48 := ⟨Try.underlying38, by kernel_rfl, rfl, by omega⟩
/-- The state of the loop. -/
structure SI (W : World) (out : List Tok) (v : Value) (wx : World) : Prop where
  own : wx.ownsRow W.heap.size 80 5 v out.length (tokL out)
  bel : Below W.heap.size W wx
section
variable {W V V' : World} {out : List Tok} {v v' : Value}
theorem SI.keep (h : SI W out v V) (hb : Below V.heap.size V V') : SI W out v V' := ⟨own_far h.own hb, below_step h.bel (hb.mono (Nat.le_refl _))⟩
theorem SI.box {g : Nat} (h : SI W out v V) (hF : Fr (fun k => k = g) V V') (hg : W.heap.size ≤ g) (hv : ∀ k, v.ownBlock = some k → k < g) : SI W out v V' :=
  ⟨own_fr h.own hF (fun k hk e => by have := hv k hk; have h9 : k = g := e; omega), h.bel.trans (hF.below h.bel.size (fun k hk => by have h9 : k = g := hk; omega))⟩
theorem SI.app {t : Tok} {w' : World} {o : Obj} {n : Nat} (h : SI W out v V) (hn : out.length = n) (ho : w'.ownsRow W.heap.size 80 5 v' (n + 1) (tokL out ++ (tokC t).toList)) (hg : (V.alloc o).grownBy w' v.ownBlock) : SI W (out ++ [t]) v' w' := by
  subst hn
  exact ⟨by rw [List.length_append, show tokL (out ++ [t]) = tokL out ++ (tokC t).toList by rw [show tokL (out ++ [t]) = tokL out ++ tokL [t] from flat_append _ _ _, show tokL [t] = (tokC t).toList from flat_one _ _]]; exact ho, (h.bel.alloc h.bel.size o).grown hg (Nat.le_trans h.bel.size (below_alloc _ _).size) (fun k hk => (World.ownsRow.lt h.own k hk).1)⟩
theorem SI.alloc (h : SI W out v V) {n : Nat} (hn : out.length = n) (o : Obj) : (V.alloc o).ownsRow W.heap.size 80 5 v n (tokL out) := by
  subst hn
  exact own_far h.own (below_alloc V o)
theorem cs_tok (w : World) (t : Tok) {cs : Array Value} (h : cs = tokC t) : Cs (w.alloc (.cells cs 80)) (some ⟨w.heap.size, 0, none⟩) (tokC t).toList := by
  subst h
  exact blk_cs (Blk.new w _ _)
/-- A row of tokens of the call's own reads as them. -/
theorem SI.rdt {A : Option Addr} {c : Nat} (h : SI W out (.slice A out.length c) V) : RdT V A out ∧ ∀ b o, A = some ⟨b, o, none⟩ → b < V.heap.size := by
  constructor
  · rcases h.own.2 with ⟨hv, hz⟩ | ⟨g, cap, cur, hv, _, hg, _⟩
    · exact .inl (List.eq_nil_of_length_eq_zero hz)
    · obtain ⟨rfl, _, _⟩ := Value.slice.inj hv
      refine .inr ⟨g, 0, rfl, fun j hj => ?_⟩
      have hc : ∀ i, (hi : i < 5) → V.cell? ⟨g, 0 + j * 5 + i, none⟩ = ((tokC out[j]).toList)[i]? := fun i hi => by
        have := h.own.cells (g := g) rfl (j * 5 + i) (((tokC out[j]).toList)[i]'(by rw [tokC_len]; exact hi)) (by rw [show (tokL out)[j * 5 + i]? = _ from flat_at tokC_len out j i hj hi, List.getElem?_eq_getElem])
        rw [Addr.add_lit] at this
        rw [show 0 + j * 5 + i = 0 + (j * 5 + i) by omega, this, List.getElem?_eq_getElem]
      exact ⟨hc 0 (by omega), hc 1 (by omega), hc 2 (by omega), hc 3 (by omega), hc 4 (by omega)⟩
  · intro b o hA
    have := h.own.lt b (by rw [hA]; rfl)
    exact this.2
end
theorem row_form {W : World} {base e size n : Nat} {v : Value} {xs : List Value} (h : W.ownsRow base e size v n xs) : ∃ A cap, v = .slice A n cap := by
  rcases h.2 with ⟨hv, hz⟩ | ⟨g, cap, cur, hv, _⟩
  · subst hz; exact ⟨none, 0, hv⟩
  · exact ⟨_, _, hv⟩
theorem sc_bad {tp : Except (Int × Nat) Tok} {F : Tok → Option SR} {r : SR} {y : Int × Nat} (h : (match tp with
    | .error x => some (⟨[], x.1, x.2⟩ : SR)
    | .ok t => F t) = some r) (he : Except.error y = tp) : r = ⟨[], y.1, y.2⟩ := by
  subst he
  exact (Option.some.inj h).symm
theorem sc_good {tp : Except (Int × Nat) Tok} {F : Tok → Option SR} {r : SR} {t : Tok} (h : (match tp with
    | .error x => some (⟨[], x.1, x.2⟩ : SR)
    | .ok t => F t) = some r) (he : tp = .ok t) : F t = some r := by
  subst he
  exact h
theorem scanL_c {s : List UInt8} {m i : Nat} {out : List Tok} {r : SR} (h : scanL s (m + 1) i out = some r) : (match s[i]? with
    | none => some ⟨out, 0, 0⟩
    | some c => if wsN c.toNat then scanL s m (i + 1) out
      else if c.toNat = 37 then scanL s m (spanE notNl s i) out
      else match tokP s i c.toNat with
        | .error x => some ⟨[], x.1, x.2⟩
        | .ok t => scanL s m t.fin (out ++ [t])) = some r := h
def ScEnd (W : World) (r : SR) (e : Ending) (w' : World) : Prop := ∃ A c, e = .returned (.tuple #[.slice A r.toks.length c, .int .i64 r.e, .int .i64 (r.at_ : Nat)]) ∧ RdT w' A r.toks ∧ (∀ b o, A = some ⟨b, o, none⟩ → b < w'.heap.size) ∧ Below W.heap.size W w'
theorem sc_err {W : World} {r : SR} {e : Ending} {w' : World} {x : Int} {a : Nat} (hr : r = ⟨[], x, a⟩) (he : e = .returned (.tuple #[.slice none 0 0, .int .i64 x, .int .i64 (a : Int)])) (hb : Below W.heap.size W w') : ScEnd W r e w' := by
  subst hr
  exact ⟨none, 0, he, .inl rfl, (fun b o h => by cases h), hb⟩

set_option maxRecDepth 100000 in
set_option maxHeartbeats 16000000 in
theorem scn_in (W : World) (s : List UInt8) {len : Nat} (hlen : s.length = len) (h16 : len ≤ 16384) : Calls Try.prog 18 #[.string ⟨s.toArray⟩] W (ScEnd W (scanP s)) := by
  have HQ := Lib.hid (scanP_eq (s := s) (by omega))
  have HLEN := Lib.hid hlen
  obtain ⟨r, hr⟩ : ∃ r, scanP s = r := ⟨_, rfl⟩
  rw [hr] at HQ ⊢
  have HST : Hid (SI W [] (.slice none 0 0) W) := ⟨World.ownsRow_nil _ _ _ _, Below.refl _ _⟩
  have dl : decide ((16384 : Int) < (s.length : Int)) = false := by simp; omega
  clear hr hlen
  go_enter Try.func18, Try.ntmps18
  go_wp2
  go_loopw [5, 6, 7, 8, 9, 10, 11, 12, 13, 14, 15, 16] (fun v5 v6 _ _ _ _ _ _ _ _ _ _ wx => ∃ (m i : Nat) (out : List Tok) (v : Value), v6 = .int .i64 (i : Int) ∧ v5 = v ∧ i ≤ len ∧ out.length ≤ i ∧ scanL s m i out = some r ∧ SI W out v wx) (fun _ v6 _ _ _ _ _ _ _ _ _ _ _ => len - (intOf v6).toNat)
  case atStart => exact ⟨_, 0, [], _, rfl, rfl, Nat.zero_le _, Nat.le_refl _, HQ.out, HST.out⟩
  case round =>
    obtain ⟨m, i, out, v, rfl, rfl, hi, hni, hl, hI⟩ := hrel
    clear HST HQ
    obtain _ | m := m
    · exact absurd hl (by simp [scanL])
    replace hl := scanL_c hl
    obtain ⟨B, cap, rfl⟩ := row_form hI.own
    obtain ⟨n, hn⟩ : ∃ n, out.length = n := ⟨_, rfl⟩
    have HI := Lib.hid hI
    rw [hn] at HI hni ⊢
    have HN := Lib.hid hn
    have HNI := Lib.hid hni
    clear hI hn
    by_cases hlt : i < len
    rotate_left
    · obtain rfl : i = len := by omega
      have d0 : decide (i < s.length) = false := by simp; rw [HLEN.out]; exact Nat.le_refl _
      rw [List.getElem?_eq_none (by rw [HLEN.out]; exact Nat.le_refl _)] at hl
      have HR := Lib.hid (Option.some.inj hl).symm
      clear hl hlt hni
      go_wp2
      have hre := HR.out
      exact bodyPost_ret (v := .tuple #[.slice B n cap, .int .i64 0, .int .i64 0]) (by simp [results, Try.results18, go_sem]) rfl (by
        rw [hre]
        have hI9 := HI.out
        have hn9 := HN.out
        subst hn9
        exact ⟨B, cap, rfl, hI9.rdt.1, hI9.rdt.2, hI9.bel⟩)
    have hil : i < s.length := by rw [HLEN.out]; exact hlt
    have d0 : decide (i < s.length) = true := by simp; omega
    rw [List.getElem?_eq_getElem hil] at hl
    obtain ⟨c, hc⟩ : ∃ c, s[i] = c := ⟨_, rfl⟩
    rw [hc] at hl
    simp only at hl
    have hx : (ByteArray.mk s.toArray)[i]'hil = c := hc
    have HC := Lib.hid hc
    have q1 : (0 : Int) ≤ (i : Int) := by omega
    have q2 : (i : Int) < (s.length : Int) := by omega
    have hc256 : c.toNat < 256 := UInt8.toNat_lt c
    have HOLD : Hid (∀ k, (Value.slice B n cap).ownBlock = some k → k < wr.heap.size) := fun k hk => (HI.out.own.lt k hk).2
    clear hc
    by_cases w32 : c.toNat = 32
    · have hws : wsN c.toNat = true := by unfold wsN; simp [w32]
      rw [hws, if_pos rfl] at hl
      have HL := Lib.hid hl
      have e32 : ((c.toNat : Int) == 32) = true := by simp; omega
      clear hl hws w32
      go_wp2
      go_roundw
      case rel => exact ⟨m, i + 1, out, _, by go_num, rfl, hlt, by have := HNI.out; rw [HN.out]; omega, HL.out, HI.out⟩
      case measure => simp [intOf]; omega
    by_cases w9 : c.toNat = 9
    · have hws : wsN c.toNat = true := by unfold wsN; simp [w9]
      rw [hws, if_pos rfl] at hl
      have HL := Lib.hid hl
      have e32 : ((c.toNat : Int) == 32) = false := by simp; omega
      have e9 : ((c.toNat : Int) == 9) = true := by simp; omega
      clear hl hws w32 w9
      go_wp2
      go_roundw
      case rel => exact ⟨m, i + 1, out, _, by go_num, rfl, hlt, by have := HNI.out; rw [HN.out]; omega, HL.out, HI.out⟩
      case measure => simp [intOf]; omega
    by_cases w10 : c.toNat = 10
    · have hws : wsN c.toNat = true := by unfold wsN; simp [w10]
      rw [hws, if_pos rfl] at hl
      have HL := Lib.hid hl
      have e32 : ((c.toNat : Int) == 32) = false := by simp; omega
      have e9 : ((c.toNat : Int) == 9) = false := by simp; omega
      have e10 : ((c.toNat : Int) == 10) = true := by simp; omega
      clear hl hws w32 w9 w10
      go_wp2
      go_roundw
      case rel => exact ⟨m, i + 1, out, _, by go_num, rfl, hlt, by have := HNI.out; rw [HN.out]; omega, HL.out, HI.out⟩
      case measure => simp [intOf]; omega
    by_cases w13 : c.toNat = 13
    · have hws : wsN c.toNat = true := by unfold wsN; simp [w13]
      rw [hws, if_pos rfl] at hl
      have HL := Lib.hid hl
      have e32 : ((c.toNat : Int) == 32) = false := by simp; omega
      have e9 : ((c.toNat : Int) == 9) = false := by simp; omega
      have e10 : ((c.toNat : Int) == 10) = false := by simp; omega
      have e13 : ((c.toNat : Int) == 13) = true := by simp; omega
      clear hl hws w32 w9 w10 w13
      go_wp2
      go_roundw
      case rel => exact ⟨m, i + 1, out, _, by go_num, rfl, hlt, by have := HNI.out; rw [HN.out]; omega, HL.out, HI.out⟩
      case measure => simp [intOf]; omega
    have e32 : ((c.toNat : Int) == 32) = false := by simp; omega
    have e9 : ((c.toNat : Int) == 9) = false := by simp; omega
    have e10 : ((c.toNat : Int) == 10) = false := by simp; omega
    have e13 : ((c.toNat : Int) == 13) = false := by simp; omega
    have hws : wsN c.toNat = false := by unfold wsN; simp; omega
    rw [hws, if_neg (by simp)] at hl
    by_cases c37 : c.toNat = 37
    · rw [if_pos c37] at hl
      have HL := Lib.hid hl
      have e37 : ((c.toNat : Int) == 37) = true := by simp; omega
      obtain ⟨en, hen⟩ : ∃ en, spanE notNl s i = en := ⟨_, rfl⟩
      have hie : i < en := by rw [← hen]; exact spanE_gt hil (by rw [HC.out]; simp [notNl, c37])
      have hel : en ≤ len := by rw [← hen, ← HLEN.out]; exact spanE_le (Nat.le_of_lt hil)
      rw [hen] at HL
      have HSP := Lib.hid hen
      have HIE : Hid (i < en ∧ en ≤ len) := ⟨hie, hel⟩
      have HIQ := Lib.hid HI.out
      obtain ⟨V, hV⟩ : ∃ V, V = wr := ⟨_, rfl⟩
      rw [← hV] at HIQ ⊢
      clear hl c37 w32 w9 w10 w13 hws hen hV HI hie hel HOLD HC
      go_wp2
      clear hx d0
      go_loopw [6] (fun v6 wx => ∃ (j : Nat), v6 = .int .i64 (j : Int) ∧ i ≤ j ∧ j ≤ len ∧ spanE notNl s j = en ∧ V = wx) (fun v6 _ => len - (intOf v6).toNat)
      case atStart => exact ⟨i, rfl, Nat.le_refl _, hi, HSP.out, rfl⟩
      case round =>
        obtain ⟨j, rfl, hij, hj, hsj, rfl⟩ := hrel
        by_cases hjl : j < len
        · have hjs : j < s.length := by rw [HLEN.out]; exact hjl
          have d0 : decide (j < s.length) = true := by simp; omega
          have p1 : (0 : Int) ≤ (j : Int) := by omega
          have p2 : (j : Int) < (s.length : Int) := by omega
          rw [spanE_step hjs] at hsj
          obtain ⟨y, hy⟩ : ∃ y, s[j] = y := ⟨_, rfl⟩
          rw [hy] at hsj
          have hxj : (ByteArray.mk s.toArray)[j]'hjs = y := hy
          clear hy
          by_cases h10 : y.toNat = 10
          · have e10 : ((y.toNat : Int) != 10) = false := by simp; omega
            rw [if_neg (by simp [notNl, h10])] at hsj
            have HJ := Lib.hid hsj
            clear hsj h10
            go_wp2
            go_roundw
            case rel => exact ⟨m, j, out, _, rfl, rfl, hj, by have := HNI.out; rw [HN.out]; omega, by rw [HJ.out]; exact HL.out, HIQ.out⟩
            case measure => have := HIE.out; have := HJ.out; simp [intOf]; omega
          · have e10 : ((y.toNat : Int) != 10) = true := by simp; omega
            rw [if_pos (by simp [notNl, h10])] at hsj
            have HJ := Lib.hid hsj
            clear hsj h10
            go_wp2
            go_roundw
            case rel => exact ⟨j + 1, by go_num, by omega, hjl, HJ.out, trivial⟩
            case measure => simp [intOf]; omega
        · obtain rfl : j = len := by omega
          have d0 : decide (j < s.length) = false := by simp; rw [HLEN.out]; exact Nat.le_refl _
          rw [spanE_end (by rw [HLEN.out]; exact Nat.le_refl _)] at hsj
          have HJ := Lib.hid hsj
          clear hsj
          go_wp2
          go_roundw
          case rel => exact ⟨m, j, out, _, rfl, rfl, hj, by have := HNI.out; rw [HN.out]; omega, by rw [HJ.out]; exact HL.out, HIQ.out⟩
          case measure => have := HIE.out; have := HJ.out; simp [intOf]; omega
    rw [if_neg c37] at hl
    have e37 : ((c.toNat : Int) == 37) = false := by simp; omega
    -- a token: its box
    go_upto_region 13 with (fail)
    have hI1 := HI.out.keep (below_alloc wr (.cells (tokC ⟨0, 0, [], i, 0⟩) 80))
    have hB1 : Blk (wr.alloc (.cells (tokC ⟨0, 0, [], i, 0⟩) 80)) wr.heap.size 80 #[.int .i64 0, .int .i64 0, .string ⟨#[]⟩, .int .i64 (i : Int), .int .i64 0] := Blk.new _ _ _
    have hgw : W.heap.size ≤ wr.heap.size := HI.out.bel.size
    obtain ⟨g, hg⟩ : ∃ g, wr.heap.size = g := ⟨_, rfl⟩
    rw [hg] at hgw hB1 HOLD ⊢
    have HGW := Lib.hid hgw
    have HGO := Lib.hid HOLD.out
    refine wp_world (fun V => SI W out (.slice B n cap) V ∧ Blk V g 80 #[.int .i64 0, .int .i64 0, .string ⟨#[]⟩, .int .i64 (i : Int), .int .i64 0]) ⟨hI1, hB1⟩ ?_
    clear hI1 hB1 hgw hg HOLD HI w32 w9 w10 w13 hws c37 e37
    rintro V1 ⟨hI1, hB1⟩
    have HI1 := Lib.hid hI1
    have HB1 := Lib.hid hB1
    clear hI1 hB1
    obtain ⟨tp, htp⟩ : ∃ tp, tokP s i c.toNat = tp := ⟨_, rfl⟩
    rw [htp] at hl
    have HTL := Lib.hid hl
    have HTP := Lib.hid htp
    clear hl htp
    go_upto_block 4 with (fail)
    go_cut [9] (fun v9 wx => ∃ (t : Tok), v9 = .int .i64 (t.fin : Int) ∧ tp = .ok t ∧ SI W out (.slice B n cap) wx ∧ Blk wx g 80 #[.int .i64 t.kind, .int .i64 t.int, .string ⟨t.text.toArray⟩, .int .i64 (i : Int), .int .i64 0])
    case first =>
      have hl := HTP.out
      cases hd : digN c.toNat with
      | true =>
        unfold tokP at hl
        rw [hd, if_pos rfl] at hl
        have HDC : Hid (∀ V, Calls Try.prog 29 #[.int .u8 (c.toNat : Int)] V fun e w' => e = .returned (.bool true) ∧ w' = V) := fun V => by
          have := digit_any V (UInt8.toNat_lt c)
          rw [hd] at this
          exact this
        obtain ⟨en, hen⟩ : ∃ en, spanE digN s i = en := ⟨_, rfl⟩
        have HIE : Hid (i < en ∧ en ≤ len) := ⟨by rw [← hen]; exact spanE_gt hil (by rw [HC.out]; exact hd), by rw [← hen, ← HLEN.out]; exact spanE_le (Nat.le_of_lt hil)⟩
        rw [hen] at hl
        obtain ⟨cut, hcut⟩ : ∃ cut, cutB s i en = cut := ⟨_, rfl⟩
        have HCUT := Lib.hid hcut
        rw [hcut] at hl
        have HSP := Lib.hid hen
        have hcd : ∀ x ∈ cut, digN x.toNat = true := by
          rw [← hcut, ← hen, cutB_span]
          intro x hx9
          exact List.all_eq_true.1 List.all_takeWhile x hx9
        have hcl : cut.length ≤ 16384 := by rw [← hcut]; unfold cutB; rw [List.length_take, List.length_drop]; have := HLEN.out; omega
        have HNUM := Lib.hid (fun V => number_any V cut rfl hcl hcd)
        clear hcut hen hcd
        cases hnv : numP 0 cut with
        | none =>
          rw [hnv] at hl HNUM
          try simp only at hl
          have HR := Lib.hid (sc_bad HTL.out hl)
          clear hl hnv hd
          go_wp2_with (go_at_call 29; with_reducible refine (HDC.out _).mono ?_; rintro e w9 ⟨rfl, hw9⟩; replace hw9 := hw9.symm; subst hw9)
          go_loopw [9] (fun v9 wx => ∃ (j : Nat), v9 = .int .i64 (j : Int) ∧ i ≤ j ∧ j ≤ len ∧ spanE digN s j = en ∧ V1 = wx) (fun v9 _ => len - (intOf v9).toNat)
          case atStart => exact ⟨i, rfl, Nat.le_refl _, hi, HSP.out, rfl⟩
          case round =>
            obtain ⟨j, rfl, hij, hj, hsj, rfl⟩ := hrel
            by_cases hjl : j < len
            · have hjs : j < s.length := by rw [HLEN.out]; exact hjl
              have d0 : decide (j < s.length) = true := by simp; omega
              have p1 : (0 : Int) ≤ (j : Int) := by omega
              have p2 : (j : Int) < (s.length : Int) := by omega
              rw [spanE_step hjs] at hsj
              obtain ⟨y, hy⟩ : ∃ y, s[j] = y := ⟨_, rfl⟩
              rw [hy] at hsj
              have hxj : (ByteArray.mk s.toArray)[j]'hjs = y := hy
              clear hy
              cases hp : digN y.toNat with
              | true =>
                rw [if_pos hp] at hsj
                have HJ := Lib.hid hsj
                have HY : Hid (∀ V, Calls Try.prog 29 #[.int .u8 (y.toNat : Int)] V fun e w' => e = .returned (.bool true) ∧ w' = V) := fun V => by
                  have := digit_any V (UInt8.toNat_lt y)
                  rw [hp] at this
                  exact this
                clear hsj hp
                go_wp2_with (go_at_call 29; with_reducible refine (HY.out _).mono ?_; rintro e w9 ⟨rfl, hw9⟩; replace hw9 := hw9.symm; subst hw9)
                go_roundw
                case rel => exact ⟨j + 1, by go_num, by omega, hjl, HJ.out, trivial⟩
                case measure => simp [intOf]; omega
              | false =>
                rw [hp, if_neg (by simp)] at hsj
                have HJ := Lib.hid hsj
                have HY : Hid (∀ V, Calls Try.prog 29 #[.int .u8 (y.toNat : Int)] V fun e w' => e = .returned (.bool false) ∧ w' = V) := fun V => by
                  have := digit_any V (UInt8.toNat_lt y)
                  rw [hp] at this
                  exact this
                clear hsj hp
                obtain rfl := HJ.out
                as_aux_lemma =>
                  have u1 : (i : Int) ≤ (j : Int) := by omega
                  have u2 : (j : Int) ≤ (s.length : Int) := by rw [HLEN.out]; omega
                  have u3 : (0 : Int) ≤ (j : Int) := by omega
                  have hcut : (ByteArray.mk s.toArray).extract i j = ⟨cut.toArray⟩ := by rw [str_cut]; exact congrArg (fun l : List UInt8 => ByteArray.mk l.toArray) HCUT.out
                  go_wp2_with (first
                    | (go_at_call 29; with_reducible refine (HY.out _).mono ?_; rintro e w9 ⟨rfl, hw9⟩; replace hw9 := hw9.symm; subst hw9)
                    | (go_at_call 30; refine (HNUM.out _).mono ?_; rintro e w9 ⟨rfl, hw9⟩; replace hw9 := hw9.symm; subst hw9))
                  exact bodyPost_ret (v := .tuple #[.slice none 0 0, .int .i64 101, .int .i64 ((i : Nat) : Int)]) (by simp [results, Try.results18, go_sem]) rfl (sc_err HR.out rfl HI1.out.bel)
            · obtain rfl : j = len := by omega
              have d0 : decide (j < s.length) = false := by simp; rw [HLEN.out]; exact Nat.le_refl _
              rw [spanE_end (by rw [HLEN.out]; exact Nat.le_refl _)] at hsj
              have HJ := Lib.hid hsj
              clear hsj
              obtain rfl := HJ.out
              as_aux_lemma =>
                have u1 : (i : Int) ≤ (j : Int) := by omega
                have u2 : (j : Int) ≤ (s.length : Int) := by rw [HLEN.out]; omega
                have u3 : (0 : Int) ≤ (j : Int) := by omega
                have hcut : (ByteArray.mk s.toArray).extract i j = ⟨cut.toArray⟩ := by rw [str_cut]; exact congrArg (fun l : List UInt8 => ByteArray.mk l.toArray) HCUT.out
                go_wp2_with (first
                  | (go_at_call 30; refine (HNUM.out _).mono ?_; rintro e w9 ⟨rfl, hw9⟩; replace hw9 := hw9.symm; subst hw9))
                exact bodyPost_ret (v := .tuple #[.slice none 0 0, .int .i64 101, .int .i64 ((i : Nat) : Int)]) (by simp [results, Try.results18, go_sem]) rfl (sc_err HR.out rfl HI1.out.bel)
        | some nv =>
          rw [hnv] at hl HNUM
          try simp only at hl
          have HL := Lib.hid hl
          clear hl hnv hd
          go_wp2_with (go_at_call 29; with_reducible refine (HDC.out _).mono ?_; rintro e w9 ⟨rfl, hw9⟩; replace hw9 := hw9.symm; subst hw9)
          go_loopw [9] (fun v9 wx => ∃ (j : Nat), v9 = .int .i64 (j : Int) ∧ i ≤ j ∧ j ≤ len ∧ spanE digN s j = en ∧ V1 = wx) (fun v9 _ => len - (intOf v9).toNat)
          case atStart => exact ⟨i, rfl, Nat.le_refl _, hi, HSP.out, rfl⟩
          case round =>
            obtain ⟨j, rfl, hij, hj, hsj, rfl⟩ := hrel
            by_cases hjl : j < len
            · have hjs : j < s.length := by rw [HLEN.out]; exact hjl
              have d0 : decide (j < s.length) = true := by simp; omega
              have p1 : (0 : Int) ≤ (j : Int) := by omega
              have p2 : (j : Int) < (s.length : Int) := by omega
              rw [spanE_step hjs] at hsj
              obtain ⟨y, hy⟩ : ∃ y, s[j] = y := ⟨_, rfl⟩
              rw [hy] at hsj
              have hxj : (ByteArray.mk s.toArray)[j]'hjs = y := hy
              clear hy
              cases hp : digN y.toNat with
              | true =>
                rw [if_pos hp] at hsj
                have HJ := Lib.hid hsj
                have HY : Hid (∀ V, Calls Try.prog 29 #[.int .u8 (y.toNat : Int)] V fun e w' => e = .returned (.bool true) ∧ w' = V) := fun V => by
                  have := digit_any V (UInt8.toNat_lt y)
                  rw [hp] at this
                  exact this
                clear hsj hp
                go_wp2_with (go_at_call 29; with_reducible refine (HY.out _).mono ?_; rintro e w9 ⟨rfl, hw9⟩; replace hw9 := hw9.symm; subst hw9)
                go_roundw
                case rel => exact ⟨j + 1, by go_num, by omega, hjl, HJ.out, trivial⟩
                case measure => simp [intOf]; omega
              | false =>
                rw [hp, if_neg (by simp)] at hsj
                have HJ := Lib.hid hsj
                have HY : Hid (∀ V, Calls Try.prog 29 #[.int .u8 (y.toNat : Int)] V fun e w' => e = .returned (.bool false) ∧ w' = V) := fun V => by
                  have := digit_any V (UInt8.toNat_lt y)
                  rw [hp] at this
                  exact this
                clear hsj hp
                obtain rfl := HJ.out
                as_aux_lemma =>
                  have u1 : (i : Int) ≤ (j : Int) := by omega
                  have u2 : (j : Int) ≤ (s.length : Int) := by rw [HLEN.out]; omega
                  have u3 : (0 : Int) ≤ (j : Int) := by omega
                  have hcut : (ByteArray.mk s.toArray).extract i j = ⟨cut.toArray⟩ := by rw [str_cut]; exact congrArg (fun l : List UInt8 => ByteArray.mk l.toArray) HCUT.out
                  have fz0 := HB1.out.frozen 0
                  have fz1 := HB1.out.frozen 1
                  have fz2 := HB1.out.frozen 2
                  have cz0 := HB1.out.cell 0
                  have cz1 := HB1.out.cell 1
                  have cz2 := HB1.out.cell 2
                  simp only [List.getElem?_toArray, List.getElem?_cons_succ, List.getElem?_cons_zero] at cz0 cz1 cz2
                  go_wp2_with (first
                    | (go_at_call 29; with_reducible refine (HY.out _).mono ?_; rintro e w9 ⟨rfl, hw9⟩; replace hw9 := hw9.symm; subst hw9)
                    | (go_at_call 30; refine (HNUM.out _).mono ?_; rintro e w9 ⟨rfl, hw9⟩; replace hw9 := hw9.symm; subst hw9))
                  go_meet
                  exact ⟨⟨1, (nv : Int), [], i, j⟩, rfl, HL.out.symm, ((HI1.out.box (setC_fr V1 g 0 (.int .i64 1)) HGW.out HGO.out).box (setC_fr _ g 1 (.int .i64 (nv : Int))) HGW.out HGO.out), (HB1.out.set_ 0 _).set_ 1 _⟩
            · obtain rfl : j = len := by omega
              have d0 : decide (j < s.length) = false := by simp; rw [HLEN.out]; exact Nat.le_refl _
              rw [spanE_end (by rw [HLEN.out]; exact Nat.le_refl _)] at hsj
              have HJ := Lib.hid hsj
              clear hsj
              obtain rfl := HJ.out
              as_aux_lemma =>
                have u1 : (i : Int) ≤ (j : Int) := by omega
                have u2 : (j : Int) ≤ (s.length : Int) := by rw [HLEN.out]; omega
                have u3 : (0 : Int) ≤ (j : Int) := by omega
                have hcut : (ByteArray.mk s.toArray).extract i j = ⟨cut.toArray⟩ := by rw [str_cut]; exact congrArg (fun l : List UInt8 => ByteArray.mk l.toArray) HCUT.out
                have fz0 := HB1.out.frozen 0
                have fz1 := HB1.out.frozen 1
                have fz2 := HB1.out.frozen 2
                have cz0 := HB1.out.cell 0
                have cz1 := HB1.out.cell 1
                have cz2 := HB1.out.cell 2
                simp only [List.getElem?_toArray, List.getElem?_cons_succ, List.getElem?_cons_zero] at cz0 cz1 cz2
                go_wp2_with (first
                  | (go_at_call 30; refine (HNUM.out _).mono ?_; rintro e w9 ⟨rfl, hw9⟩; replace hw9 := hw9.symm; subst hw9))
                go_meet
                exact ⟨⟨1, (nv : Int), [], i, j⟩, rfl, HL.out.symm, ((HI1.out.box (setC_fr V1 g 0 (.int .i64 1)) HGW.out HGO.out).box (setC_fr _ g 1 (.int .i64 (nv : Int))) HGW.out HGO.out), (HB1.out.set_ 0 _).set_ 1 _⟩
      | false =>
        cases hsm : smaN c.toNat with
        | true =>
          cases hgr : greN c.toNat with
          | true => exact absurd hsm (by unfold greN at hgr; unfold smaN; simp at hgr; simp; omega)
          | false =>
            unfold tokP at hl
            rw [hd, if_neg (by simp), show (smaN c.toNat || greN c.toNat) = true by rw [hsm, hgr]; rfl, if_pos rfl] at hl
            have HDC : Hid (∀ V, Calls Try.prog 29 #[.int .u8 (c.toNat : Int)] V fun e w' => e = .returned (.bool false) ∧ w' = V) := fun V => by
              have := digit_any V (UInt8.toNat_lt c)
              rw [hd] at this
              exact this
            have HSC : Hid (∀ V, Calls Try.prog 31 #[.int .u8 (c.toNat : Int)] V fun e w' => e = .returned (.bool true) ∧ w' = V) := fun V => by
              have := small_any V (UInt8.toNat_lt c)
              rw [hsm] at this
              exact this
            have HGC : Hid (∀ V, Calls Try.prog 32 #[.int .u8 (c.toNat : Int)] V fun e w' => e = .returned (.bool false) ∧ w' = V) := fun V => by
              have := great_any V (UInt8.toNat_lt c)
              rw [hgr] at this
              exact this
            obtain ⟨en, hen⟩ : ∃ en, spanE morN s i = en := ⟨_, rfl⟩
            have HIE : Hid (i < en ∧ en ≤ len) := ⟨by rw [← hen]; exact spanE_gt hil (by rw [HC.out]; unfold morN; rw [hsm, hgr]; simp), by rw [← hen, ← HLEN.out]; exact spanE_le (Nat.le_of_lt hil)⟩
            rw [hen] at hl
            obtain ⟨cut, hcut⟩ : ∃ cut, cutB s i en = cut := ⟨_, rfl⟩
            have HCUT := Lib.hid hcut
            rw [hcut] at hl
            have HSP := Lib.hid hen
            have HWD : Hid (∀ V, Calls Try.prog 34 #[.string ⟨cut.toArray⟩] V fun e w' => e = .returned (.bool (wordP cut)) ∧ Below V.heap.size V w') := fun V => word_any V cut
            clear hcut hen
            by_cases hln : 255 < cut.length
            · rw [if_pos hln] at hl
              try simp only at hl
              have HR := Lib.hid (sc_bad HTL.out hl)
              have dl5 : decide ((255 : Int) < (cut.length : Int)) = true := by simp; omega
              clear hl hln hd hsm hgr
              go_wp2_with (first
                | (go_at_call 29; with_reducible refine (HDC.out _).mono ?_; rintro e w9 ⟨rfl, hw9⟩; replace hw9 := hw9.symm; subst hw9)
                | (go_at_call 31; with_reducible refine (HSC.out _).mono ?_; rintro e w9 ⟨rfl, hw9⟩; replace hw9 := hw9.symm; subst hw9)
                | (go_at_call 32; with_reducible refine (HGC.out _).mono ?_; rintro e w9 ⟨rfl, hw9⟩; replace hw9 := hw9.symm; subst hw9))
              go_loopw [9] (fun v9 wx => ∃ (j : Nat), v9 = .int .i64 (j : Int) ∧ i ≤ j ∧ j ≤ len ∧ spanE morN s j = en ∧ V1 = wx) (fun v9 _ => len - (intOf v9).toNat)
              case atStart => exact ⟨i, rfl, Nat.le_refl _, hi, HSP.out, rfl⟩
              case round =>
                obtain ⟨j, rfl, hij, hj, hsj, rfl⟩ := hrel
                by_cases hjl : j < len
                · have hjs : j < s.length := by rw [HLEN.out]; exact hjl
                  have d0 : decide (j < s.length) = true := by simp; omega
                  have p1 : (0 : Int) ≤ (j : Int) := by omega
                  have p2 : (j : Int) < (s.length : Int) := by omega
                  rw [spanE_step hjs] at hsj
                  obtain ⟨y, hy⟩ : ∃ y, s[j] = y := ⟨_, rfl⟩
                  rw [hy] at hsj
                  have hxj : (ByteArray.mk s.toArray)[j]'hjs = y := hy
                  clear hy
                  cases hp : morN y.toNat with
                  | true =>
                    rw [if_pos hp] at hsj
                    have HJ := Lib.hid hsj
                    have HY : Hid (∀ V, Calls Try.prog 33 #[.int .u8 (y.toNat : Int)] V fun e w' => e = .returned (.bool true) ∧ w' = V) := fun V => by
                      have := more_any V (UInt8.toNat_lt y)
                      rw [hp] at this
                      exact this
                    clear hsj hp
                    go_wp2_with (go_at_call 33; with_reducible refine (HY.out _).mono ?_; rintro e w9 ⟨rfl, hw9⟩; replace hw9 := hw9.symm; subst hw9)
                    go_roundw
                    case rel => exact ⟨j + 1, by go_num, by omega, hjl, HJ.out, trivial⟩
                    case measure => simp [intOf]; omega
                  | false =>
                    rw [hp, if_neg (by simp)] at hsj
                    have HJ := Lib.hid hsj
                    have HY : Hid (∀ V, Calls Try.prog 33 #[.int .u8 (y.toNat : Int)] V fun e w' => e = .returned (.bool false) ∧ w' = V) := fun V => by
                      have := more_any V (UInt8.toNat_lt y)
                      rw [hp] at this
                      exact this
                    clear hsj hp
                    obtain rfl := HJ.out
                    as_aux_lemma =>
                      have u1 : (i : Int) ≤ (j : Int) := by omega
                      have u2 : (j : Int) ≤ (s.length : Int) := by rw [HLEN.out]; omega
                      have u3 : (0 : Int) ≤ (j : Int) := by omega
                      have hcut : (ByteArray.mk s.toArray).extract i j = ⟨cut.toArray⟩ := by rw [str_cut]; exact congrArg (fun l : List UInt8 => ByteArray.mk l.toArray) HCUT.out
                      have fz0 := HB1.out.frozen 0
                      have fz1 := HB1.out.frozen 1
                      have fz2 := HB1.out.frozen 2
                      have cz0 := HB1.out.cell 0
                      have cz1 := HB1.out.cell 1
                      have cz2 := HB1.out.cell 2
                      simp only [List.getElem?_toArray, List.getElem?_cons_succ, List.getElem?_cons_zero] at cz0 cz1 cz2
                      go_wp2_with (first
                        | (go_at_call 33; with_reducible refine (HY.out _).mono ?_; rintro e w9 ⟨rfl, hw9⟩; replace hw9 := hw9.symm; subst hw9))
                      exact bodyPost_ret (v := .tuple #[.slice none 0 0, .int .i64 100, .int .i64 ((i : Nat) : Int)]) (by simp [results, Try.results18, go_sem]) rfl (sc_err HR.out rfl ((HI1.out.box (setC_fr V1 g 2 (.string ⟨cut.toArray⟩)) HGW.out HGO.out)).bel)
                · obtain rfl : j = len := by omega
                  have d0 : decide (j < s.length) = false := by simp; rw [HLEN.out]; exact Nat.le_refl _
                  rw [spanE_end (by rw [HLEN.out]; exact Nat.le_refl _)] at hsj
                  have HJ := Lib.hid hsj
                  clear hsj
                  obtain rfl := HJ.out
                  as_aux_lemma =>
                    have u1 : (i : Int) ≤ (j : Int) := by omega
                    have u2 : (j : Int) ≤ (s.length : Int) := by rw [HLEN.out]; omega
                    have u3 : (0 : Int) ≤ (j : Int) := by omega
                    have hcut : (ByteArray.mk s.toArray).extract i j = ⟨cut.toArray⟩ := by rw [str_cut]; exact congrArg (fun l : List UInt8 => ByteArray.mk l.toArray) HCUT.out
                    have fz0 := HB1.out.frozen 0
                    have fz1 := HB1.out.frozen 1
                    have fz2 := HB1.out.frozen 2
                    have cz0 := HB1.out.cell 0
                    have cz1 := HB1.out.cell 1
                    have cz2 := HB1.out.cell 2
                    simp only [List.getElem?_toArray, List.getElem?_cons_succ, List.getElem?_cons_zero] at cz0 cz1 cz2
                    go_wp2_with (first
                      | (fail))
                    exact bodyPost_ret (v := .tuple #[.slice none 0 0, .int .i64 100, .int .i64 ((i : Nat) : Int)]) (by simp [results, Try.results18, go_sem]) rfl (sc_err HR.out rfl ((HI1.out.box (setC_fr V1 g 2 (.string ⟨cut.toArray⟩)) HGW.out HGO.out)).bel)
            rw [if_neg hln] at hl
            have dl5 : decide ((255 : Int) < (cut.length : Int)) = false := by simp; omega
            rw [hgr, if_neg (by simp)] at hl
            cases hwd : wordP cut with
            | true =>
              rw [hwd, if_pos rfl] at hl
              rw [hwd] at HWD
              try simp only at hl
              have HL := Lib.hid hl
              clear hl hln hd hsm hgr hwd
              go_wp2_with (first
                | (go_at_call 29; with_reducible refine (HDC.out _).mono ?_; rintro e w9 ⟨rfl, hw9⟩; replace hw9 := hw9.symm; subst hw9)
                | (go_at_call 31; with_reducible refine (HSC.out _).mono ?_; rintro e w9 ⟨rfl, hw9⟩; replace hw9 := hw9.symm; subst hw9)
                | (go_at_call 32; with_reducible refine (HGC.out _).mono ?_; rintro e w9 ⟨rfl, hw9⟩; replace hw9 := hw9.symm; subst hw9))
              go_loopw [9] (fun v9 wx => ∃ (j : Nat), v9 = .int .i64 (j : Int) ∧ i ≤ j ∧ j ≤ len ∧ spanE morN s j = en ∧ V1 = wx) (fun v9 _ => len - (intOf v9).toNat)
              case atStart => exact ⟨i, rfl, Nat.le_refl _, hi, HSP.out, rfl⟩
              case round =>
                obtain ⟨j, rfl, hij, hj, hsj, rfl⟩ := hrel
                by_cases hjl : j < len
                · have hjs : j < s.length := by rw [HLEN.out]; exact hjl
                  have d0 : decide (j < s.length) = true := by simp; omega
                  have p1 : (0 : Int) ≤ (j : Int) := by omega
                  have p2 : (j : Int) < (s.length : Int) := by omega
                  rw [spanE_step hjs] at hsj
                  obtain ⟨y, hy⟩ : ∃ y, s[j] = y := ⟨_, rfl⟩
                  rw [hy] at hsj
                  have hxj : (ByteArray.mk s.toArray)[j]'hjs = y := hy
                  clear hy
                  cases hp : morN y.toNat with
                  | true =>
                    rw [if_pos hp] at hsj
                    have HJ := Lib.hid hsj
                    have HY : Hid (∀ V, Calls Try.prog 33 #[.int .u8 (y.toNat : Int)] V fun e w' => e = .returned (.bool true) ∧ w' = V) := fun V => by
                      have := more_any V (UInt8.toNat_lt y)
                      rw [hp] at this
                      exact this
                    clear hsj hp
                    go_wp2_with (go_at_call 33; with_reducible refine (HY.out _).mono ?_; rintro e w9 ⟨rfl, hw9⟩; replace hw9 := hw9.symm; subst hw9)
                    go_roundw
                    case rel => exact ⟨j + 1, by go_num, by omega, hjl, HJ.out, trivial⟩
                    case measure => simp [intOf]; omega
                  | false =>
                    rw [hp, if_neg (by simp)] at hsj
                    have HJ := Lib.hid hsj
                    have HY : Hid (∀ V, Calls Try.prog 33 #[.int .u8 (y.toNat : Int)] V fun e w' => e = .returned (.bool false) ∧ w' = V) := fun V => by
                      have := more_any V (UInt8.toNat_lt y)
                      rw [hp] at this
                      exact this
                    clear hsj hp
                    obtain rfl := HJ.out
                    as_aux_lemma =>
                      have u1 : (i : Int) ≤ (j : Int) := by omega
                      have u2 : (j : Int) ≤ (s.length : Int) := by rw [HLEN.out]; omega
                      have u3 : (0 : Int) ≤ (j : Int) := by omega
                      have hcut : (ByteArray.mk s.toArray).extract i j = ⟨cut.toArray⟩ := by rw [str_cut]; exact congrArg (fun l : List UInt8 => ByteArray.mk l.toArray) HCUT.out
                      have fz0 := HB1.out.frozen 0
                      have fz1 := HB1.out.frozen 1
                      have fz2 := HB1.out.frozen 2
                      have cz0 := HB1.out.cell 0
                      have cz1 := HB1.out.cell 1
                      have cz2 := HB1.out.cell 2
                      simp only [List.getElem?_toArray, List.getElem?_cons_succ, List.getElem?_cons_zero] at cz0 cz1 cz2
                      go_upto_region 35 with (first
                        | (go_at_call 33; with_reducible refine (HY.out _).mono ?_; rintro e w9 ⟨rfl, hw9⟩; replace hw9 := hw9.symm; subst hw9))
                      refine wp_world (fun V => SI W out (.slice B n cap) V ∧ Blk V g 80 #[.int .i64 0, .int .i64 0, .string ⟨cut.toArray⟩, .int .i64 (i : Int), .int .i64 0]) ⟨(HI1.out.box (setC_fr V1 g 2 (.string ⟨cut.toArray⟩)) HGW.out HGO.out), HB1.out.set_ 2 _⟩ ?_
                      clear HI1 HB1 fz0 fz1 fz2 cz0 cz1 cz2 hcut
                      rintro V3 ⟨hI3, hB3⟩
                      have HI3 := Lib.hid hI3
                      have HB3 := Lib.hid hB3
                      have cz2 := hB3.cell 2
                      simp only [List.getElem?_toArray, List.getElem?_cons_succ, List.getElem?_cons_zero] at cz2
                      clear hI3 hB3
                      go_upto_region 38 with (first
                        | (go_at_call 32; with_reducible refine (HGC.out _).mono ?_; rintro e w9 ⟨rfl, hw9⟩; replace hw9 := hw9.symm; subst hw9)
                        | (go_at_call 34; refine (HWD.out _).mono ?_; rintro e w9 ⟨rfl, hbw⟩))
                      refine wp_world (fun V => SI W out (.slice B n cap) V ∧ Blk V g 80 #[.int .i64 0, .int .i64 0, .string ⟨cut.toArray⟩, .int .i64 (i : Int), .int .i64 0]) ⟨HI3.out.keep hbw, HB3.out.keep hbw⟩ ?_
                      clear HI3 HB3 cz2 hbw
                      rintro V4 ⟨hI4, hB4⟩
                      have HI1 := Lib.hid hI4
                      have HB1 := Lib.hid hB4
                      have fz0 := hB4.frozen 0
                      have cz0 := hB4.cell 0
                      simp only [List.getElem?_toArray, List.getElem?_cons_zero] at cz0
                      clear hI4 hB4
                      go_wp2
                      go_meet
                      exact ⟨⟨4, 0, cut, i, j⟩, rfl, HL.out.symm, (HI1.out.box (setC_fr V4 g 0 (.int .i64 4)) HGW.out HGO.out), HB1.out.set_ 0 _⟩
                · obtain rfl : j = len := by omega
                  have d0 : decide (j < s.length) = false := by simp; rw [HLEN.out]; exact Nat.le_refl _
                  rw [spanE_end (by rw [HLEN.out]; exact Nat.le_refl _)] at hsj
                  have HJ := Lib.hid hsj
                  clear hsj
                  obtain rfl := HJ.out
                  as_aux_lemma =>
                    have u1 : (i : Int) ≤ (j : Int) := by omega
                    have u2 : (j : Int) ≤ (s.length : Int) := by rw [HLEN.out]; omega
                    have u3 : (0 : Int) ≤ (j : Int) := by omega
                    have hcut : (ByteArray.mk s.toArray).extract i j = ⟨cut.toArray⟩ := by rw [str_cut]; exact congrArg (fun l : List UInt8 => ByteArray.mk l.toArray) HCUT.out
                    have fz0 := HB1.out.frozen 0
                    have fz1 := HB1.out.frozen 1
                    have fz2 := HB1.out.frozen 2
                    have cz0 := HB1.out.cell 0
                    have cz1 := HB1.out.cell 1
                    have cz2 := HB1.out.cell 2
                    simp only [List.getElem?_toArray, List.getElem?_cons_succ, List.getElem?_cons_zero] at cz0 cz1 cz2
                    go_upto_region 35 with (first
                      | (fail))
                    refine wp_world (fun V => SI W out (.slice B n cap) V ∧ Blk V g 80 #[.int .i64 0, .int .i64 0, .string ⟨cut.toArray⟩, .int .i64 (i : Int), .int .i64 0]) ⟨(HI1.out.box (setC_fr V1 g 2 (.string ⟨cut.toArray⟩)) HGW.out HGO.out), HB1.out.set_ 2 _⟩ ?_
                    clear HI1 HB1 fz0 fz1 fz2 cz0 cz1 cz2 hcut
                    rintro V3 ⟨hI3, hB3⟩
                    have HI3 := Lib.hid hI3
                    have HB3 := Lib.hid hB3
                    have cz2 := hB3.cell 2
                    simp only [List.getElem?_toArray, List.getElem?_cons_succ, List.getElem?_cons_zero] at cz2
                    clear hI3 hB3
                    go_upto_region 38 with (first
                      | (go_at_call 32; with_reducible refine (HGC.out _).mono ?_; rintro e w9 ⟨rfl, hw9⟩; replace hw9 := hw9.symm; subst hw9)
                      | (go_at_call 34; refine (HWD.out _).mono ?_; rintro e w9 ⟨rfl, hbw⟩))
                    refine wp_world (fun V => SI W out (.slice B n cap) V ∧ Blk V g 80 #[.int .i64 0, .int .i64 0, .string ⟨cut.toArray⟩, .int .i64 (i : Int), .int .i64 0]) ⟨HI3.out.keep hbw, HB3.out.keep hbw⟩ ?_
                    clear HI3 HB3 cz2 hbw
                    rintro V4 ⟨hI4, hB4⟩
                    have HI1 := Lib.hid hI4
                    have HB1 := Lib.hid hB4
                    have fz0 := hB4.frozen 0
                    have cz0 := hB4.cell 0
                    simp only [List.getElem?_toArray, List.getElem?_cons_zero] at cz0
                    clear hI4 hB4
                    go_wp2
                    go_meet
                    exact ⟨⟨4, 0, cut, i, j⟩, rfl, HL.out.symm, (HI1.out.box (setC_fr V4 g 0 (.int .i64 4)) HGW.out HGO.out), HB1.out.set_ 0 _⟩
            | false =>
              rw [hwd, if_neg (by simp)] at hl
              rw [hwd] at HWD
              try simp only at hl
              have HL := Lib.hid hl
              clear hl hln hd hsm hgr hwd
              go_wp2_with (first
                | (go_at_call 29; with_reducible refine (HDC.out _).mono ?_; rintro e w9 ⟨rfl, hw9⟩; replace hw9 := hw9.symm; subst hw9)
                | (go_at_call 31; with_reducible refine (HSC.out _).mono ?_; rintro e w9 ⟨rfl, hw9⟩; replace hw9 := hw9.symm; subst hw9)
                | (go_at_call 32; with_reducible refine (HGC.out _).mono ?_; rintro e w9 ⟨rfl, hw9⟩; replace hw9 := hw9.symm; subst hw9))
              go_loopw [9] (fun v9 wx => ∃ (j : Nat), v9 = .int .i64 (j : Int) ∧ i ≤ j ∧ j ≤ len ∧ spanE morN s j = en ∧ V1 = wx) (fun v9 _ => len - (intOf v9).toNat)
              case atStart => exact ⟨i, rfl, Nat.le_refl _, hi, HSP.out, rfl⟩
              case round =>
                obtain ⟨j, rfl, hij, hj, hsj, rfl⟩ := hrel
                by_cases hjl : j < len
                · have hjs : j < s.length := by rw [HLEN.out]; exact hjl
                  have d0 : decide (j < s.length) = true := by simp; omega
                  have p1 : (0 : Int) ≤ (j : Int) := by omega
                  have p2 : (j : Int) < (s.length : Int) := by omega
                  rw [spanE_step hjs] at hsj
                  obtain ⟨y, hy⟩ : ∃ y, s[j] = y := ⟨_, rfl⟩
                  rw [hy] at hsj
                  have hxj : (ByteArray.mk s.toArray)[j]'hjs = y := hy
                  clear hy
                  cases hp : morN y.toNat with
                  | true =>
                    rw [if_pos hp] at hsj
                    have HJ := Lib.hid hsj
                    have HY : Hid (∀ V, Calls Try.prog 33 #[.int .u8 (y.toNat : Int)] V fun e w' => e = .returned (.bool true) ∧ w' = V) := fun V => by
                      have := more_any V (UInt8.toNat_lt y)
                      rw [hp] at this
                      exact this
                    clear hsj hp
                    go_wp2_with (go_at_call 33; with_reducible refine (HY.out _).mono ?_; rintro e w9 ⟨rfl, hw9⟩; replace hw9 := hw9.symm; subst hw9)
                    go_roundw
                    case rel => exact ⟨j + 1, by go_num, by omega, hjl, HJ.out, trivial⟩
                    case measure => simp [intOf]; omega
                  | false =>
                    rw [hp, if_neg (by simp)] at hsj
                    have HJ := Lib.hid hsj
                    have HY : Hid (∀ V, Calls Try.prog 33 #[.int .u8 (y.toNat : Int)] V fun e w' => e = .returned (.bool false) ∧ w' = V) := fun V => by
                      have := more_any V (UInt8.toNat_lt y)
                      rw [hp] at this
                      exact this
                    clear hsj hp
                    obtain rfl := HJ.out
                    as_aux_lemma =>
                      have u1 : (i : Int) ≤ (j : Int) := by omega
                      have u2 : (j : Int) ≤ (s.length : Int) := by rw [HLEN.out]; omega
                      have u3 : (0 : Int) ≤ (j : Int) := by omega
                      have hcut : (ByteArray.mk s.toArray).extract i j = ⟨cut.toArray⟩ := by rw [str_cut]; exact congrArg (fun l : List UInt8 => ByteArray.mk l.toArray) HCUT.out
                      have fz0 := HB1.out.frozen 0
                      have fz1 := HB1.out.frozen 1
                      have fz2 := HB1.out.frozen 2
                      have cz0 := HB1.out.cell 0
                      have cz1 := HB1.out.cell 1
                      have cz2 := HB1.out.cell 2
                      simp only [List.getElem?_toArray, List.getElem?_cons_succ, List.getElem?_cons_zero] at cz0 cz1 cz2
                      go_upto_region 35 with (first
                        | (go_at_call 33; with_reducible refine (HY.out _).mono ?_; rintro e w9 ⟨rfl, hw9⟩; replace hw9 := hw9.symm; subst hw9))
                      refine wp_world (fun V => SI W out (.slice B n cap) V ∧ Blk V g 80 #[.int .i64 0, .int .i64 0, .string ⟨cut.toArray⟩, .int .i64 (i : Int), .int .i64 0]) ⟨(HI1.out.box (setC_fr V1 g 2 (.string ⟨cut.toArray⟩)) HGW.out HGO.out), HB1.out.set_ 2 _⟩ ?_
                      clear HI1 HB1 fz0 fz1 fz2 cz0 cz1 cz2 hcut
                      rintro V3 ⟨hI3, hB3⟩
                      have HI3 := Lib.hid hI3
                      have HB3 := Lib.hid hB3
                      have cz2 := hB3.cell 2
                      simp only [List.getElem?_toArray, List.getElem?_cons_succ, List.getElem?_cons_zero] at cz2
                      clear hI3 hB3
                      go_upto_region 34 with (first
                        | (go_at_call 32; with_reducible refine (HGC.out _).mono ?_; rintro e w9 ⟨rfl, hw9⟩; replace hw9 := hw9.symm; subst hw9)
                        | (go_at_call 34; refine (HWD.out _).mono ?_; rintro e w9 ⟨rfl, hbw⟩))
                      refine wp_world (fun V => SI W out (.slice B n cap) V ∧ Blk V g 80 #[.int .i64 0, .int .i64 0, .string ⟨cut.toArray⟩, .int .i64 (i : Int), .int .i64 0]) ⟨HI3.out.keep hbw, HB3.out.keep hbw⟩ ?_
                      clear HI3 HB3 cz2 hbw
                      rintro V4 ⟨hI4, hB4⟩
                      have HI1 := Lib.hid hI4
                      have HB1 := Lib.hid hB4
                      have fz0 := hB4.frozen 0
                      have cz0 := hB4.cell 0
                      simp only [List.getElem?_toArray, List.getElem?_cons_zero] at cz0
                      clear hI4 hB4
                      go_wp2
                      go_meet
                      exact ⟨⟨2, 0, cut, i, j⟩, rfl, HL.out.symm, (HI1.out.box (setC_fr V4 g 0 (.int .i64 2)) HGW.out HGO.out), HB1.out.set_ 0 _⟩
                · obtain rfl : j = len := by omega
                  have d0 : decide (j < s.length) = false := by simp; rw [HLEN.out]; exact Nat.le_refl _
                  rw [spanE_end (by rw [HLEN.out]; exact Nat.le_refl _)] at hsj
                  have HJ := Lib.hid hsj
                  clear hsj
                  obtain rfl := HJ.out
                  as_aux_lemma =>
                    have u1 : (i : Int) ≤ (j : Int) := by omega
                    have u2 : (j : Int) ≤ (s.length : Int) := by rw [HLEN.out]; omega
                    have u3 : (0 : Int) ≤ (j : Int) := by omega
                    have hcut : (ByteArray.mk s.toArray).extract i j = ⟨cut.toArray⟩ := by rw [str_cut]; exact congrArg (fun l : List UInt8 => ByteArray.mk l.toArray) HCUT.out
                    have fz0 := HB1.out.frozen 0
                    have fz1 := HB1.out.frozen 1
                    have fz2 := HB1.out.frozen 2
                    have cz0 := HB1.out.cell 0
                    have cz1 := HB1.out.cell 1
                    have cz2 := HB1.out.cell 2
                    simp only [List.getElem?_toArray, List.getElem?_cons_succ, List.getElem?_cons_zero] at cz0 cz1 cz2
                    go_upto_region 35 with (first
                      | (fail))
                    refine wp_world (fun V => SI W out (.slice B n cap) V ∧ Blk V g 80 #[.int .i64 0, .int .i64 0, .string ⟨cut.toArray⟩, .int .i64 (i : Int), .int .i64 0]) ⟨(HI1.out.box (setC_fr V1 g 2 (.string ⟨cut.toArray⟩)) HGW.out HGO.out), HB1.out.set_ 2 _⟩ ?_
                    clear HI1 HB1 fz0 fz1 fz2 cz0 cz1 cz2 hcut
                    rintro V3 ⟨hI3, hB3⟩
                    have HI3 := Lib.hid hI3
                    have HB3 := Lib.hid hB3
                    have cz2 := hB3.cell 2
                    simp only [List.getElem?_toArray, List.getElem?_cons_succ, List.getElem?_cons_zero] at cz2
                    clear hI3 hB3
                    go_upto_region 34 with (first
                      | (go_at_call 32; with_reducible refine (HGC.out _).mono ?_; rintro e w9 ⟨rfl, hw9⟩; replace hw9 := hw9.symm; subst hw9)
                      | (go_at_call 34; refine (HWD.out _).mono ?_; rintro e w9 ⟨rfl, hbw⟩))
                    refine wp_world (fun V => SI W out (.slice B n cap) V ∧ Blk V g 80 #[.int .i64 0, .int .i64 0, .string ⟨cut.toArray⟩, .int .i64 (i : Int), .int .i64 0]) ⟨HI3.out.keep hbw, HB3.out.keep hbw⟩ ?_
                    clear HI3 HB3 cz2 hbw
                    rintro V4 ⟨hI4, hB4⟩
                    have HI1 := Lib.hid hI4
                    have HB1 := Lib.hid hB4
                    have fz0 := hB4.frozen 0
                    have cz0 := hB4.cell 0
                    simp only [List.getElem?_toArray, List.getElem?_cons_zero] at cz0
                    clear hI4 hB4
                    go_wp2
                    go_meet
                    exact ⟨⟨2, 0, cut, i, j⟩, rfl, HL.out.symm, (HI1.out.box (setC_fr V4 g 0 (.int .i64 2)) HGW.out HGO.out), HB1.out.set_ 0 _⟩
        | false =>
          cases hgr : greN c.toNat with
          | true =>
            unfold tokP at hl
            rw [hd, if_neg (by simp), show (smaN c.toNat || greN c.toNat) = true by rw [hsm, hgr]; rfl, if_pos rfl] at hl
            have HDC : Hid (∀ V, Calls Try.prog 29 #[.int .u8 (c.toNat : Int)] V fun e w' => e = .returned (.bool false) ∧ w' = V) := fun V => by
              have := digit_any V (UInt8.toNat_lt c)
              rw [hd] at this
              exact this
            have HSC : Hid (∀ V, Calls Try.prog 31 #[.int .u8 (c.toNat : Int)] V fun e w' => e = .returned (.bool false) ∧ w' = V) := fun V => by
              have := small_any V (UInt8.toNat_lt c)
              rw [hsm] at this
              exact this
            have HGC : Hid (∀ V, Calls Try.prog 32 #[.int .u8 (c.toNat : Int)] V fun e w' => e = .returned (.bool true) ∧ w' = V) := fun V => by
              have := great_any V (UInt8.toNat_lt c)
              rw [hgr] at this
              exact this
            obtain ⟨en, hen⟩ : ∃ en, spanE morN s i = en := ⟨_, rfl⟩
            have HIE : Hid (i < en ∧ en ≤ len) := ⟨by rw [← hen]; exact spanE_gt hil (by rw [HC.out]; unfold morN; rw [hsm, hgr]; simp), by rw [← hen, ← HLEN.out]; exact spanE_le (Nat.le_of_lt hil)⟩
            rw [hen] at hl
            obtain ⟨cut, hcut⟩ : ∃ cut, cutB s i en = cut := ⟨_, rfl⟩
            have HCUT := Lib.hid hcut
            rw [hcut] at hl
            have HSP := Lib.hid hen
            have HWD : Hid (∀ V, Calls Try.prog 34 #[.string ⟨cut.toArray⟩] V fun e w' => e = .returned (.bool (wordP cut)) ∧ Below V.heap.size V w') := fun V => word_any V cut
            clear hcut hen
            by_cases hln : 255 < cut.length
            · rw [if_pos hln] at hl
              try simp only at hl
              have HR := Lib.hid (sc_bad HTL.out hl)
              have dl5 : decide ((255 : Int) < (cut.length : Int)) = true := by simp; omega
              clear hl hln hd hsm hgr
              go_wp2_with (first
                | (go_at_call 29; with_reducible refine (HDC.out _).mono ?_; rintro e w9 ⟨rfl, hw9⟩; replace hw9 := hw9.symm; subst hw9)
                | (go_at_call 31; with_reducible refine (HSC.out _).mono ?_; rintro e w9 ⟨rfl, hw9⟩; replace hw9 := hw9.symm; subst hw9)
                | (go_at_call 32; with_reducible refine (HGC.out _).mono ?_; rintro e w9 ⟨rfl, hw9⟩; replace hw9 := hw9.symm; subst hw9))
              go_loopw [9] (fun v9 wx => ∃ (j : Nat), v9 = .int .i64 (j : Int) ∧ i ≤ j ∧ j ≤ len ∧ spanE morN s j = en ∧ V1 = wx) (fun v9 _ => len - (intOf v9).toNat)
              case atStart => exact ⟨i, rfl, Nat.le_refl _, hi, HSP.out, rfl⟩
              case round =>
                obtain ⟨j, rfl, hij, hj, hsj, rfl⟩ := hrel
                by_cases hjl : j < len
                · have hjs : j < s.length := by rw [HLEN.out]; exact hjl
                  have d0 : decide (j < s.length) = true := by simp; omega
                  have p1 : (0 : Int) ≤ (j : Int) := by omega
                  have p2 : (j : Int) < (s.length : Int) := by omega
                  rw [spanE_step hjs] at hsj
                  obtain ⟨y, hy⟩ : ∃ y, s[j] = y := ⟨_, rfl⟩
                  rw [hy] at hsj
                  have hxj : (ByteArray.mk s.toArray)[j]'hjs = y := hy
                  clear hy
                  cases hp : morN y.toNat with
                  | true =>
                    rw [if_pos hp] at hsj
                    have HJ := Lib.hid hsj
                    have HY : Hid (∀ V, Calls Try.prog 33 #[.int .u8 (y.toNat : Int)] V fun e w' => e = .returned (.bool true) ∧ w' = V) := fun V => by
                      have := more_any V (UInt8.toNat_lt y)
                      rw [hp] at this
                      exact this
                    clear hsj hp
                    go_wp2_with (go_at_call 33; with_reducible refine (HY.out _).mono ?_; rintro e w9 ⟨rfl, hw9⟩; replace hw9 := hw9.symm; subst hw9)
                    go_roundw
                    case rel => exact ⟨j + 1, by go_num, by omega, hjl, HJ.out, trivial⟩
                    case measure => simp [intOf]; omega
                  | false =>
                    rw [hp, if_neg (by simp)] at hsj
                    have HJ := Lib.hid hsj
                    have HY : Hid (∀ V, Calls Try.prog 33 #[.int .u8 (y.toNat : Int)] V fun e w' => e = .returned (.bool false) ∧ w' = V) := fun V => by
                      have := more_any V (UInt8.toNat_lt y)
                      rw [hp] at this
                      exact this
                    clear hsj hp
                    obtain rfl := HJ.out
                    as_aux_lemma =>
                      have u1 : (i : Int) ≤ (j : Int) := by omega
                      have u2 : (j : Int) ≤ (s.length : Int) := by rw [HLEN.out]; omega
                      have u3 : (0 : Int) ≤ (j : Int) := by omega
                      have hcut : (ByteArray.mk s.toArray).extract i j = ⟨cut.toArray⟩ := by rw [str_cut]; exact congrArg (fun l : List UInt8 => ByteArray.mk l.toArray) HCUT.out
                      have fz0 := HB1.out.frozen 0
                      have fz1 := HB1.out.frozen 1
                      have fz2 := HB1.out.frozen 2
                      have cz0 := HB1.out.cell 0
                      have cz1 := HB1.out.cell 1
                      have cz2 := HB1.out.cell 2
                      simp only [List.getElem?_toArray, List.getElem?_cons_succ, List.getElem?_cons_zero] at cz0 cz1 cz2
                      go_wp2_with (first
                        | (go_at_call 33; with_reducible refine (HY.out _).mono ?_; rintro e w9 ⟨rfl, hw9⟩; replace hw9 := hw9.symm; subst hw9))
                      exact bodyPost_ret (v := .tuple #[.slice none 0 0, .int .i64 100, .int .i64 ((i : Nat) : Int)]) (by simp [results, Try.results18, go_sem]) rfl (sc_err HR.out rfl ((HI1.out.box (setC_fr V1 g 2 (.string ⟨cut.toArray⟩)) HGW.out HGO.out)).bel)
                · obtain rfl : j = len := by omega
                  have d0 : decide (j < s.length) = false := by simp; rw [HLEN.out]; exact Nat.le_refl _
                  rw [spanE_end (by rw [HLEN.out]; exact Nat.le_refl _)] at hsj
                  have HJ := Lib.hid hsj
                  clear hsj
                  obtain rfl := HJ.out
                  as_aux_lemma =>
                    have u1 : (i : Int) ≤ (j : Int) := by omega
                    have u2 : (j : Int) ≤ (s.length : Int) := by rw [HLEN.out]; omega
                    have u3 : (0 : Int) ≤ (j : Int) := by omega
                    have hcut : (ByteArray.mk s.toArray).extract i j = ⟨cut.toArray⟩ := by rw [str_cut]; exact congrArg (fun l : List UInt8 => ByteArray.mk l.toArray) HCUT.out
                    have fz0 := HB1.out.frozen 0
                    have fz1 := HB1.out.frozen 1
                    have fz2 := HB1.out.frozen 2
                    have cz0 := HB1.out.cell 0
                    have cz1 := HB1.out.cell 1
                    have cz2 := HB1.out.cell 2
                    simp only [List.getElem?_toArray, List.getElem?_cons_succ, List.getElem?_cons_zero] at cz0 cz1 cz2
                    go_wp2_with (first
                      | (fail))
                    exact bodyPost_ret (v := .tuple #[.slice none 0 0, .int .i64 100, .int .i64 ((i : Nat) : Int)]) (by simp [results, Try.results18, go_sem]) rfl (sc_err HR.out rfl ((HI1.out.box (setC_fr V1 g 2 (.string ⟨cut.toArray⟩)) HGW.out HGO.out)).bel)
            rw [if_neg hln] at hl
            have dl5 : decide ((255 : Int) < (cut.length : Int)) = false := by simp; omega
            rw [hgr, if_pos rfl] at hl
            try simp only at hl
            have HL := Lib.hid hl
            clear hl hln hd hsm hgr
            go_wp2_with (first
              | (go_at_call 29; with_reducible refine (HDC.out _).mono ?_; rintro e w9 ⟨rfl, hw9⟩; replace hw9 := hw9.symm; subst hw9)
              | (go_at_call 31; with_reducible refine (HSC.out _).mono ?_; rintro e w9 ⟨rfl, hw9⟩; replace hw9 := hw9.symm; subst hw9)
              | (go_at_call 32; with_reducible refine (HGC.out _).mono ?_; rintro e w9 ⟨rfl, hw9⟩; replace hw9 := hw9.symm; subst hw9))
            go_loopw [9] (fun v9 wx => ∃ (j : Nat), v9 = .int .i64 (j : Int) ∧ i ≤ j ∧ j ≤ len ∧ spanE morN s j = en ∧ V1 = wx) (fun v9 _ => len - (intOf v9).toNat)
            case atStart => exact ⟨i, rfl, Nat.le_refl _, hi, HSP.out, rfl⟩
            case round =>
              obtain ⟨j, rfl, hij, hj, hsj, rfl⟩ := hrel
              by_cases hjl : j < len
              · have hjs : j < s.length := by rw [HLEN.out]; exact hjl
                have d0 : decide (j < s.length) = true := by simp; omega
                have p1 : (0 : Int) ≤ (j : Int) := by omega
                have p2 : (j : Int) < (s.length : Int) := by omega
                rw [spanE_step hjs] at hsj
                obtain ⟨y, hy⟩ : ∃ y, s[j] = y := ⟨_, rfl⟩
                rw [hy] at hsj
                have hxj : (ByteArray.mk s.toArray)[j]'hjs = y := hy
                clear hy
                cases hp : morN y.toNat with
                | true =>
                  rw [if_pos hp] at hsj
                  have HJ := Lib.hid hsj
                  have HY : Hid (∀ V, Calls Try.prog 33 #[.int .u8 (y.toNat : Int)] V fun e w' => e = .returned (.bool true) ∧ w' = V) := fun V => by
                    have := more_any V (UInt8.toNat_lt y)
                    rw [hp] at this
                    exact this
                  clear hsj hp
                  go_wp2_with (go_at_call 33; with_reducible refine (HY.out _).mono ?_; rintro e w9 ⟨rfl, hw9⟩; replace hw9 := hw9.symm; subst hw9)
                  go_roundw
                  case rel => exact ⟨j + 1, by go_num, by omega, hjl, HJ.out, trivial⟩
                  case measure => simp [intOf]; omega
                | false =>
                  rw [hp, if_neg (by simp)] at hsj
                  have HJ := Lib.hid hsj
                  have HY : Hid (∀ V, Calls Try.prog 33 #[.int .u8 (y.toNat : Int)] V fun e w' => e = .returned (.bool false) ∧ w' = V) := fun V => by
                    have := more_any V (UInt8.toNat_lt y)
                    rw [hp] at this
                    exact this
                  clear hsj hp
                  obtain rfl := HJ.out
                  as_aux_lemma =>
                    have u1 : (i : Int) ≤ (j : Int) := by omega
                    have u2 : (j : Int) ≤ (s.length : Int) := by rw [HLEN.out]; omega
                    have u3 : (0 : Int) ≤ (j : Int) := by omega
                    have hcut : (ByteArray.mk s.toArray).extract i j = ⟨cut.toArray⟩ := by rw [str_cut]; exact congrArg (fun l : List UInt8 => ByteArray.mk l.toArray) HCUT.out
                    have fz0 := HB1.out.frozen 0
                    have fz1 := HB1.out.frozen 1
                    have fz2 := HB1.out.frozen 2
                    have cz0 := HB1.out.cell 0
                    have cz1 := HB1.out.cell 1
                    have cz2 := HB1.out.cell 2
                    simp only [List.getElem?_toArray, List.getElem?_cons_succ, List.getElem?_cons_zero] at cz0 cz1 cz2
                    go_wp2_with (first
                      | (go_at_call 33; with_reducible refine (HY.out _).mono ?_; rintro e w9 ⟨rfl, hw9⟩; replace hw9 := hw9.symm; subst hw9)
                      | (go_at_call 32; with_reducible refine (HGC.out _).mono ?_; rintro e w9 ⟨rfl, hw9⟩; replace hw9 := hw9.symm; subst hw9))
                    go_meet
                    exact ⟨⟨3, 0, cut, i, j⟩, rfl, HL.out.symm, ((HI1.out.box (setC_fr V1 g 2 (.string ⟨cut.toArray⟩)) HGW.out HGO.out).box (setC_fr _ g 0 (.int .i64 3)) HGW.out HGO.out), (HB1.out.set_ 2 _).set_ 0 _⟩
              · obtain rfl : j = len := by omega
                have d0 : decide (j < s.length) = false := by simp; rw [HLEN.out]; exact Nat.le_refl _
                rw [spanE_end (by rw [HLEN.out]; exact Nat.le_refl _)] at hsj
                have HJ := Lib.hid hsj
                clear hsj
                obtain rfl := HJ.out
                as_aux_lemma =>
                  have u1 : (i : Int) ≤ (j : Int) := by omega
                  have u2 : (j : Int) ≤ (s.length : Int) := by rw [HLEN.out]; omega
                  have u3 : (0 : Int) ≤ (j : Int) := by omega
                  have hcut : (ByteArray.mk s.toArray).extract i j = ⟨cut.toArray⟩ := by rw [str_cut]; exact congrArg (fun l : List UInt8 => ByteArray.mk l.toArray) HCUT.out
                  have fz0 := HB1.out.frozen 0
                  have fz1 := HB1.out.frozen 1
                  have fz2 := HB1.out.frozen 2
                  have cz0 := HB1.out.cell 0
                  have cz1 := HB1.out.cell 1
                  have cz2 := HB1.out.cell 2
                  simp only [List.getElem?_toArray, List.getElem?_cons_succ, List.getElem?_cons_zero] at cz0 cz1 cz2
                  go_wp2_with (first
                    | (go_at_call 32; with_reducible refine (HGC.out _).mono ?_; rintro e w9 ⟨rfl, hw9⟩; replace hw9 := hw9.symm; subst hw9))
                  go_meet
                  exact ⟨⟨3, 0, cut, i, j⟩, rfl, HL.out.symm, ((HI1.out.box (setC_fr V1 g 2 (.string ⟨cut.toArray⟩)) HGW.out HGO.out).box (setC_fr _ g 0 (.int .i64 3)) HGW.out HGO.out), (HB1.out.set_ 2 _).set_ 0 _⟩
          | false =>
            by_cases c39 : c.toNat = 39
            · skip
              unfold tokP at hl
              rw [hd, if_neg (by simp), show (smaN c.toNat || greN c.toNat) = false by rw [hsm, hgr]; rfl, if_neg (by simp), if_pos c39] at hl
              have HDC : Hid (∀ V, Calls Try.prog 29 #[.int .u8 (c.toNat : Int)] V fun e w' => e = .returned (.bool false) ∧ w' = V) := fun V => by
                have := digit_any V (UInt8.toNat_lt c)
                rw [hd] at this
                exact this
              have HSC : Hid (∀ V, Calls Try.prog 31 #[.int .u8 (c.toNat : Int)] V fun e w' => e = .returned (.bool false) ∧ w' = V) := fun V => by
                have := small_any V (UInt8.toNat_lt c)
                rw [hsm] at this
                exact this
              have HGC : Hid (∀ V, Calls Try.prog 32 #[.int .u8 (c.toNat : Int)] V fun e w' => e = .returned (.bool false) ∧ w' = V) := fun V => by
                have := great_any V (UInt8.toNat_lt c)
                rw [hgr] at this
                exact this
              have e39 : ((c.toNat : Int) == 39) = true := by simp; omega
              have HQT : Hid (∀ V, Calls Try.prog 35 #[.string ⟨s.toArray⟩, .int .i64 (i : Int)] V (QEnd V (quoP s i))) := fun V => quoted_any V s HLEN.out h16 i hlt
              have hqe := quoL_to s i _ _ _ _ (quoP_eq s i)
              obtain ⟨qr, hqr⟩ : ∃ qr, quoP s i = qr := ⟨_, rfl⟩
              rw [hqr] at hl HQT hqe
              by_cases hq0 : qr.e = 0
              rotate_left
              · rw [if_pos hq0] at hl
                try simp only at hl
                have HR := Lib.hid (sc_bad HTL.out hl)
                have de : (qr.e != 0) = true := by simpa using hq0
                clear hl hd hsm hgr c39 hqr hqe hq0
                go_wp2_with (first
                  | (go_at_call 29; with_reducible refine (HDC.out _).mono ?_; rintro e w9 ⟨rfl, hw9⟩; replace hw9 := hw9.symm; subst hw9)
                  | (go_at_call 31; with_reducible refine (HSC.out _).mono ?_; rintro e w9 ⟨rfl, hw9⟩; replace hw9 := hw9.symm; subst hw9)
                  | (go_at_call 32; with_reducible refine (HGC.out _).mono ?_; rintro e w9 ⟨rfl, hw9⟩; replace hw9 := hw9.symm; subst hw9)
                  | (go_at_call 35; refine (HQT.out _).mono ?_; rintro e w9 ⟨rfl, hbq⟩))
                exact bodyPost_ret (v := .tuple #[.slice none 0 0, .int .i64 qr.e, .int .i64 ((qr.at_ : Nat) : Int)]) (by simp [results, Try.results18, go_sem]) rfl (sc_err HR.out rfl (HI1.out.keep hbq).bel)
              rw [if_neg (by simpa using hq0)] at hl
              try simp only at hl
              have HL := Lib.hid hl
              have HIE : Hid (i < qr.to ∧ qr.to ≤ len) := ⟨by have := (hqe hq0).1; omega, by have := (hqe hq0).2; rw [HLEN.out] at this; exact this⟩
              have de : (qr.e != 0) = false := by simpa using hq0
              clear hl hd hsm hgr c39 hqr hqe hq0
              go_upto_region 43 with (first
                | (go_at_call 29; with_reducible refine (HDC.out _).mono ?_; rintro e w9 ⟨rfl, hw9⟩; replace hw9 := hw9.symm; subst hw9)
                | (go_at_call 31; with_reducible refine (HSC.out _).mono ?_; rintro e w9 ⟨rfl, hw9⟩; replace hw9 := hw9.symm; subst hw9)
                | (go_at_call 32; with_reducible refine (HGC.out _).mono ?_; rintro e w9 ⟨rfl, hw9⟩; replace hw9 := hw9.symm; subst hw9)
                | (go_at_call 35; refine (HQT.out _).mono ?_; rintro e w9 ⟨rfl, hbq⟩))
              obtain ⟨tq, hto⟩ : ∃ tq, qr.to = tq := ⟨_, rfl⟩
              obtain ⟨cut, hct⟩ : ∃ cut, qr.name = cut := ⟨_, rfl⟩
              rw [hto] at HL HIE ⊢
              rw [hct] at HL ⊢
              clear hto hct
              refine wp_world (fun V => SI W out (.slice B n cap) V ∧ Blk V g 80 #[.int .i64 0, .int .i64 0, .string ⟨#[]⟩, .int .i64 (i : Int), .int .i64 0]) ⟨HI1.out.keep hbq, HB1.out.keep hbq⟩ ?_
              clear HI1 HB1 hbq
              rintro V3 ⟨hI3, hB3⟩
              have HI1 := Lib.hid hI3
              have HB1 := Lib.hid hB3
              clear hI3 hB3
              have fz0 := HB1.out.frozen 0
              have fz1 := HB1.out.frozen 1
              have fz2 := HB1.out.frozen 2
              have cz0 := HB1.out.cell 0
              have cz1 := HB1.out.cell 1
              have cz2 := HB1.out.cell 2
              simp only [List.getElem?_toArray, List.getElem?_cons_succ, List.getElem?_cons_zero] at cz0 cz1 cz2
              go_wp2
              go_meet
              exact ⟨⟨2, 0, cut, i, tq⟩, rfl, HL.out.symm, ((HI1.out.box (setC_fr V3 g 0 (.int .i64 2)) HGW.out HGO.out).box (setC_fr _ g 2 (.string ⟨cut.toArray⟩)) HGW.out HGO.out), (HB1.out.set_ 0 _).set_ 2 _⟩
            · skip
              unfold tokP at hl
              rw [hd, if_neg (by simp), show (smaN c.toNat || greN c.toNat) = false by rw [hsm, hgr]; rfl, if_neg (by simp), if_neg c39] at hl
              have HDC : Hid (∀ V, Calls Try.prog 29 #[.int .u8 (c.toNat : Int)] V fun e w' => e = .returned (.bool false) ∧ w' = V) := fun V => by
                have := digit_any V (UInt8.toNat_lt c)
                rw [hd] at this
                exact this
              have HSC : Hid (∀ V, Calls Try.prog 31 #[.int .u8 (c.toNat : Int)] V fun e w' => e = .returned (.bool false) ∧ w' = V) := fun V => by
                have := small_any V (UInt8.toNat_lt c)
                rw [hsm] at this
                exact this
              have HGC : Hid (∀ V, Calls Try.prog 32 #[.int .u8 (c.toNat : Int)] V fun e w' => e = .returned (.bool false) ∧ w' = V) := fun V => by
                have := great_any V (UInt8.toNat_lt c)
                rw [hgr] at this
                exact this
              have e39 : ((c.toNat : Int) == 39) = false := by simp; omega
              have hdl : 0 < (s.drop i).length := by rw [List.length_drop]; omega
              have hsl := signP_le (s.drop i)
              rw [List.length_drop] at hsl
              have HSG : Hid (∀ V, Calls Try.prog 36 #[.string ⟨(s.drop i).toArray⟩] V fun e w' => e = .returned (.int .i64 (signP (s.drop i) : Nat)) ∧ Below V.heap.size V w') := fun V => sign_any V _ hdl
              obtain ⟨sg, hsg⟩ : ∃ sg, signP (s.drop i) = sg := ⟨_, rfl⟩
              rw [hsg] at hl HSG hsl
              obtain ⟨rs, hrs⟩ : ∃ rs, s.drop i = rs := ⟨_, rfl⟩
              have hcut0 : (ByteArray.mk s.toArray).extract i s.length = ⟨rs.toArray⟩ := by rw [str_cut, ← hrs]; unfold cutB; rw [← List.length_drop, List.take_length]
              rw [hrs] at HSG
              have u1 : (i : Int) ≤ (s.length : Int) := by omega
              clear hrs hdl hsg
              by_cases hs0 : sg = 0
              · rw [if_pos hs0] at hl
                try simp only at hl
                have HR := Lib.hid (sc_bad HTL.out hl)
                have de : ((sg : Int) == 0) = true := by simp; omega
                clear hl hd hsm hgr c39 hs0 hsl
                go_wp2_with (first
                  | (go_at_call 29; with_reducible refine (HDC.out _).mono ?_; rintro e w9 ⟨rfl, hw9⟩; replace hw9 := hw9.symm; subst hw9)
                  | (go_at_call 31; with_reducible refine (HSC.out _).mono ?_; rintro e w9 ⟨rfl, hw9⟩; replace hw9 := hw9.symm; subst hw9)
                  | (go_at_call 32; with_reducible refine (HGC.out _).mono ?_; rintro e w9 ⟨rfl, hw9⟩; replace hw9 := hw9.symm; subst hw9)
                  | (go_at_call 36; refine (HSG.out _).mono ?_; rintro e w9 ⟨rfl, hbq⟩))
                exact bodyPost_ret (v := .tuple #[.slice none 0 0, .int .i64 100, .int .i64 ((i : Nat) : Int)]) (by simp [results, Try.results18, go_sem]) rfl (sc_err HR.out rfl (HI1.out.keep hbq).bel)
              rw [if_neg hs0] at hl
              try simp only at hl
              obtain ⟨j, hj⟩ : ∃ j, i + sg = j := ⟨_, rfl⟩
              rw [hj] at hl
              obtain ⟨cut, hct⟩ : ∃ cut, cutB s i j = cut := ⟨_, rfl⟩
              rw [hct] at hl
              have HL := Lib.hid hl
              have HCUT := Lib.hid hct
              have HIE : Hid (i < j ∧ j ≤ len) := ⟨by omega, by rw [← HLEN.out]; omega⟩
              have hjl : j ≤ len := HIE.out.2
              have hij : i ≤ j := Nat.le_of_lt HIE.out.1
              have de : ((sg : Int) == 0) = false := by simp; omega
              have q9 : IntKind.i64.wrap ((i : Int) + (sg : Int)) = (j : Int) := by rw [IntKind.wrap_i64]; omega
              have q8 : (i : Int) + (sg : Int) = (j : Int) := by omega
              have u1 : (i : Int) ≤ (j : Int) := by omega
              have u2 : (j : Int) ≤ (s.length : Int) := by rw [HLEN.out]; omega
              have u3 : (0 : Int) ≤ (j : Int) := by omega
              have hcut : (ByteArray.mk s.toArray).extract i j = ⟨cut.toArray⟩ := by rw [str_cut]; exact congrArg (fun l : List UInt8 => ByteArray.mk l.toArray) HCUT.out
              clear hl hd hsm hgr c39 hs0 hsl hct hj
              go_upto_region 17 with (first
                | (go_at_call 29; with_reducible refine (HDC.out _).mono ?_; rintro e w9 ⟨rfl, hw9⟩; replace hw9 := hw9.symm; subst hw9)
                | (go_at_call 31; with_reducible refine (HSC.out _).mono ?_; rintro e w9 ⟨rfl, hw9⟩; replace hw9 := hw9.symm; subst hw9)
                | (go_at_call 32; with_reducible refine (HGC.out _).mono ?_; rintro e w9 ⟨rfl, hw9⟩; replace hw9 := hw9.symm; subst hw9)
                | (go_at_call 36; refine (HSG.out _).mono ?_; rintro e w9 ⟨rfl, hbq⟩))
              refine wp_world (fun V => SI W out (.slice B n cap) V ∧ Blk V g 80 #[.int .i64 0, .int .i64 0, .string ⟨#[]⟩, .int .i64 (i : Int), .int .i64 0]) ⟨HI1.out.keep hbq, HB1.out.keep hbq⟩ ?_
              clear HI1 HB1 hbq
              rintro V3 ⟨hI3, hB3⟩
              have HI1 := Lib.hid hI3
              have HB1 := Lib.hid hB3
              clear hI3 hB3
              have fz0 := HB1.out.frozen 0
              have fz1 := HB1.out.frozen 1
              have fz2 := HB1.out.frozen 2
              have cz0 := HB1.out.cell 0
              have cz1 := HB1.out.cell 1
              have cz2 := HB1.out.cell 2
              simp only [List.getElem?_toArray, List.getElem?_cons_succ, List.getElem?_cons_zero] at cz0 cz1 cz2
              go_wp2
              go_meet
              exact ⟨⟨5, 0, cut, i, j⟩, rfl, HL.out.symm, ((HI1.out.box (setC_fr V3 g 0 (.int .i64 5)) HGW.out HGO.out).box (setC_fr _ g 2 (.string ⟨cut.toArray⟩)) HGW.out HGO.out), (HB1.out.set_ 0 _).set_ 2 _⟩
    case rest =>
      obtain ⟨t, rfl, ht, hI, hB⟩ := hcut
      have HL := Lib.hid (sc_good HTL.out ht)
      have hok := tokP_ok hil (show tokP s i (s[i]).toNat = .ok t by rw [HC.out, HTP.out, ht])
      have HAT := Lib.hid hok.1
      have HIE : Hid (i < t.fin ∧ t.fin ≤ len) := ⟨hok.2.1, by rw [← HLEN.out]; exact hok.2.2⟩
      have HI := Lib.hid hI
      have HB := Lib.hid hB
      obtain ⟨en, hen⟩ : ∃ en, t.fin = en := ⟨_, rfl⟩
      have HEN := Lib.hid hen
      rw [hen] at HIE HL ⊢
      have f4 := hB.frozen 4
      have c4 := hB.cell 4
      clear hok ht hI hB hen HTL HTP HI1 HB1 hx d0
      go_upto_region 47 with (fail)
      refine wp_world (fun V => SI W out (.slice B n cap) V ∧ Blk V g 80 #[.int .i64 t.kind, .int .i64 t.int, .string ⟨t.text.toArray⟩, .int .i64 (i : Int), .int .i64 (en : Int)]) ⟨HI.out.box (setC_fr _ g 4 (.int .i64 (en : Int))) HGW.out HGO.out, HB.out.set_ 4 _⟩ ?_
      clear HI HB f4 c4
      rintro V10 ⟨hI10, hB10⟩
      have HI10 := Lib.hid hI10
      have c0 := hB10.cell 0
      have c1 := hB10.cell 1
      have c2 := hB10.cell 2
      have c3 := hB10.cell 3
      have c4 := hB10.cell 4
      simp only [List.getElem?_toArray, List.getElem?_cons_succ, List.getElem?_cons_zero] at c0 c1 c2 c3 c4
      have HCS := Lib.hid (cs_tok V10 t (cs := #[.int .i64 t.kind, .int .i64 t.int, .string ⟨t.text.toArray⟩, .int .i64 (i : Int), .int .i64 (en : Int)]) (by unfold tokC; rw [HAT.out, HEN.out]))
      clear hI10 hB10
      go_wp2_with (at_builtin; refine wpList_app tokT rfl (.tmp 165) (.tmp 167) rfl W.heap.size (.slice B n cap) n (tokL out) rfl (HI10.out.alloc HN.out _) (some ⟨V10.heap.size, 0, none⟩) 1 1 (tokC t).toList rfl rfl HCS.out (tokC_one _) (by unfold maxLen; omega) (by omega) (Nat.le_trans HI10.out.bel.size (below_alloc _ _).size) ?_; intro v' w' ho hg hat)
      have hJ := HI10.out.app (t := t) HN.out ho hg
      go_roundw
      case rel => exact ⟨m, en, out ++ [t], v', rfl, rfl, HIE.out.2, by rw [List.length_append, HN.out]; have := HIE.out.1; have := HNI.out; simp only [List.length_cons, List.length_nil]; omega, HL.out, hJ⟩
      case measure => have := HIE.out; simp [intOf]; omega
end
end Go.Proofs.Ythhindnjnijglaa
