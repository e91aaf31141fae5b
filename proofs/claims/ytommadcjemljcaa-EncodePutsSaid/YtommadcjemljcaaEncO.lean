/- The walks of lay and Put of layer 8. -/
import Derived.Test.YtommadcjemljcaaEncN
namespace Go.Proofs.Ytommadcjemljcaa
open Go.RowKit
set_option linter.unusedVariables false

/-- lay: of every term. -/
theorem lay_any (N : Nat) : ∀ (t : TV) (A : Option Addr) (c : Nat) (v : Value) (bl : List UInt8) (w0 W : World), t.parts ≤ N → t.parts ≤ 10000 → t.isT = true → Below w0.heap.size w0 W → RdM w0 A c t.items → W.ownsRow w0.heap.size 5 1 v bl.length (bl.map bv) → bl.length + 300 * t.parts ≤ 100000000 →
    Calls Try.prog 20 #[v, .agg #[.int .i64 t.kind, .int .i64 t.int, .string ⟨t.name.toArray⟩, .slice A t.items.length c]] W (LayEnds w0 W v (bl ++ layT t)) := by
  induction N with
  | zero => intro t _ _ _ _ _ _ h; have := t.parts_pos; omega
  | succ N ih =>
    intro t A c v bl w0 W hN h4 hT hW hR ho hsz
    rw [TV.isT_eq, Bool.and_eq_true] at hT
    have hp := t.parts_eq
    have hlp := len_parts t.items
    have hit : LayItem w0 t.items := fun k hk A' c' v' bl' W' hW' hR' ho' hsz' => by
      have hpi := parts_item t.items k hk
      have hTi : t.items[k].isT = true := by
        cases h9 : t.items[k].isT with
        | true => rfl
        | false => have := isL_no t.items k hk h9; rw [this] at hT; cases hT.2
      exact ih t.items[k] A' c' v' bl' w0 W' (by omega) (by omega) hTi hW' hR' ho' hsz'
    have hsz' : bl.length + 300 * (TV.partsL t.items + 1) ≤ 100000000 := by rw [← hp]; exact hsz
    rw [layT_eq]
    obtain ⟨k, n, s, l⟩ := t
    simp only [TV.kind, TV.int, TV.name, TV.items] at *
    rcases head_cases hT.1 with ⟨rfl, a1, a2, a3, rfl⟩ | ⟨rfl, a1, a2, a3, rfl⟩ | ⟨rfl | rfl, a1, a2, a3, rfl⟩ | ⟨rfl, a1, a2, rfl⟩ | ⟨rfl, rfl, rfl⟩ | ⟨rfl, a1, rfl, rfl⟩ | ⟨rfl, a1, rfl, rfl⟩
    · have h := lay_k1 n a1 a2 l A l.length c v bl w0 W rfl (by omega) hT.2 hW hR ho hsz' hit
      rw [List.append_assoc] at h
      exact h
    · have h := lay_k2 0 s a2 l A l.length c v bl w0 W rfl (by omega) hT.2 hW hR ho hsz' hit
      rw [List.append_assoc] at h
      exact h
    · obtain ⟨m, rfl⟩ := Int.eq_ofNat_of_zero_le a1
      have h := lay_k3 m (by omega) l A l.length c v bl w0 W rfl (by omega) hT.2 hW hR ho hsz' hit
      rw [List.append_assoc] at h
      exact h
    · obtain ⟨m, rfl⟩ := Int.eq_ofNat_of_zero_le a1
      have h := lay_k5 m (by omega) l A l.length c v bl w0 W rfl (by omega) hT.2 hW hR ho hsz' hit
      rw [List.append_assoc] at h
      exact h
    · obtain ⟨m, rfl⟩ := Int.eq_ofNat_of_zero_le a1
      have h := lay_k4 m (by omega) l A l.length c v bl w0 W rfl (by omega) hT.2 hW hR ho hsz' hit
      rw [List.append_assoc] at h
      exact h
    · have h := lay_k6 0 l A l.length c v bl w0 W rfl (by omega) hT.2 hW hR ho hsz' hit
      rw [List.append_assoc] at h
      exact h
    · have h := lay_k7 0 l A l.length c v bl w0 W rfl (by omega) hT.2 hW hR ho hsz' hit
      rw [List.append_assoc] at h
      exact h
    · have h := lay_k8 0 l A l.length c v bl w0 W rfl (by omega) hT.2 hW hR ho hsz' hit
      rw [List.append_assoc] at h
      exact h

def PutEnds (W : World) (l : List TV) (r : Ending) (w' : World) : Prop :=
  Below W.heap.size W w' ∧ ((checkP l ≠ 0 ∧ r = .returned (.tuple #[.slice none 0 0, .int .i64 (checkP l : Nat)])) ∨
    (checkP l = 0 ∧ ∃ A c, r = .returned (.tuple #[.slice A (putB l).length c, .int .i64 0]) ∧ w'.ownsRow W.heap.size 5 1 (.slice A (putB l).length c) (putB l).length ((putB l).map bv)))
theorem check_ok {l : List TV} (h : checkP l = 0) : TV.partsL l ≤ 4096 ∧ TV.isL l = true := by
  unfold checkP at h
  by_cases h1 : TV.partsL l ≤ 4096
  · rw [if_pos h1] at h
    cases h2 : TV.isL l with
    | true => exact ⟨h1, rfl⟩
    | false => rw [h2] at h; cases h
  · rw [if_neg h1] at h; cases h

set_option maxRecDepth 100000 in
set_option maxHeartbeats 2000000 in
theorem put_any (l : List TV) (A : Option Addr) (len c : Nat) (w0 W : World) (hlen : l.length = len) (hnm : TV.namedL l) (hW : Below w0.heap.size w0 W) (hR0 : RdM w0 A c l) :
    Calls Try.prog 8 #[.slice A len c] W (PutEnds W l) := by
  have hR := hR0.below hW
  have HCK := Lib.hid (check_any l A len c W W hlen hnm (Below.refl _ _) hR)
  have hlc : len ≤ 9223372036854775807 := by have := hR.1; have := hR.2.1; omega
  have HLEN := Lib.hid hlen
  clear hR0 hW hnm
  by_cases hck : checkP l = 0
  rotate_left
  · obtain ⟨ck, hcke⟩ : ∃ ck, checkP l = ck := ⟨_, rfl⟩
    rw [hcke] at HCK hck
    have hd : ((ck : Int) != 0) = true := by rw [bne_iff_ne]; omega
    have HCKE := Lib.hid hcke
    have HNE := Lib.hid hck
    clear hck hcke hlen
    go_enter Try.func8, Try.ntmps8
    go_wp2_with (go_at_call 18; refine HCK.out.mono ?_; rintro r V1 ⟨rfl, hb1⟩)
    go_ret2
    exact ⟨hb1, .inl ⟨by rw [HCKE.out]; exact HNE.out, by rw [HCKE.out]; rfl⟩⟩
  obtain ⟨hp, hL⟩ := check_ok hck
  have hlp := len_parts l
  rw [hlen] at hlp
  have hsz := layTs_len l hL
  rw [hck] at HCK
  have HCKZ := Lib.hid hck
  have HL := Lib.hid hL
  clear hck hL hlen
  go_enter Try.func8, Try.ntmps8
  go_upto_region 4 with (go_at_call 18; refine HCK.out.mono ?_; rintro r V1 ⟨rfl, hb1⟩)
  have HNUM := Lib.hid (num_own none (some ⟨V1.heap.size, 0, none⟩) [] [len] 0 0 1 1 (V1.alloc (.cells #[.int .u64 (len : Int)] 46)) rfl rfl (Nat.le_refl _) (by omega) (.inl rfl) (rdk_new V1 .u64 _ _ _ rfl) (by simp; omega) (by omega) (by omega))
  obtain ⟨B0, hB0⟩ : ∃ B0, ([] : List UInt8) ++ laidL [len] = B0 := ⟨_, rfl⟩
  rw [hB0] at HNUM
  have HB0 := Lib.hid (show B0 = laidB len 0 by rw [← hB0]; simp [laidL])
  clear hB0
  have hbl0 : B0.length ≤ 9 := by rw [HB0.out, laidB_len]; have := wid_le len; omega
  obtain ⟨b0, hb0⟩ : ∃ b0, B0.length = b0 := ⟨_, rfl⟩
  rw [hb0] at HNUM hbl0
  have HB0L := Lib.hid hb0
  clear hb0
  go_upto_region 5 with (go_at_call 19; refine HNUM.out.mono ?_; rintro r V2 ⟨v2, rfl, ho2, hb2⟩)
  have hb3 : Below W.heap.size W V2 := below_step (below_step hb1 (below_alloc _ _)) hb2
  have ho3 := own_lower (base' := W.heap.size) ho2 (by have := hb1.size; simp; omega)
  clear ho2 hb1 hb2 HNUM HCK
  obtain ⟨A2, c2, rfl, -⟩ : ∃ A2 c2, v2 = .slice A2 b0 c2 ∧ True := by
    rw [← HB0L.out] at ho3 ⊢
    obtain ⟨A2, c2, h, _⟩ := own_rd ho3
    exact ⟨A2, c2, h, trivial⟩
  refine wp_world (fun V => Below W.heap.size W V ∧ V.ownsRow W.heap.size 5 1 (.slice A2 b0 c2) b0 (B0.map bv)) ⟨hb3, ho3⟩ ?_
  clear hb3 ho3
  rintro V3 ⟨hb3, ho3⟩
  have HB3 := Lib.hid (And.intro hb3 ho3)
  clear hb3 ho3
  go_wp2
  go_loopw [5, 20] (fun u i wr => ∃ (k : Nat) (Ak : Option Addr) (ck : Nat), k ≤ len ∧ i = .int .i64 k ∧ u = .slice Ak (B0 ++ layTs (l.take k)).length ck ∧ wr.ownsRow W.heap.size 5 1 (.slice Ak (B0 ++ layTs (l.take k)).length ck) (B0 ++ layTs (l.take k)).length ((B0 ++ layTs (l.take k)).map bv) ∧ Below W.heap.size W wr) (fun _ i _ => len - (intOf i).toNat)
  case atStart =>
    refine ⟨0, A2, c2, Nat.zero_le _, rfl, ?_, ?_, HB3.out.1⟩
    · simp [layTs, HB0L.out]
    · simpa [layTs, HB0L.out] using HB3.out.2
  case round =>
    obtain ⟨k, Ak, ck, hk, rfl, rfl, hok, hbk⟩ := hrel
    by_cases hlt : k < len
    · have hd1 : decide (k < len) = true := by simp; omega
      have hkl : k < l.length := by rw [HLEN.out]; exact hlt
      obtain ⟨b, o, A', c', rfl, e0', e1', e2', e3', hR'⟩ := hR.item hkl
      have e0 := (hbk.cell (World.block_lt_of_cell? W _ e0')).trans e0'
      have e1 := (hbk.cell (World.block_lt_of_cell? W _ e1')).trans e1'
      have e2 := (hbk.cell (World.block_lt_of_cell? W _ e2')).trans e2'
      have e3 := (hbk.cell (World.block_lt_of_cell? W _ e3')).trans e3'
      have htk := layTs_take l k hkl
      have hpt := partsL_take l k hkl
      have hpl := partsL_take_le l (k + 1)
      have hLs : TV.isL (l.take k) = true ∧ l[k].isT = true := by
        have := HL.out
        rw [← List.take_append_drop (k + 1) l, isL_append, isL_take l k hkl, Bool.and_eq_true, Bool.and_eq_true] at this
        exact this.1
      have hlt1 := layTs_len (l.take k) hLs.1
      have hlk : (B0 ++ layTs (l.take k)).length ≤ b0 + 300 * TV.partsL (l.take k) := by rw [List.length_append, HB0L.out]; omega
      have HTK := Lib.hid (show B0 ++ layTs (l.take (k + 1)) = B0 ++ layTs (l.take k) ++ layT l[k] by rw [htk, List.append_assoc])
      have HC := Lib.hid (fun V (hV : Below wr.heap.size wr V) => lay_any l[k].parts l[k] A' c' (.slice Ak (B0 ++ layTs (l.take k)).length ck) (B0 ++ layTs (l.take k)) W V (Nat.le_refl _) (by omega) hLs.2 (below_step hbk hV) hR' (own_far hok hV) (by omega))
      obtain ⟨Bk, hBk⟩ : ∃ Bk, B0 ++ layTs (l.take k) = Bk := ⟨_, rfl⟩
      rw [hBk] at HC HTK hok
      obtain ⟨nk, hnk⟩ : ∃ nk, Bk.length = nk := ⟨_, rfl⟩
      rw [hBk, hnk]
      rw [hnk] at HC hok
      obtain ⟨Bm, hBm⟩ : ∃ Bm, Bk ++ layT l[k] = Bm := ⟨_, rfl⟩
      rw [hBm] at HC HTK
      have HBK := Lib.hid (And.intro hok hbk)
      have hq1 : (0 : Int) ≤ (k : Int) := by omega
      have hq2 : (k : Int) < (len : Int) := by omega
      clear e0' e1' e2' e3' htk hpt hpl hlt1 hlk hBk hnk hBm hok hR' hLs
      generalize l[k] = ti at *
      clear hkl
      go_wp2_with (go_at_call 20; refine (HC.out _ (below_alloc _ _)).mono ?_; rintro r V5 ⟨A5, c5, rfl, ho5, hg5⟩)
      go_roundw
      case rel =>
        refine ⟨k + 1, A5, c5, by omega, by go_num, by rw [HTK.out], by rw [HTK.out]; exact ho5, ?_⟩
        exact (below_step hbk (below_alloc _ _)).trans (hg5.below (by have := hbk.size; simp; omega) (own_far HBK.out.1 (below_alloc _ _)))
      case measure => simp [intOf]; omega
    · obtain rfl : len = k := by omega
      have hd1 : decide (len < len) = false := by simp
      have HE := Lib.hid (show B0 ++ layTs (l.take len) = putB l by rw [List.take_of_length_le (by rw [HLEN.out]; exact Nat.le_refl _), HB0.out, putB, HLEN.out])
      rw [HE.out] at hok ⊢
      have HOK := Lib.hid hok
      clear hok HE
      generalize hZ : (putB l).length = z at *
      go_wp2
      go_ret2
      exact ⟨hbk, .inr ⟨HCKZ.out, Ak, ck, by rw [hZ]; rfl, by rw [hZ]; exact HOK.out⟩⟩
end Go.Proofs.Ytommadcjemljcaa
