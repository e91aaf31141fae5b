/- The walk of MailboxAgain. -/
import Derived.Test.YthmlpiiajlfmcaaMFits
namespace Go.Proofs.Ythmlpiiajlfmcaa
open Go.RowKit
set_option linter.unusedVariables false

/-- A box whose terms are terms. -/
def AgBox (w0 : World) (pb : Nat) (v : World) : Prop := ∃ (A : Option Addr) (cap : Nat) (es : List (TE w0)), BoxAt w0 pb A cap es v ∧ ∀ e ∈ es, checkP [e.t] = 0
theorem AgBox.bel {w0 v : World} {pb : Nat} (h : AgBox w0 pb v) : Below w0.heap.size w0 v := by
  obtain ⟨A, cap, es, h, _⟩ := h
  exact BoxAt.bel h
theorem AgBox.keep {w0 v v' : World} {pb : Nat} (h : AgBox w0 pb v) (hb : Below v.heap.size v v') : AgBox w0 pb v' := by
  obtain ⟨A, cap, es, h, hc⟩ := h
  exact ⟨A, cap, es, h.keep hb, hc⟩
theorem ag_take {w0 v : World} {pb : Nat} (h : AgBox w0 pb v) (x : Int) :
    Calls Try.prog 15 #[.pointer (some ⟨pb, 0, none⟩), .int .i64 x] v fun r w' => (∃ u, r = .returned u) ∧ AgBox w0 pb w' := by
  obtain ⟨A, cap, es, hb, hp⟩ := h
  exact (btake_any hb x).mono fun r w' ⟨t, A', c', hr, _, _, hb'⟩ => ⟨⟨_, hr⟩, A, cap, _, hb', fun e he => hp e ((takeL_sub es x).subset he)⟩
theorem ag_put {w0 v : World} {pb : Nat} (h : AgBox w0 pb v) (t : TV) (A : Option Addr) (c : Nat) (hR : RdM w0 A c t.items) (hn : t.named) :
    Calls Try.prog 13 #[.pointer (some ⟨pb, 0, none⟩), .agg #[.int .i64 t.kind, .int .i64 t.int, .string ⟨t.name.toArray⟩, .slice A t.items.length c]] v fun r w' => (∃ u, r = .returned u) ∧ AgBox w0 pb w' := by
  obtain ⟨A0, cap, es, hb, hp⟩ := h
  refine (bput_any hb ⟨t, A, c, hR⟩ hn).mono fun r w' ⟨hr, A2, cap2, hb2, _⟩ => ⟨⟨_, hr⟩, A2, cap2, _, hb2, fun e he => ?_⟩
  unfold putS at he
  split at he
  · rename_i hz
    rcases List.mem_append.1 he with h | h
    · exact hp e h
    · simp only [List.mem_cons, List.mem_nil_iff, or_false] at h
      subst h
      unfold putE at hz
      by_cases hc : checkP [t] = 0
      · exact hc
      · rw [if_pos hc] at hz; exact absurd hz hc
  · exact hp e he
theorem ag_new {w0 W w' : World} {r : Ending} (h : BNewEnds w0 W [] r w') : ∃ pb, r = .returned (.tuple #[.pointer (some ⟨pb, 0, none⟩), .int .i64 0]) ∧ AgBox w0 pb w' := by
  obtain ⟨_, h⟩ := h
  rcases h with ⟨h, _⟩ | ⟨_, pb, A, cap, es, hr, hes, hb, _⟩
  · exact absurd rfl h
  · obtain rfl := List.map_eq_nil_iff.1 hes
    exact ⟨pb, hr, A, cap, [], hb, fun e he => by simp at he⟩
/-- A box that has these terms. -/
def LBox (pb : Nat) (l : List TV) (v : World) : Prop := ∃ (w0 : World) (A : Option Addr) (cap : Nat) (es : List (TE w0)), BoxAt w0 pb A cap es v ∧ es.map (·.t) = l
theorem LBox.keep {v v' : World} {pb : Nat} {l : List TV} (h : LBox pb l v) (hb : Below v.heap.size v v') : LBox pb l v' := by
  obtain ⟨w0, A, cap, es, h, hc⟩ := h
  exact ⟨w0, A, cap, es, h.keep hb, hc⟩
theorem lbox_parts {v : World} {pb : Nat} {l : List TV} (h : LBox pb l v) : Calls Try.prog 21 #[.pointer (some ⟨pb, 0, none⟩)] v fun r w' => r = .returned (.int .i64 (TV.partsL l : Nat)) ∧ v = w' := by
  obtain ⟨w0, A, cap, es, h, rfl⟩ := h
  exact (bparts_any h).mono fun r w' ⟨hr, hw⟩ => ⟨hr, hw⟩
theorem lbox_len {v : World} {pb : Nat} {l : List TV} (h : LBox pb l v) : Calls Try.prog 20 #[.pointer (some ⟨pb, 0, none⟩)] v fun r w' => r = .returned (.int .i64 (l.length : Nat)) ∧ v = w' := by
  obtain ⟨w0, A, cap, es, h, rfl⟩ := h
  exact (blen_any h).mono fun r w' ⟨hr, hw⟩ => ⟨by rw [hr, List.length_map], hw⟩
theorem lbox_all {v : World} {pb : Nat} {l : List TV} (h : LBox pb l v) :
    Calls Try.prog 18 #[.pointer (some ⟨pb, 0, none⟩)] v fun r w' => ∃ A c, r = .returned (.tuple #[.slice A l.length c, .bool true]) ∧ RdM w' A c l ∧ Below v.heap.size v w' := by
  obtain ⟨w0, A, cap, es, h, rfl⟩ := h
  exact (all_box h).mono fun r w' ⟨A', c', hr, hm, _, hbl⟩ => ⟨A', c', by rw [hr, List.length_map], hm, hbl⟩
/-- All of the first box; what is there finds room in another one. -/
theorem ag_all {w0 v : World} {pb : Nat} (h : AgBox w0 pb v) : ∃ l : List TV, LBox pb l v ∧ newT [] l = (0, l) ∧ TV.namedL l ∧ l.length ≤ 1000 ∧ TV.partsL l ≤ 20000 ∧ ∀ t ∈ l, t.parts ≤ 4096 := by
  obtain ⟨A, cap, es, hb, hp⟩ := h
  have hn := newT_ok (es.map (·.t)) [] (fun t ht => by
    obtain ⟨e, he, rfl⟩ := List.mem_map.1 ht
    exact hp e he) (by simpa using hb.ok.len) (by have := hb.ok.parts; simpa [TV.partsL, bparts] using this)
  refine ⟨es.map (fun e : TE w0 => e.t), ⟨w0, A, cap, es, hb, rfl⟩, by simpa using hn, ?_, by simpa using hb.ok.len, (show bparts es ≤ 20000 from hb.ok.parts), fun t ht => ?_⟩
  · have := hb.ok.named
    clear hn hb hp
    induction es with
    | nil => simp [TV.namedL]
    | cons e r ih =>
      simp only [List.map_cons, TV.namedL]
      exact ⟨this e List.mem_cons_self, ih fun e he => this e (List.mem_cons_of_mem _ he)⟩
  · obtain ⟨e, he, rfl⟩ := List.mem_map.1 ht
    exact hb.ok.each e he
theorem lbox_new {l : List TV} {A : Option Addr} {c n : Nat} {W : World} (hlen : l.length = n) (hz : newT [] l = (0, l)) (hnm : TV.namedL l) (hR : RdM W A c l) :
    Calls Try.prog 10 #[.slice A n c] W fun r w' => ∃ pb, r = .returned (.tuple #[.pointer (some ⟨pb, 0, none⟩), .int .i64 0]) ∧ LBox pb l w' ∧ Below W.heap.size W w' :=
  (bnew_any l A n c W W hlen hnm (Below.refl _ _) hR).mono fun r w' ⟨hb, h⟩ => by
    rw [hz] at h
    rcases h with ⟨h, _⟩ | ⟨_, pb, A', cap, es, hr, hes, hbx, _⟩
    · exact absurd rfl h
    · exact ⟨pb, hr, ⟨W, A', cap, es, hbx, hes⟩, hb⟩

set_option maxRecDepth 100000 in
set_option maxHeartbeats 2000000 in
theorem mailboxAgain_any (l : List MAct) (A : Option Addr) (len c : Nat) (w : World) (hlen : l.length = len) (hR : RdMA w A c l) (hnm : ∀ a ∈ l, a.t.named) :
    Calls Try.prog 7 #[.slice A len c] w (Yes w) := by
  have HFI := Lib.hid (mfits_any l A len c w hlen hR)
  have HLEN := Lib.hid hlen
  have HNM := Lib.hid hnm
  have hlc : len ≤ 9223372036854775807 := by have := hR.1; have := hR.2.1; omega
  clear hlen hnm
  have HLIVE : Hid (∀ V, Below w.heap.size w V → Calls Try.prog 9 #[] V fun e w' => e = .returned (.bool true) ∧ Below w.heap.size w w') := fun V hb => (live_any V).mono fun e w' ⟨he, h⟩ => ⟨he, below_step hb h⟩
  go_enter Try.func7, Try.ntmps7
  go_upto_if 16 with (go_at_call 8; refine HFI.out.mono ?_; rintro e w1 ⟨b, rfl, h200, hb1⟩)
  cases b
  · go_wp2_with (go_at_call 9; refine (HLIVE.out _ hb1).mono ?_; rintro e w' ⟨rfl, hb9⟩)
    go_ret
    exact ⟨rfl, hb9⟩
  have HNEW := Lib.hid ((bnew_any [] none 0 0 w w1 rfl (by simp [TV.namedL]) hb1 ⟨Nat.le_refl _, by omega, .inl rfl⟩).mono fun r w' h => ag_new h)
  go_upto_region 6 with (first
    | (go_at_call 10; refine HNEW.out.mono ?_; rintro r w3 ⟨pb, rfl, hbx⟩)
    | (go_at_call 12; refine (num_any _ _).mono ?_; rintro e w' ⟨rfl, rfl⟩))
  clear HNEW hb1
  go_wp2
  go_loopw [5] (fun i wr => ∃ (j : Nat), j ≤ len ∧ i = .int .i64 j ∧ AgBox w pb wr) (fun i _ => len - (intOf i).toNat)
  case atStart => exact ⟨0, Nat.zero_le _, rfl, hbx⟩
  case round =>
    obtain ⟨j, hj, rfl, hB⟩ := hrel
    clear hbx
    have hb := hB.bel
    by_cases hlt : j < len
    · have hd1 : decide (j < len) = true := by simpa using hlt
      have hkl : j < l.length := by rw [HLEN.out]; exact hlt
      obtain ⟨b, o, A1, c1, rfl, h0, h1, h2, h3, h4, h5, hR1⟩ := hR.item hkl
      have e0 := (hb.cell (World.block_lt_of_cell? w _ h0)).trans h0
      have e1 := (hb.cell (World.block_lt_of_cell? w _ h1)).trans h1
      have e2 := (hb.cell (World.block_lt_of_cell? w _ h2)).trans h2
      have e3 := (hb.cell (World.block_lt_of_cell? w _ h3)).trans h3
      have e4 := (hb.cell (World.block_lt_of_cell? w _ h4)).trans h4
      have e5 := (hb.cell (World.block_lt_of_cell? w _ h5)).trans h5
      have hnm := HNM.out _ (List.getElem_mem hkl)
      generalize l[j] = a at *
      obtain ⟨ak, t, an⟩ := a
      simp only at h1 h2 h3 h4 e0 e1 e2 e3 e4 e5 hR1 hnm
      have HPU := Lib.hid (ag_put hB t A1 c1 hR1 hnm)
      have HTA := Lib.hid (ag_take hB an)
      have q1 : (0 : Int) ≤ (j : Int) := by omega
      have q2 : (j : Int) < (len : Int) := by omega
      clear h0 h1 h2 h3 h4 h5 hkl
      by_cases hk0 : ak = 0
      · subst hk0
        go_wp2_with (go_at_call 13; refine HPU.out.mono ?_; rintro r w5 ⟨⟨u, rfl⟩, hB5⟩)
        go_roundw
        case rel => exact ⟨j + 1, by omega, by go_num, hB5⟩
        case measure => simp [intOf]; omega
      · have hd2 : (ak == 0) = false := by simpa using hk0
        go_wp2_with (go_at_call 15; refine HTA.out.mono ?_; rintro r w5 ⟨⟨u, rfl⟩, hB5⟩)
        go_roundw
        case rel => exact ⟨j + 1, by omega, by go_num, hB5⟩
        case measure => simp [intOf]; omega
    · obtain rfl : j = len := by omega
      have hd1 : decide (j < j) = false := by simp
      obtain ⟨l9, hL, hn9, hnm9, hl9, hp9, he9⟩ := ag_all hB
      obtain ⟨n9, hn9l⟩ : ∃ n9, l9.length = n9 := ⟨_, rfl⟩
      have HAL := Lib.hid (lbox_all hL)
      have HNW := Lib.hid (fun A' c' W (hR : RdM W A' c' l9) => lbox_new hn9l hn9 hnm9 hR)
      rw [hn9l] at HAL hl9
      have HBW := Lib.hid hb
      clear hb hn9 hnm9
      go_upto_region 13 with (go_at_call 18; refine HAL.out.mono ?_; rintro r w5 ⟨A5, c5, rfl, hR5, hb5⟩)
      go_upto_region 16 with (first
        | (go_at_call 10; refine (HNW.out _ _ _ hR5).mono ?_; rintro r w6 ⟨pb6, rfl, hL6, hb6⟩)
        | (go_at_call 12; refine (num_any _ _).mono ?_; rintro e w' ⟨rfl, rfl⟩))
      have HAL6 := Lib.hid (lbox_all hL6)
      rw [hn9l] at HAL6
      go_upto_region 17 with (go_at_call 18; refine HAL6.out.mono ?_; rintro r w7 ⟨A7, c7, rfl, hR7, hb7⟩)
      have HLA := Lib.hid (((hL.keep hb5).keep hb6).keep hb7)
      have HLB := Lib.hid (hL6.keep hb7)
      have hr5 := (hR5.below hb6).below hb7
      have HX := Lib.hid (below_step (below_step (below_step HBW.out hb5) hb6) hb7)
      clear hL hL6 hR5 hb5 hb6 hb7 HNW HAL HAL6 HFI HBW hB
      have HRZ := Lib.hid (fun V (hV : Below w7.heap.size w7 V) (t : TV) (A : Option Addr) (c : Nat) (hR : RdM w7 A c t.items) => rsize_any t A c w7 V hV hR)
      have HRW : Hid (∀ V, Below w7.heap.size w7 V → Calls Try.prog 19 #[.slice A5 n9 c5, .slice A7 n9 c7] V fun e w' => e = .returned (.bool true) ∧ Below V.heap.size V w') := fun V hV => (rows_any l9 l9 A5 n9 c5 A7 n9 c7 w7 V hn9l hn9l hV hr5 hR7).mono fun e w' ⟨he, h⟩ => ⟨by rw [he, rowsB_self], h⟩
      go_wp2
      go_loopw [12, 13] (fun u i wr => ∃ (k : Nat), k ≤ n9 ∧ i = .int .i64 k ∧ u = .int .i64 (TV.partsL (l9.take k) : Nat) ∧ Below w7.heap.size w7 wr) (fun _ i _ => n9 - (intOf i).toNat)
      case atStart => exact ⟨0, Nat.zero_le _, rfl, rfl, Below.refl _ _⟩
      case round =>
        obtain ⟨k, hk, rfl, rfl, hbk⟩ := hrel
        by_cases hlt9 : k < n9
        · have hd9 : decide (k < n9) = true := by simpa using hlt9
          have hkl : k < l9.length := by omega
          have htk := partsL_take l9 k hkl
          have hle := partsL_take_le l9 (k + 1)
          have h40 := he9 _ (List.getElem_mem hkl)
          obtain ⟨b, o, A1, c1, rfl, h0, h1, h2, h3, hR1⟩ := hr5.item hkl
          have e0 := (hbk.cell (World.block_lt_of_cell? w7 _ h0)).trans h0
          have e1 := (hbk.cell (World.block_lt_of_cell? w7 _ h1)).trans h1
          have e2 := (hbk.cell (World.block_lt_of_cell? w7 _ h2)).trans h2
          have e3 := (hbk.cell (World.block_lt_of_cell? w7 _ h3)).trans h3
          generalize l9[k] = t at *
          have HZ := Lib.hid (HRZ.out wr hbk t A1 c1 hR1)
          rw [show sizeP t.parts = t.parts by unfold sizeP; rw [if_pos h40]] at HZ
          obtain ⟨p1, hp1⟩ : ∃ p1, TV.partsL (l9.take k) = p1 := ⟨_, rfl⟩
          rw [hp1] at htk ⊢
          have HTK := Lib.hid htk
          have hs1 : p1 + t.parts ≤ 20000 := by omega
          have q1 : (0 : Int) ≤ (k : Int) := by omega
          have q2 : (k : Int) < (n9 : Int) := by omega
          clear h0 h1 h2 h3 hkl htk hle hp1
          go_wp2_with (go_at_call 24; refine HZ.out.mono ?_; rintro e w8 ⟨rfl, hb8⟩)
          go_roundw
          case rel => exact ⟨k + 1, by omega, by go_num, by rw [HTK.out]; go_num, below_step hbk hb8⟩
          case measure => simp [intOf]; omega
        · obtain rfl : k = n9 := by omega
          have hd9 : decide (k < k) = false := by simp
          rw [List.take_of_length_le (by omega)]
          have HPA : Hid (∀ V, Below w7.heap.size w7 V → _) := fun V hV => lbox_parts (HLA.out.keep hV)
          have HPB : Hid (∀ V, Below w7.heap.size w7 V → _) := fun V hV => lbox_parts (HLB.out.keep hV)
          have HLN : Hid (∀ V, Below w7.heap.size w7 V → Calls Try.prog 20 #[.pointer (some ⟨pb, 0, none⟩)] V fun r w' => r = .returned (.int .i64 (k : Nat)) ∧ V = w') := fun V hV => (lbox_len (HLA.out.keep hV)).mono fun r w' ⟨hr, h⟩ => ⟨by rw [hr, hn9l], h⟩
          generalize TV.partsL l9 = p9 at *
          clear hn9l
          go_wp2_with (first
            | (go_at_call 19; refine (HRW.out _ hbk).mono ?_; rintro e w8 ⟨rfl, hb8⟩)
            | (go_at_call 21; refine (HPA.out _ (below_step hbk hb8)).mono ?_; rintro e w' ⟨rfl, rfl⟩)
            | (go_at_call 21; refine (HPB.out _ (below_step hbk hb8)).mono ?_; rintro e w' ⟨rfl, rfl⟩)
            | (go_at_call 20; refine (HLN.out _ (below_step hbk hb8)).mono ?_; rintro e w' ⟨rfl, rfl⟩)
            | (go_at_call 9; refine (HLIVE.out _ (below_step HX.out (below_step hbk hb8))).mono ?_; rintro e w' ⟨rfl, hb7⟩))
          go_ret
          exact ⟨rfl, hb7⟩
end Go.Proofs.Ythmlpiiajlfmcaa
