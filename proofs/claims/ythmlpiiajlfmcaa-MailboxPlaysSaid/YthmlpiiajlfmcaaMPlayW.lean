/- The walk of MailboxPlays. -/
import Derived.Test.YthmlpiiajlfmcaaMPlay
namespace Go.Proofs.Ythmlpiiajlfmcaa
open Go.RowKit
set_option linter.unusedVariables false

/-- Both News of what is alike. -/
theorem play_ok {w V : World} {l1 : List TV} (hz : (newT [] l1).1 = 0) (hnm1 : TV.namedL l1) {A : Option Addr} {n c : Nat} (hlen : l1.length = n) (hR : RdM V A c l1) :
    Calls Try.prog 10 #[.slice A n c] V fun r w' => ∃ pb, r = .returned (.tuple #[.pointer (some ⟨pb, 0, none⟩), .int .i64 0]) ∧ BNewEnds V V l1 r w' :=
  (bnew_any l1 A n c V V hlen hnm1 (Below.refl _ _) hR).mono fun r w' h => by
    have h0 := h
    obtain ⟨_, h⟩ := h
    rcases h with ⟨h1, _⟩ | ⟨_, pb, A1, c1, es, h2, _⟩
    · exact absurd hz h1
    · exact ⟨pb, h2, h0⟩
theorem play_no {V : World} {l1 : List TV} (hz : (newT [] l1).1 ≠ 0) (hnm1 : TV.namedL l1) {A : Option Addr} {n c : Nat} (hlen : l1.length = n) (hR : RdM V A c l1) :
    Calls Try.prog 10 #[.slice A n c] V fun r w' => r = .returned (.tuple #[.pointer none, .int .i64 ((newT [] l1).1 : Nat)]) ∧ Below V.heap.size V w' :=
  (bnew_any l1 A n c V V hlen hnm1 (Below.refl _ _) hR).mono fun r w' ⟨hb, h⟩ => by
    rcases h with ⟨_, h2⟩ | ⟨h1, _⟩
    · exact ⟨h2, hb⟩
    · exact absurd h1 hz
theorem play_rno {V : World} {l1 : List TV} (hz : (newT [] l1).1 ≠ 0) (hnm1 : TV.namedL l1) {A : Option Addr} {n c : Nat} (hlen : l1.length = n) (hR : RdM V A c l1) :
    Calls Try.prog 11 #[.slice A n c] V fun r w' => r = .returned (.tuple #[.pointer none, .int .i64 ((newT [] l1).1 : Nat)]) ∧ Below V.heap.size V w' :=
  (rnew_any l1 A n c V V hlen hnm1 (Below.refl _ _) hR).mono fun r w' ⟨hb, h⟩ => by
    rcases h with ⟨_, h2⟩ | ⟨h1, _⟩
    · exact ⟨h2, hb⟩
    · exact absurd h1 hz
theorem play_rok {V V1 : World} {l1 : List TV} (hz : (newT [] l1).1 = 0) (hnm1 : TV.namedL l1) {A : Option Addr} {n c pb : Nat} (hlen : l1.length = n) (hR : RdM V A c l1) (hb : BNewEnds V V l1 (.returned (.tuple #[.pointer (some ⟨pb, 0, none⟩), .int .i64 0])) V1) :
    Calls Try.prog 11 #[.slice A n c] V1 fun r w' => ∃ pr, r = .returned (.tuple #[.pointer (some ⟨pr, 0, none⟩), .int .i64 0]) ∧ Alike V pb pr w' :=
  (rnew_any l1 A n c V V1 hlen hnm1 hb.1 hR).mono fun r w' h => by
    rcases alike_new (A := A) hb h with ⟨h1, _⟩ | ⟨pb', pr, h1, h2, h3⟩
    · exact absurd hz h1
    · obtain rfl : pb = pb' := by
        injection h1 with h1
        injection h1 with h1
        simpa using h1
      exact ⟨pr, h2, h3⟩

set_option maxRecDepth 100000 in
set_option maxHeartbeats 4000000 in
theorem mailboxPlays_any (l : List MAct) (A : Option Addr) (len c : Nat) (l1 : List TV) (A1 : Option Addr) (len1 c1 : Nat) (w : World) (hlen : l.length = len) (hR : RdMA w A c l) (hnm : ∀ a ∈ l, a.t.named) (hlen1 : l1.length = len1) (hR1 : RdM w A1 c1 l1) (hnm1 : TV.namedL l1) :
    Calls Try.prog 3 #[.slice A len c, .slice A1 len1 c1] w (Yes w) := by
  have HFI := Lib.hid (mfits_any l A len c w hlen hR)
  have HLEN := Lib.hid hlen
  have HLEN1 := Lib.hid hlen1
  have HNM := Lib.hid hnm
  have HNM1 := Lib.hid hnm1
  have hlc : len ≤ 9223372036854775807 := by have := hR.1; have := hR.2.1; omega
  have hlc1 : len1 ≤ 9223372036854775807 := by have := hR1.1; have := hR1.2.1; omega
  clear hlen hnm hlen1 hnm1
  have HLIVE : Hid (∀ V, Below w.heap.size w V → Calls Try.prog 9 #[] V fun e w' => e = .returned (.bool true) ∧ Below w.heap.size w w') := fun V hb => (live_any V).mono fun e w' ⟨he, h⟩ => ⟨he, below_step hb h⟩
  obtain ⟨es, hes, hcs⟩ := rdm_te hR1
  have HES := Lib.hid hes
  have HCS := Lib.hid hcs
  have hel : es.length = len1 := by rw [← HLEN1.out, ← hes, List.length_map]
  have HEL := Lib.hid hel
  clear hes hcs hel
  go_enter Try.func3, Try.ntmps3
  go_wp2_with (fail)
  refine HFI.out.mono ?_
  rintro e w1 ⟨b, rfl, h200, hb1⟩
  cases b
  · go_wp2_with (go_at_call 9; refine (HLIVE.out _ hb1).mono ?_; rintro e w' ⟨rfl, hb9⟩)
    go_ret
    exact ⟨rfl, hb9⟩
  by_cases h40 : len1 ≤ 40
  rotate_left
  · have d1 : decide ((40 : Int) < (len1 : Int)) = true := by simp; omega
    go_wp2_with (go_at_call 9; refine (HLIVE.out _ hb1).mono ?_; rintro e w' ⟨rfl, hb9⟩)
    go_ret
    exact ⟨rfl, hb9⟩
  have d1 : decide ((40 : Int) < (len1 : Int)) = false := by simp; omega
  have hl200 := h200 rfl
  have HCS1 := Lib.hid (HCS.out.below (below_step hb1 (below_alloc _ (.cells #[] 35))))
  have HO1 := Lib.hid (own_made (W := w1) w1.heap.size 35 4 (Nat.le_refl _))
  have HCL := Lib.hid (show (cellsL es).length = len1 * 4 by rw [cellsL_len, HEL.out])
  have h9 : 0 + len1 ≤ maxLen := by unfold maxLen; omega
  have h8 : (0 + len1) * 56 ≤ 140737488355328 := by omega
  clear h200
  by_cases hz : (newT [] l1).1 = 0
  rotate_left
  · have HNO : Hid (∀ V A c, RdM V A c l1 → _) := fun V A c hR => play_no hz HNM1.out HLEN1.out hR
    have HRNO : Hid (∀ V A c, RdM V A c l1 → _) := fun V A c hR => play_rno hz HNM1.out HLEN1.out hR
    obtain ⟨ez, hez⟩ : ∃ ez, (newT [] l1).1 = ez := ⟨_, rfl⟩
    rw [hez] at HNO HRNO hz
    have dz : ((ez : Int) != 0) = true := by rw [bne_iff_ne]; omega
    clear hz hez
    go_wp2_with (first
      | (at_builtin; refine wpList_app termsT rfl (.tmp 26) (.tmp 27) rfl w1.heap.size (.slice (some ⟨w1.heap.size, 0, none⟩) 0 0) 0 [] rfl HO1.out A1 len1 c1 (cellsL es) rfl HCL.out HCS1.out (cellsL_one' es) h9 h8 (by simp) ?_; intro v6 w6 ho6 hg6 _; rw [Nat.zero_add, List.nil_append] at ho6; obtain ⟨A6, c6, rfl⟩ := own_form ho6; have hb6 := below_step hb1 ((below_alloc w1 (.cells #[] 35)).grown hg6 (by simp) (fun k e9 => by simp [Value.ownBlock] at e9; omega)); have hR6 := rdm_of_own ho6 HEL.out hb6; rw [HES.out] at hR6)
      | (go_at_call 10; refine (HNO.out _ _ _ hR6).mono ?_; rintro r w7 ⟨rfl, hb7⟩)
      | (go_at_call 11; refine (HRNO.out _ _ _ (hR1.below (below_step hb6 hb7))).mono ?_; rintro r w8 ⟨rfl, hb8⟩)
      | (go_at_call 12; refine (num_any _ _).mono ?_; rintro e w' ⟨rfl, rfl⟩))
    refine wp_loop_rounds 1 ?_
    rw [rounds_succ]
    have hb9 := below_step (below_step hb6 hb7) hb8
    by_cases h0 : 0 < len
    · have d0 : decide (0 < (len : Int)) = true := by simp; omega
      go_wp2_with (go_at_call 9; refine (HLIVE.out _ hb9).mono ?_; rintro e w' ⟨rfl, hb10⟩)
      go_ret
      exact ⟨rfl, hb10⟩
    · have d0 : decide (0 < (len : Int)) = false := by simp; omega
      go_wp2_with (go_at_call 9; refine (HLIVE.out _ hb9).mono ?_; rintro e w' ⟨rfl, hb10⟩)
      go_ret
      exact ⟨rfl, hb10⟩
  have HNEW : Hid (∀ V A c, RdM V A c l1 → _) := fun V A c hR => play_ok (w := w) hz HNM1.out HLEN1.out hR
  have HRNEW : Hid (∀ V V1 A c pb, RdM V A c l1 → BNewEnds V V l1 (.returned (.tuple #[.pointer (some ⟨pb, 0, none⟩), .int .i64 0])) V1 → _) := fun V V1 A c pb hR hb => play_rok hz HNM1.out HLEN1.out hR hb
  clear hz
  go_wp2_with (first
    | (at_builtin; refine wpList_app termsT rfl (.tmp 26) (.tmp 27) rfl w1.heap.size (.slice (some ⟨w1.heap.size, 0, none⟩) 0 0) 0 [] rfl HO1.out A1 len1 c1 (cellsL es) rfl HCL.out HCS1.out (cellsL_one' es) h9 h8 (by simp) ?_; intro v6 w6 ho6 hg6 _; rw [Nat.zero_add, List.nil_append] at ho6; obtain ⟨A6, c6, rfl⟩ := own_form ho6; have hb6 := below_step hb1 ((below_alloc w1 (.cells #[] 35)).grown hg6 (by simp) (fun k e9 => by simp [Value.ownBlock] at e9; omega)); have hR6 := rdm_of_own ho6 HEL.out hb6; rw [HES.out] at hR6)
    | (go_at_call 10; refine (HNEW.out _ _ _ hR6).mono ?_; rintro r w7 ⟨pb, rfl, hb7⟩)
    | (go_at_call 11; refine (HRNEW.out _ _ _ _ _ (hR1.below hb6) hb7).mono ?_; rintro r w8 ⟨pr, rfl, hAl⟩)
    | (go_at_call 12; refine (num_any _ _).mono ?_; rintro e w' ⟨rfl, rfl⟩))
  have HB6 := Lib.hid hb6
  clear HNEW HRNEW HCS1 HO1 HCL HCS HFI h9 h8 hg6 ho6 hR6 hb7 hb6 hb1
  go_loopw [9] (fun i v => ∃ (j : Nat), j ≤ len ∧ i = .int .i64 j ∧ Alike w6 pb pr v) (fun i _ => len - (intOf i).toNat)
  case atStart => exact ⟨0, Nat.zero_le _, rfl, hAl⟩
  case round =>
    obtain ⟨j, hj, rfl, es1, es2, hmap, hB⟩ := hrel
    clear hAl
    have hb := below_step HB6.out hB.bel
    by_cases hlt : j < len
    · have hd1 : decide (j < len) = true := by simpa using hlt
      have hkl : j < l.length := by rw [HLEN.out]; exact hlt
      obtain ⟨b, o, A1', c1', rfl, h0, h1, h2, h3, h4, h5, hR9⟩ := hR.item hkl
      have hnm := HNM.out _ (List.getElem_mem hkl)
      generalize l[j] = a at *
      obtain ⟨ak, t, an⟩ := a
      simp only at h0 h1 h2 h3 h4 h5 hR9 hnm
      have HS : Hid (∀ V, Below w.heap.size w V → V.cell? ⟨b, o + j * 6, none⟩ = some (.int .i64 ak) ∧ V.cell? ⟨b, o + j * 6 + 1, none⟩ = some (.int .i64 t.kind) ∧ V.cell? ⟨b, o + j * 6 + 2, none⟩ = some (.int .i64 t.int) ∧ V.cell? ⟨b, o + j * 6 + 3, none⟩ = some (.string ⟨t.name.toArray⟩) ∧ V.cell? ⟨b, o + j * 6 + 4, none⟩ = some (.slice A1' t.items.length c1') ∧ V.cell? ⟨b, o + j * 6 + 5, none⟩ = some (.int .i64 an)) := fun V hV =>
        ⟨(hV.cell (World.block_lt_of_cell? w _ h0)).trans h0, (hV.cell (World.block_lt_of_cell? w _ h1)).trans h1, (hV.cell (World.block_lt_of_cell? w _ h2)).trans h2, (hV.cell (World.block_lt_of_cell? w _ h3)).trans h3, (hV.cell (World.block_lt_of_cell? w _ h4)).trans h4, (hV.cell (World.block_lt_of_cell? w _ h5)).trans h5⟩
      have HRI := Lib.hid (hR9.below HB6.out)
      obtain ⟨e0, e1, e2, e3, e4, e5⟩ := HS.out wr hb
      have HMAP := Lib.hid hmap
      have HBB := Lib.hid hB
      have q1 : (0 : Int) ≤ (j : Int) := by omega
      have q2 : (j : Int) < (len : Int) := by omega
      clear h0 h1 h2 h3 h4 h5 hkl hR9 hmap hB
      by_cases hk0 : ak = 0
      case' pos =>
        subst hk0
        obtain ⟨hpe, hps⟩ := alike_put (e := ⟨t, A1', c1', HRI.out⟩) HMAP.out
        have HPU := Lib.hid (both_put (HBB.out.keep (Below.refl _ _).drew) ⟨t, A1', c1', HRI.out⟩ hnm)
        have HRP := Lib.hid (fun V fs (h : Both w6 pb pr fs es2 V) => both_rput h ⟨t, A1', c1', HRI.out⟩ hnm)
        rw [hpe] at HPU
        obtain ⟨pe, hpe2⟩ : ∃ pe, putE es2 t = pe := ⟨_, rfl⟩
        simp only at HPU HRP
        rw [hpe2] at HPU HRP
        have HPS := Lib.hid hps
        have HS4 : Hid (∀ V, Below w.heap.size w V → V.cell? ⟨b, o + j * 6 + 1, none⟩ = some (.int .i64 t.kind) ∧ V.cell? ⟨b, o + j * 6 + 2, none⟩ = some (.int .i64 t.int) ∧ V.cell? ⟨b, o + j * 6 + 3, none⟩ = some (.string ⟨t.name.toArray⟩) ∧ V.cell? ⟨b, o + j * 6 + 4, none⟩ = some (.slice A1' t.items.length c1')) := fun V hV => by
          obtain ⟨_, k1, k2, k3, k4, _⟩ := HS.out V hV
          exact ⟨k1, k2, k3, k4⟩
        have hbd : Below w.heap.size w wr.drew := hb.drew
        have HBD := Lib.hid hbd
        clear hpe hps hpe2 hbd
        go_upto_region 11 with (fail)
        go_region_held3 (fun V => V.cell? ⟨b, o + j * 6 + 1, none⟩ = some (.int .i64 t.kind) ∧ V.cell? ⟨b, o + j * 6 + 2, none⟩ = some (.int .i64 t.int) ∧ V.cell? ⟨b, o + j * 6 + 3, none⟩ = some (.string ⟨t.name.toArray⟩) ∧ V.cell? ⟨b, o + j * 6 + 4, none⟩ = some (.slice A1' t.items.length c1')) (first | exact HS4.out _ hq6 | exact HS4.out _ hq5 | exact HS4.out _ HBD.out) ((first
          | (go_at_call 12; refine (num_any _ _).mono ?_; rintro e w' ⟨rfl, rfl⟩)
          | (go_at_call 13; refine HPU.out.mono ?_; rintro r w5 ⟨rfl, hB5⟩; have hq5 := below_step HB6.out hB5.bel)
          | (go_at_call 14; refine (HRP.out _ _ hB5).mono ?_; rintro r w6' ⟨rfl, hB6'⟩; have hq6 := below_step HB6.out hB6'.bel)))
        have hAlB := And.intro HPS.out hB6'
        clear HPU HRP HPS HS4 HBD hB5 hB6' hq5 hq6 HBB HMAP e0 e1 e2 e3 e4 e5
        go_upto_region 17 with (fail)
        refine wp_world (fun V => ∃ fs1 fs2 : List (TE w6), fs1.map (fun e : TE w6 => e.t) = fs2.map (fun e : TE w6 => e.t) ∧ Both w6 pb pr fs1 fs2 V) ⟨_, _, hAlB⟩ ?_
        clear hAlB
      case' neg =>
        have hd2 : (ak == 0) = false := by simpa using hk0
        obtain ⟨tt, htt⟩ : ∃ tt, takeT (es1.map (fun e : TE w6 => e.t)) an = tt := ⟨_, rfl⟩
        have hlen2 : es1.length = es2.length := by have := congrArg List.length HMAP.out; simpa using this
        obtain ⟨ke, hke⟩ : ∃ ke, takeE es1.length an = ke := ⟨_, rfl⟩
        have HTK : Hid (Calls Try.prog 15 #[.pointer (some ⟨pb, 0, none⟩), .int .i64 an] wr fun r w' => ∃ A' c', r = .returned (.tuple #[.agg #[.int .i64 tt.kind, .int .i64 tt.int, .string ⟨tt.name.toArray⟩, .slice A' tt.items.length c'], .int .i64 (ke : Nat)]) ∧ RdM w6 A' c' tt.items ∧ Both w6 pb pr (takeL es1 an) es2 w') := (both_take HBB.out an).mono fun r w' ⟨⟨t, A', c', h1, h2, h3⟩, h4⟩ => by
          have h5 : t = tt := h2.trans htt
          subst h5
          exact ⟨A', c', by rw [h1, hke]; rfl, h3, h4⟩
        have HRT : Hid (∀ V, Both w6 pb pr (takeL es1 an) es2 V → Calls Try.prog 16 #[.pointer (some ⟨pr, 0, none⟩), .int .i64 an] V fun r w' => ∃ A' c', r = .returned (.tuple #[.agg #[.int .i64 tt.kind, .int .i64 tt.int, .string ⟨tt.name.toArray⟩, .slice A' tt.items.length c'], .int .i64 (ke : Nat)]) ∧ RdM w6 A' c' tt.items ∧ Both w6 pb pr (takeL es1 an) (takeL es2 an) w' ∧ Fr (fun k => k = pr) V w') := fun V hV => (both_rtake hV an).mono fun r w' ⟨⟨t, A', c', h1, h2, h3⟩, h4, h5⟩ => by
          have h5 : t = tt := h2.trans (by rw [← htt, show es1.map (fun e : TE w6 => e.t) = es2.map (fun e : TE w6 => e.t) from HMAP.out])
          subst h5
          exact ⟨A', c', by rw [h1, ← hlen2, hke]; rfl, h3, h4, by assumption⟩
        have HMT := Lib.hid (alike_take an HMAP.out)
        clear htt hke hlen2 HMAP e1 e2 e3 e4
        go_upto_region 14 with (go_at_call 15; refine HTK.out.mono ?_; rintro r w3 ⟨A3, c3, rfl, hR3, hB3⟩)
        have hk3 : Blk (w3.alloc (.cells #[.int .i64 tt.kind, .int .i64 tt.int, .string ⟨tt.name.toArray⟩, .slice A3 tt.items.length c3] 35)) w3.heap.size 35 #[.int .i64 tt.kind, .int .i64 tt.int, .string ⟨tt.name.toArray⟩, .slice A3 tt.items.length c3] := Blk.new _ _ _
        have hlt3 := hB3.lt
        have hB3' := hB3.keep (below_alloc w3 (.cells #[.int .i64 tt.kind, .int .i64 tt.int, .string ⟨tt.name.toArray⟩, .slice A3 tt.items.length c3] 35))
        have HRT3 := Lib.hid (HRT.out _ hB3')
        have hne3 : w3.heap.size ≠ pr := by omega
        obtain ⟨_, _, _, _, _, e5'⟩ := HS.out _ (below_step HB6.out hB3'.bel)
        have HQ3 := Lib.hid hne3
        clear hne3
        go_upto_region 15 with (go_at_call 16; refine HRT3.out.mono ?_; rintro r w4 ⟨A4, c4, rfl, hR4, hB4, hf4⟩)
        have hk4 := hf4.blk hk3 HQ3.out
        obtain ⟨xb, hxb⟩ : ∃ xb, w3.heap.size = xb := ⟨_, rfl⟩
        obtain ⟨yb, hyb⟩ : ∃ yb, w4.heap.size = yb := ⟨_, rfl⟩
        refine wp_world (fun V => (Both w6 pb pr (takeL es1 an) (takeL es2 an) V ∧ Blk V w3.heap.size 35 #[.int .i64 tt.kind, .int .i64 tt.int, .string ⟨tt.name.toArray⟩, .slice A3 tt.items.length c3]) ∧ Blk V w4.heap.size 35 #[.int .i64 tt.kind, .int .i64 tt.int, .string ⟨tt.name.toArray⟩, .slice A4 tt.items.length c4]) ⟨⟨hB4.keep (below_alloc _ _), hk4.keep (below_alloc _ _)⟩, Blk.new _ _ _⟩ ?_
        rw [hxb, hyb]
        clear hk3 hk4 hB3 hB3' hB4 hf4 HRT3 HRT HTK hxb hyb e5' e5 e0 hlt3 HQ3
        rintro V5 ⟨⟨hB5, hx5⟩, hy5⟩
        have x0 := hx5.cell 0
        have x1 := hx5.cell 1
        have x2 := hx5.cell 2
        have x3 := hx5.cell 3
        have y0 := hy5.cell 0
        have y1 := hy5.cell 1
        have y2 := hy5.cell 2
        have y3 := hy5.cell 3
        have HSM : Hid (Calls Try.prog 17 #[.agg #[.int .i64 tt.kind, .int .i64 tt.int, .string ⟨tt.name.toArray⟩, .slice A3 tt.items.length c3], .agg #[.int .i64 tt.kind, .int .i64 tt.int, .string ⟨tt.name.toArray⟩, .slice A4 tt.items.length c4]] V5 fun e w' => e = .returned (.bool true) ∧ Below V5.heap.size V5 w') := (tsame_any tt tt A3 c3 A4 c4 w6 V5 hB5.bel hR3 hR4).mono fun e w' ⟨he, h⟩ => ⟨by rw [he, cmp_self], h⟩
        go_upto_region 17 with (first
          | (go_at_call 17; refine HSM.out.mono ?_; rintro r w9 ⟨rfl, hb9⟩)
          | (go_at_call 12; refine (num_any _ _).mono ?_; rintro e w' ⟨rfl, rfl⟩))
        refine wp_world (fun V => ∃ fs1 fs2 : List (TE w6), fs1.map (fun e : TE w6 => e.t) = fs2.map (fun e : TE w6 => e.t) ∧ Both w6 pb pr fs1 fs2 V) ⟨_, _, HMT.out, hB5.keep hb9⟩ ?_
        clear hb9 HSM x0 x1 x2 x3 y0 y1 y2 y3 hx5 hy5 hB5 hR3 hR4 HMT HBB
      all_goals
        rintro X ⟨fs1, fs2, hmp, hBX⟩
        obtain ⟨n7, hn7⟩ : ∃ n7, fs1.length = n7 := ⟨_, rfl⟩
        have hn8 : fs2.length = n7 := by have := congrArg List.length hmp; rw [List.length_map, List.length_map] at this; omega
        have hp8 : bparts fs2 = bparts fs1 := by unfold bparts; rw [show fs2.map (·.t) = fs1.map (·.t) from hmp.symm]
        obtain ⟨bp, hbp⟩ : ∃ bp, bparts fs1 = bp := ⟨_, rfl⟩
        have HAL : Hid (Calls Try.prog 18 #[.pointer (some ⟨pb, 0, none⟩)] X fun r w' => ∃ A c, r = .returned (.tuple #[.slice A n7 c, .bool true]) ∧ RdM w' A c (fs1.map (·.t)) ∧ Below X.heap.size X w') := by rw [← hn7]; exact both_all hBX
        go_upto_region 18 with (go_at_call 18; refine HAL.out.mono ?_; rintro r Y ⟨A7, c7, rfl, hR7, hb7⟩)
        have hBY := hBX.keep hb7
        obtain ⟨A8, c8, hc8, hR8⟩ := both_rd hBY
        rw [hn8] at hc8
        have HS9 : Hid (∀ V, Below Y.heap.size Y V → V.cell? ⟨pr, 0, none⟩ = some (.slice A8 n7 c8) ∧ Below Y.heap.size Y V) := fun V hV => ⟨(hV.cell (World.block_lt_of_cell? Y _ hc8)).trans hc8, hV⟩
        have HRW : Hid (∀ V, Below Y.heap.size Y V → Calls Try.prog 19 #[.slice A7 n7 c7, .slice A8 n7 c8] V fun e w' => e = .returned (.bool true) ∧ Below Y.heap.size Y w') := fun V hV =>
          (rows_any (fs1.map (·.t)) (fs2.map (·.t)) A7 n7 c7 A8 n7 c8 Y V (by rw [List.length_map, hn7]) (by rw [List.length_map, hn8]) hV hR7 hR8).mono fun e w' ⟨he, h⟩ => ⟨by rw [he, show fs1.map (·.t) = fs2.map (·.t) from hmp, rowsB_self], below_step hV h⟩
        have HLN : Hid (∀ V, Below Y.heap.size Y V → Calls Try.prog 20 #[.pointer (some ⟨pb, 0, none⟩)] V fun r w' => r = .returned (.int .i64 (n7 : Nat)) ∧ V = w') := fun V hV => (both_len (hBY.keep hV)).mono fun r w' ⟨hr, h⟩ => ⟨by rw [hr, hn7], h⟩
        have HPA : Hid (∀ V, Below Y.heap.size Y V → Calls Try.prog 21 #[.pointer (some ⟨pb, 0, none⟩)] V fun r w' => r = .returned (.int .i64 (bp : Nat)) ∧ V = w') := fun V hV => (both_parts (hBY.keep hV)).mono fun r w' ⟨hr, h⟩ => ⟨by rw [hr, hbp], h⟩
        have HRP : Hid (∀ V, Below Y.heap.size Y V → Calls Try.prog 22 #[.pointer (some ⟨pr, 0, none⟩)] V fun r w' => r = .returned (.int .i64 (bp : Nat)) ∧ Below Y.heap.size Y w') := fun V hV => (both_rparts (hBY.keep hV)).mono fun r w' ⟨hr, h⟩ => ⟨by rw [hr, hp8, hbp], below_step hV h⟩
        have HFI : Hid (∀ V, Below Y.heap.size Y V → Alike w6 pb pr V) := fun V hV => ⟨fs1, fs2, hmp, hBY.keep hV⟩
        clear hBX hBY hn7 hn8 hp8 hbp hmp hR7 hR8 hc8 HAL hb7
        go_region_held3 (fun V => V.cell? ⟨pr, 0, none⟩ = some (.slice A8 n7 c8) ∧ Below Y.heap.size Y V) (first | exact HS9.out _ hq9 | exact HS9.out _ (And.right (by assumption)) | exact HS9.out _ (Below.refl _ _).drew) ((first
          | (go_at_call 19; refine (HRW.out _ (And.right (by assumption))).mono ?_; rintro e w9 ⟨rfl, hq9⟩)
          | (go_at_call 20; refine (HLN.out _ (And.right (by assumption))).mono ?_; rintro e w' ⟨rfl, rfl⟩)
          | (go_at_call 21; refine (HPA.out _ (And.right (by assumption))).mono ?_; rintro e w' ⟨rfl, rfl⟩)
          | (go_at_call 22; refine (HRP.out _ (And.right (by assumption))).mono ?_; rintro e w9 ⟨rfl, hq9⟩)))
        go_wp2
        go_roundw
        case rel => exact ⟨j + 1, by omega, by go_num, HFI.out _ hq9⟩
        case measure => simp [intOf]; omega
    · obtain rfl : j = len := by omega
      have hd1 : decide (j < j) = false := by simp
      go_wp2_with (go_at_call 9; refine (HLIVE.out _ hb).mono ?_; rintro e w' ⟨rfl, hb10⟩)
      go_ret
      exact ⟨rfl, hb10⟩
end Go.Proofs.Ythmlpiiajlfmcaa
