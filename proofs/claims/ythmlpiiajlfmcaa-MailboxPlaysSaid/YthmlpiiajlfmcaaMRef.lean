/- The reference's box of layer 17: Parts, Put, Take, New. -/
import Derived.Test.YthmlpiiajlfmcaaMWord
import Derived.Test.YthmlpiiajlfmcaaOrd
import Derived.IntWalk
import Derived.Deep.RegionHeld3
import Derived.Deep.QuietTactic
import Derived.BigQuiet
namespace Go.Proofs.Ythmlpiiajlfmcaa
open Go.RowKit
set_option linter.unusedVariables false

/-- The reference's box in memory. -/
structure RBox (w0 : World) (pr : Nat) (A : Option Addr) (cap : Nat) (es : List (TE w0)) (W : World) : Prop where
  obj : Blk W pr 49 #[.slice A es.length cap]
  row : W.ownsRow w0.heap.size 35 4 (.slice A es.length cap) es.length (cellsL es)
  bel : Below w0.heap.size w0 W
  lo : w0.heap.size ≤ pr
  ok : BOk es
section
variable {w0 W W' : World} {pr : Nat} {A : Option Addr} {cap : Nat} {es : List (TE w0)}
theorem RBox.keep (h : RBox w0 pr A cap es W) (hb : Below W.heap.size W W') : RBox w0 pr A cap es W' := ⟨h.obj.keep hb, own_keep h.row hb, below_step h.bel hb, h.lo, h.ok⟩
theorem RBox.rd (h : RBox w0 pr A cap es W) : RdM W A cap (es.map (·.t)) := rdm_of_own h.row rfl h.bel

set_option maxRecDepth 100000 in
set_option maxHeartbeats 2000000 in
theorem rparts_in (ts : List TV) (n : Nat) (hn : ts.length = n) (hbl : n ≤ 1000) (hbp : TV.partsL ts ≤ 20000) (heach : ∀ t ∈ ts, t.parts ≤ 4096) (hR : RdM W A cap ts) (hB : Blk W pr 49 #[.slice A n cap]) :
    Calls Try.prog 22 #[.pointer (some ⟨pr, 0, none⟩)] W fun e w' => e = .returned (.int .i64 (TV.partsL ts : Nat)) ∧ Below W.heap.size W w' := by
  have HR := Lib.hid hR
  have HBX : Hid (∀ V, Below W.heap.size W V → V.cell? ⟨pr, 0, none⟩ = some (.slice A n cap)) := fun V hV => (hB.keep hV).cell 0
  have HEACH := Lib.hid heach
  have HN := Lib.hid hn
  have hlc : n ≤ 9223372036854775807 := by omega
  clear hn hR hB heach
  go_enter Try.func22, Try.ntmps22
  go_wp2
  go_loopw [3, 4] (fun u i wr => ∃ (k : Nat), k ≤ n ∧ i = .int .i64 k ∧ u = .int .i64 (TV.partsL (ts.take k) : Nat) ∧ Below W.heap.size W wr) (fun _ i _ => n - (intOf i).toNat)
  case atStart => exact ⟨0, Nat.zero_le _, rfl, rfl, Below.refl _ _⟩
  case round =>
    obtain ⟨k, hk, rfl, rfl, hbk⟩ := hrel
    have c0 := HBX.out wr hbk
    by_cases hlt9 : k < n
    · have hd9 : decide (k < n) = true := by simpa using hlt9
      have hkl : k < ts.length := by rw [HN.out]; exact hlt9
      have htk := partsL_take ts k hkl
      have hle := partsL_take_le ts (k + 1)
      have h40 : (ts[k]).parts ≤ 4096 := HEACH.out _ (List.getElem_mem _)
      obtain ⟨b, o, A1, c1, rfl, h0, h1, h2, h3, hR1⟩ := HR.out.item hkl
      have e0 := (hbk.cell (World.block_lt_of_cell? W _ h0)).trans h0
      have e1 := (hbk.cell (World.block_lt_of_cell? W _ h1)).trans h1
      have e2 := (hbk.cell (World.block_lt_of_cell? W _ h2)).trans h2
      have e3 := (hbk.cell (World.block_lt_of_cell? W _ h3)).trans h3
      generalize ts[k] = t at *
      have HZ := Lib.hid (rsize_any t A1 c1 W wr hbk hR1)
      rw [show sizeP t.parts = t.parts by unfold sizeP; rw [if_pos h40]] at HZ
      obtain ⟨p1, hp1⟩ : ∃ p1, TV.partsL (ts.take k) = p1 := ⟨_, rfl⟩
      rw [hp1] at htk ⊢
      have HTK := Lib.hid htk
      have hs1 : p1 + t.parts ≤ 20000 := by omega
      have q1 : (0 : Int) ≤ (k : Int) := by omega
      have q2 : (k : Int) < (n : Int) := by omega
      clear h0 h1 h2 h3 hkl htk hle hp1
      go_wp2_with (go_at_call 24; refine HZ.out.mono ?_; rintro e w8 ⟨rfl, hb8⟩)
      go_roundw
      case rel => exact ⟨k + 1, by omega, by go_num, by rw [HTK.out]; go_num, below_step hbk hb8⟩
      case measure => simp [intOf]; omega
    · obtain rfl : k = n := by omega
      have hd9 : decide (k < k) = false := by simp
      have HT := Lib.hid (List.take_of_length_le (l := ts) (i := k) (by rw [HN.out]; exact Nat.le_refl _))
      rw [HT.out]
      go_wp2
      go_ret
      exact ⟨rfl, hbk⟩
theorem rparts_any (h : RBox w0 pr A cap es W) : Calls Try.prog 22 #[.pointer (some ⟨pr, 0, none⟩)] W fun e w' => e = .returned (.int .i64 ((bparts es : Nat) : Int)) ∧ Below W.heap.size W w' :=
  rparts_in (es.map (fun e : TE w0 => e.t)) es.length (by simp) h.ok.len (show bparts es ≤ 20000 from h.ok.parts) (fun t ht => by
    obtain ⟨e, he, rfl⟩ := List.mem_map.1 ht
    exact h.ok.each e he) h.rd h.obj

def RPutEnds (w0 : World) (pr : Nat) (A : Option Addr) (cap : Nat) (es : List (TE w0)) (e : TE w0) (W : World) (r : Ending) (w' : World) : Prop :=
  r = .returned (.int .i64 (putE es e.t : Nat)) ∧ ∃ A' cap', RBox w0 pr A' cap' (putS es e) w' ∧ Fr (fun k => k = pr) W w' ∧ ∀ g, (Value.slice A' (putS es e).length cap').ownBlock = some g → (Value.slice A es.length cap).ownBlock = some g ∨ W.heap.size ≤ g
theorem rput_same (h : RBox w0 pr A cap es W) (e : TE w0) {r : Ending} (hne : putE es e.t ≠ 0) (hb : Below W.heap.size W W') (hr : r = .returned (.int .i64 (putE es e.t : Nat))) : RPutEnds w0 pr A cap es e W r W' := by
  have hs : putS es e = es := by unfold putS; rw [if_neg hne]
  exact ⟨hr, A, cap, by rw [hs]; exact h.keep hb, Fr.of_below hb _, by rw [hs]; exact fun g hg => .inl hg⟩

/-- The box, and a term's box. -/
structure RT (w0 : World) (pr : Nat) (A : Option Addr) (cap : Nat) (es : List (TE w0)) (e : TE w0) (W V : World) : Prop where
  box : RBox w0 pr A cap es V
  t : Blk V W.heap.size 35 e.cells.toArray
  bel : Below W.heap.size W V
theorem RT.keep {e : TE w0} {V V' : World} (h : RT w0 pr A cap es e W V) (hb : Below V.heap.size V V') : RT w0 pr A cap es e W V' := ⟨h.box.keep hb, h.t.keep hb, below_step h.bel hb⟩

set_option maxRecDepth 100000 in
set_option maxHeartbeats 2000000 in
theorem rput_any (h : RBox w0 pr A cap es W) (e : TE w0) (hnm : e.t.named) :
    Calls Try.prog 14 #[.pointer (some ⟨pr, 0, none⟩), .agg #[.int .i64 e.t.kind, .int .i64 e.t.int, .string ⟨e.t.name.toArray⟩, .slice e.A e.t.items.length e.c]] W (RPutEnds w0 pr A cap es e W) := by
  have HPT : Hid (RT w0 pr A cap es e W (W.alloc (.cells e.cells.toArray 35))) := ⟨h.keep (below_alloc _ _), Blk.new _ _ _, below_alloc _ _⟩
  have HCK := Lib.hid (fun V g (hb : Below w0.heap.size w0 V) (hB : Blk V g 35 e.cells.toArray) => rcheck_any [e.t] (some ⟨g, 0, none⟩) 1 1 V V rfl (by simp [TV.namedL, hnm]) (Below.refl _ _) (rdm_one e hB hb))
  have HSAME : Hid (∀ r V, putE es e.t ≠ 0 → Below W.heap.size W V → r = .returned (.int .i64 (putE es e.t : Nat)) → RPutEnds w0 pr A cap es e W r V) := fun r V hne hb hr => rput_same h e hne hb hr
  by_cases hck : checkP [e.t] = 0
  rotate_left
  · have HE := Lib.hid (show putE es e.t = checkP [e.t] by unfold putE; rw [if_pos hck])
    obtain ⟨ck, hcke⟩ : ∃ ck, checkP [e.t] = ck := ⟨_, rfl⟩
    rw [hcke] at HE HCK hck
    have hd : ((ck : Int) != 0) = true := by rw [bne_iff_ne]; omega
    have HCKN := Lib.hid hck
    clear hck hcke h
    go_enter Try.func14, Try.ntmps14
    go_upto_region 1 with (fail)
    refine wp_world (RT w0 pr A cap es e W) HPT.out ?_
    intro V1 hP1
    have t0 : V1.cell? ⟨W.heap.size, 0, none⟩ = some (.int .i64 e.t.kind) := hP1.t.cell 0
    have t1 : V1.cell? ⟨W.heap.size, 1, none⟩ = some (.int .i64 e.t.int) := hP1.t.cell 1
    have t2 : V1.cell? ⟨W.heap.size, 2, none⟩ = some (.string ⟨e.t.name.toArray⟩) := hP1.t.cell 2
    have t3 : V1.cell? ⟨W.heap.size, 3, none⟩ = some (.slice e.A e.t.items.length e.c) := hP1.t.cell 3
    have HC1 := Lib.hid (HCK.out (V1.alloc (.cells e.cells.toArray 35)) V1.heap.size (below_step hP1.box.bel (below_alloc _ _)) (Blk.new _ _ _))
    go_wp2_with (go_at_call 23; refine HC1.out.mono ?_; rintro r V2 ⟨rfl, hb2⟩)
    go_ret
    exact HSAME.out _ _ (by rw [HE.out]; exact HCKN.out) (below_step (below_step hP1.bel (below_alloc _ _)) hb2) (by rw [HE.out]; rfl)
  obtain ⟨hp4, hisT⟩ := check_one hck
  rw [hck] at HCK
  have HSZ := Lib.hid (fun V (hb : Below w0.heap.size w0 V) => rsize_any e.t e.A e.c w0 V hb e.ok)
  rw [show sizeP e.t.parts = e.t.parts by unfold sizeP; rw [if_pos hp4]] at HSZ
  have hbl := h.ok.len
  have hbp := h.ok.parts
  obtain ⟨P, hP⟩ : ∃ P, e.t.parts = P := ⟨_, rfl⟩
  obtain ⟨n, hn⟩ : ∃ n, es.length = n := ⟨_, rfl⟩
  obtain ⟨bp, hbpe⟩ : ∃ bp, bparts es = bp := ⟨_, rfl⟩
  have HP := Lib.hid hP
  have HN := Lib.hid hn
  have HBP := Lib.hid hbpe
  rw [hP] at HSZ hp4
  rw [hn] at hbl
  rw [hbpe] at hbp
  have HPA : Hid (∀ V, RBox w0 pr A cap es V → Calls Try.prog 22 #[.pointer (some ⟨pr, 0, none⟩)] V fun e w' => e = .returned (.int .i64 (bp : Int)) ∧ Below V.heap.size V w') := fun V hV => (rparts_any hV).mono fun r w' ⟨hr, hb⟩ => ⟨by rw [hr, hbpe], hb⟩
  by_cases hfull : 1000 ≤ n
  · have HE := Lib.hid (show putE es e.t = 5 by unfold putE; rw [if_neg (by simp [hck]), if_pos (by rw [hn]; exact .inl hfull)])
    have w1 : decide ((1000 : Int) ≤ (n : Int)) = true := by simp; omega
    clear hfull hck hP hn hbpe hisT h
    go_enter Try.func14, Try.ntmps14
    go_upto_region 1 with (fail)
    refine wp_world (RT w0 pr A cap es e W) HPT.out ?_
    intro V1 hP1
    have t0 : V1.cell? ⟨W.heap.size, 0, none⟩ = some (.int .i64 e.t.kind) := hP1.t.cell 0
    have t1 : V1.cell? ⟨W.heap.size, 1, none⟩ = some (.int .i64 e.t.int) := hP1.t.cell 1
    have t2 : V1.cell? ⟨W.heap.size, 2, none⟩ = some (.string ⟨e.t.name.toArray⟩) := hP1.t.cell 2
    have t3 : V1.cell? ⟨W.heap.size, 3, none⟩ = some (.slice e.A e.t.items.length e.c) := hP1.t.cell 3
    have HC1 := Lib.hid (HCK.out (V1.alloc (.cells e.cells.toArray 35)) V1.heap.size (below_step hP1.box.bel (below_alloc _ _)) (Blk.new _ _ _))
    go_upto_region 4 with (go_at_call 23; refine HC1.out.mono ?_; rintro r V2 ⟨rfl, hb2⟩)
    have hP2 := hP1.keep (below_step (below_alloc _ _) hb2)
    have c0 : V2.cell? ⟨pr, 0, none⟩ = some (.slice A n cap) := by rw [← HN.out]; exact hP2.box.obj.cell 0
    clear t0 t1 t2 t3 HC1 hb2 hP1
    go_quiet (fail)
    go_wp2
    go_ret
    exact HSAME.out _ _ (by rw [HE.out]; omega) (below_drewN hP2.bel _) (by rw [HE.out]; rfl)
  have w1 : decide ((1000 : Int) ≤ (n : Int)) = false := by simp; omega
  have HS4 : Hid (∀ V, RT w0 pr A cap es e W V → (V.cell? ⟨pr, 0, none⟩ = some (.slice A n cap) ∧ V.cell? ⟨W.heap.size, 0, none⟩ = some (.int .i64 e.t.kind) ∧ V.cell? ⟨W.heap.size, 1, none⟩ = some (.int .i64 e.t.int) ∧ V.cell? ⟨W.heap.size, 2, none⟩ = some (.string ⟨e.t.name.toArray⟩) ∧ V.cell? ⟨W.heap.size, 3, none⟩ = some (.slice e.A e.t.items.length e.c)) ∧ RT w0 pr A cap es e W V) := fun V hV =>
    ⟨⟨by rw [← hn]; exact hV.box.obj.cell 0, hV.t.cell 0, hV.t.cell 1, hV.t.cell 2, hV.t.cell 3⟩, hV⟩
  by_cases hfull2 : 20000 < bp + P
  · have HE := Lib.hid (show putE es e.t = 5 by unfold putE; rw [if_neg (by simp [hck]), if_pos (by rw [hn, hbpe, hP]; exact .inr hfull2)])
    have w2 : decide ((20000 : Int) < (bp : Int) + (P : Int)) = true := by simp; omega
    clear hfull hfull2 hck hP hn hbpe hisT h
    go_enter Try.func14, Try.ntmps14
    go_upto_region 1 with (fail)
    refine wp_world (RT w0 pr A cap es e W) HPT.out ?_
    intro V1 hP1
    have t0 : V1.cell? ⟨W.heap.size, 0, none⟩ = some (.int .i64 e.t.kind) := hP1.t.cell 0
    have t1 : V1.cell? ⟨W.heap.size, 1, none⟩ = some (.int .i64 e.t.int) := hP1.t.cell 1
    have t2 : V1.cell? ⟨W.heap.size, 2, none⟩ = some (.string ⟨e.t.name.toArray⟩) := hP1.t.cell 2
    have t3 : V1.cell? ⟨W.heap.size, 3, none⟩ = some (.slice e.A e.t.items.length e.c) := hP1.t.cell 3
    have HC1 := Lib.hid (HCK.out (V1.alloc (.cells e.cells.toArray 35)) V1.heap.size (below_step hP1.box.bel (below_alloc _ _)) (Blk.new _ _ _))
    go_upto_region 4 with (go_at_call 23; refine HC1.out.mono ?_; rintro r V2 ⟨rfl, hb2⟩)
    have hP2 := hP1.keep (below_step (below_alloc _ _) hb2)
    clear t0 t1 t2 t3 HC1 hb2 hP1
    have hwr : IntKind.i64.wrap ((bp : Int) + (P : Int)) = (bp : Int) + (P : Int) := IntWalk.i64_in _ (by omega)
    go_region_held3 (fun V => (V.cell? ⟨pr, 0, none⟩ = some (.slice A n cap) ∧ V.cell? ⟨W.heap.size, 0, none⟩ = some (.int .i64 e.t.kind) ∧ V.cell? ⟨W.heap.size, 1, none⟩ = some (.int .i64 e.t.int) ∧ V.cell? ⟨W.heap.size, 2, none⟩ = some (.string ⟨e.t.name.toArray⟩) ∧ V.cell? ⟨W.heap.size, 3, none⟩ = some (.slice e.A e.t.items.length e.c)) ∧ RT w0 pr A cap es e W V) (first | exact HS4.out _ hP9 | exact HS4.out _ (hP2.keep (Below.refl _ _).drew)) ((first
      | (go_at_call 22; refine (HPA.out _ (And.right (by assumption) : RT w0 pr A cap es e W _).box).mono ?_; rintro r V9 ⟨rfl, hb9⟩; have hP9 := RT.keep (And.right (by assumption)) hb9; clear hb9)
      | (go_at_call 24; refine (HSZ.out _ (And.right (by assumption) : RT w0 pr A cap es e W _).box.bel).mono ?_; rintro r V9 ⟨rfl, hb9⟩; have hP9 := RT.keep (And.right (by assumption)) hb9; clear hb9)))
    all_goals
      go_wp2
      go_ret
      exact HSAME.out _ _ (by rw [HE.out]; omega) hP9.bel (by rw [HE.out]; rfl)
  have HE := Lib.hid (show putE es e.t = 0 by unfold putE; rw [if_neg (by simp [hck]), if_neg (by rw [hn, hbpe, hP]; omega)])
  have HS := Lib.hid (show putS es e = es ++ [e] by unfold putS; rw [HE.out]; rfl)
  have HOK := Lib.hid (show BOk (es ++ [e]) by
    have h9 := h.ok
    refine ⟨by simp; omega, by rw [bparts_snoc]; omega, fun x hx => ?_, fun x hx => ?_⟩
    · rcases List.mem_append.1 hx with hx | hx
      · exact h9.each x hx
      · rw [List.mem_singleton.1 hx]; omega
    · rcases List.mem_append.1 hx with hx | hx
      · exact h9.named x hx
      · rw [List.mem_singleton.1 hx]; exact hnm)
  have w2 : decide ((20000 : Int) < (bp : Int) + (P : Int)) = false := by simp; omega
  have hlo := h.lo
  have hwsz := h.bel.size
  clear hfull hfull2 hck hP hn hbpe hisT h
  go_enter Try.func14, Try.ntmps14
  go_upto_region 1 with (fail)
  refine wp_world (RT w0 pr A cap es e W) HPT.out ?_
  intro V1 hP1
  have t0 : V1.cell? ⟨W.heap.size, 0, none⟩ = some (.int .i64 e.t.kind) := hP1.t.cell 0
  have t1 : V1.cell? ⟨W.heap.size, 1, none⟩ = some (.int .i64 e.t.int) := hP1.t.cell 1
  have t2 : V1.cell? ⟨W.heap.size, 2, none⟩ = some (.string ⟨e.t.name.toArray⟩) := hP1.t.cell 2
  have t3 : V1.cell? ⟨W.heap.size, 3, none⟩ = some (.slice e.A e.t.items.length e.c) := hP1.t.cell 3
  have HC1 := Lib.hid (HCK.out (V1.alloc (.cells e.cells.toArray 35)) V1.heap.size (below_step hP1.box.bel (below_alloc _ _)) (Blk.new _ _ _))
  go_upto_region 4 with (go_at_call 23; refine HC1.out.mono ?_; rintro r V2 ⟨rfl, hb2⟩)
  have hP2 := hP1.keep (below_step (below_alloc _ _) hb2)
  clear t0 t1 t2 t3 HC1 hb2 hP1
  have hwr : IntKind.i64.wrap ((bp : Int) + (P : Int)) = (bp : Int) + (P : Int) := IntWalk.i64_in _ (by omega)
  go_region_held3 (fun V => (V.cell? ⟨pr, 0, none⟩ = some (.slice A n cap) ∧ V.cell? ⟨W.heap.size, 0, none⟩ = some (.int .i64 e.t.kind) ∧ V.cell? ⟨W.heap.size, 1, none⟩ = some (.int .i64 e.t.int) ∧ V.cell? ⟨W.heap.size, 2, none⟩ = some (.string ⟨e.t.name.toArray⟩) ∧ V.cell? ⟨W.heap.size, 3, none⟩ = some (.slice e.A e.t.items.length e.c)) ∧ RT w0 pr A cap es e W V) (first | exact HS4.out _ hP9 | exact HS4.out _ (hP2.keep (Below.refl _ _).drew)) ((first
    | (go_at_call 22; refine (HPA.out _ (And.right (by assumption) : RT w0 pr A cap es e W _).box).mono ?_; rintro r V9 ⟨rfl, hb9⟩; have hP9 := RT.keep (And.right (by assumption)) hb9; clear hb9)
    | (go_at_call 24; refine (HSZ.out _ (And.right (by assumption) : RT w0 pr A cap es e W _).box.bel).mono ?_; rintro r V9 ⟨rfl, hb9⟩; have hP9 := RT.keep (And.right (by assumption)) hb9; clear hb9)))
  clear hwr hP2
  rename_i hHeld9
  clear hHeld9
  go_upto_region 6 with (fail)
  refine wp_world (RT w0 pr A cap es e W) hP9 ?_
  clear hP9
  intro V0 hP0
  have HSC : Hid (∀ V, Below V0.heap.size V0 V → V.cell? ⟨pr, 0, none⟩ = some (.slice A n cap) ∧ V.cell? ⟨W.heap.size, 0, none⟩ = some (.int .i64 e.t.kind) ∧ V.cell? ⟨W.heap.size, 1, none⟩ = some (.int .i64 e.t.int) ∧ V.cell? ⟨W.heap.size, 2, none⟩ = some (.string ⟨e.t.name.toArray⟩) ∧ V.cell? ⟨W.heap.size, 3, none⟩ = some (.slice e.A e.t.items.length e.c)) := fun V hV => (HS4.out V (hP0.keep hV)).1
  have hpf : ∀ V, Below V0.heap.size V0 V → V.frozen? ⟨pr, 0, none⟩ = false := fun V hV => (hP0.keep hV).box.obj.frozen 0
  have HPF := Lib.hid hpf
  have HP0 := Lib.hid hP0
  have HCS : Hid (∀ V, Below V0.heap.size V0 V → Cs V A (cellsL es)) := fun V hV => by
    have := hP0.box.row
    rw [HN.out] at this
    exact (own_cs this).below hV
  have hcl : (cellsL es).length = n * 4 := by rw [cellsL_len, HN.out]
  have HCL := Lib.hid hcl
  have HFIN : Hid (∀ V v, Below V0.heap.size V0 V → V.ownsRow V0.heap.size 35 4 v (0 + n + 1) ([] ++ cellsL es ++ e.cells) → RPutEnds w0 pr A cap es e W (.returned (.int .i64 0)) (V.setCell ⟨pr, 0, none⟩ v)) := fun V v hb ho => by
    have hPV := HP0.out.keep hb
    have hlt := HP0.out.box.obj.lt
    have hs0 := HP0.out.bel.size
    rw [Nat.zero_add, List.nil_append, ← cellsL_one, ← cellsL_append] at ho
    obtain ⟨A', cap', rfl⟩ := own_form ho
    have hl7 : (es ++ [e]).length = n + 1 := by simp [HN.out]
    have hne : ∀ g, (Value.slice A' (n + 1) cap').ownBlock = some g → V0.heap.size ≤ g := fun g hg => (World.ownsRow.lt ho g hg).1
    have hfr : Fr (fun k => k = pr) W (V.setCell ⟨pr, 0, none⟩ (.slice A' (n + 1) cap')) := (Fr.of_below hPV.bel _).same (Fr.setCell (fun k => k = pr) _ (p := ⟨pr, 0, none⟩) (fun _ => rfl) _)
    refine ⟨by rw [HE.out]; rfl, A', cap', ?_, hfr, ?_⟩
    · rw [HS.out]
      refine ⟨?_, ?_, ?_, hlo, HOK.out⟩
      · rw [hl7]; exact hPV.box.obj.set_ 0 _
      · rw [hl7]
        refine (own_lower ho (by omega)).kept (grown_setCell (grown_refl _ (some pr)) (p := ⟨pr, 0, none⟩) (.inl rfl) _) ?_
        cases hq : (Value.slice A' (n + 1) cap').ownBlock with
        | none => exact .inl rfl
        | some g => exact .inr (fun e9 => by have := hne g hq; injection e9 with e9; omega)
      · exact Below.setCell hPV.box.bel hlo _
    · rw [HS.out, hl7]
      exact fun g hg => .inr (by have := hne g hg; omega)
  have hsz0 := HP0.out.bel.size
  have ho0 : ∀ V, Below V0.heap.size V0 V → (V.alloc (.cells #[] 35)).ownsRow V0.heap.size 35 4 (.slice (some ⟨V.heap.size, 0, none⟩) 0 0) 0 [] := fun V hV => own_made _ _ _ hV.size
  have HO0 := Lib.hid ho0
  clear hpf hcl ho0 hP0
  refine wp_region_W 12 (fun V => Below V0.heap.size V0 V) (by kernel_rfl) ?_ (fun hS0 => ?_)
  · exact (Below.refl _ _).drew
  (refine wpAnyW_take (i := 0) (v := ?_) rfl (by kernel_rfl) (by kernel_rfl) (by kernel_rfl) (by kernel_rfl) (fun _ _ _ h => h) (Or.inl ⟨by kernel_rfl, ?_⟩) (by assumption) ?_; rotate_left; focus (intro V9 hS9; go_simp; (try (with_reducible rfl)); done))
  try simp only [Act.put, List.getElem_toArray, List.getElem_cons_zero, List.setIfInBounds_toArray, List.set_cons_succ, List.set_cons_zero]
  (refine wpAnyW_take (i := 2) (v := ?_) rfl (by kernel_rfl) (by kernel_rfl) (by kernel_rfl) (by kernel_rfl) (fun _ _ _ h => h) (Or.inl ⟨by kernel_rfl, ?_⟩) (by assumption) ?_; rotate_left; focus (intro V9 hS9; go_simp; (try (with_reducible rfl)); done))
  try simp only [Act.put, List.getElem_toArray, List.getElem_cons_succ, List.getElem_cons_zero, List.setIfInBounds_toArray, List.set_cons_succ, List.set_cons_zero]
  (refine wpAnyW_take (i := 3) (v := ?_) rfl (by kernel_rfl) (by kernel_rfl) (by kernel_rfl) (by kernel_rfl) (fun _ _ _ h => h) (Or.inl ⟨by kernel_rfl, ?_⟩) (by assumption) ?_; rotate_left; focus (intro V9 hS9; go_simp; (try (with_reducible rfl)); done))
  try simp only [Act.put, List.getElem_toArray, List.getElem_cons_succ, List.getElem_cons_zero, List.setIfInBounds_toArray, List.set_cons_succ, List.set_cons_zero]
  (refine wpAnyW_take (i := 4) (v := ?_) rfl (by kernel_rfl) (by kernel_rfl) (by kernel_rfl) (by kernel_rfl) (fun _ _ _ h => h) (Or.inl ⟨by kernel_rfl, ?_⟩) (by assumption) ?_; rotate_left; focus (intro V9 hS9; go_simp; (try (with_reducible rfl)); done))
  try simp only [Act.put, List.getElem_toArray, List.getElem_cons_succ, List.getElem_cons_zero, List.setIfInBounds_toArray, List.set_cons_succ, List.set_cons_zero]
  (refine wpAnyW_take (i := 5) (v := ?_) rfl (by kernel_rfl) (by kernel_rfl) (by kernel_rfl) (by kernel_rfl) (fun _ _ _ h => h) (Or.inl ⟨by kernel_rfl, ?_⟩) (by assumption) ?_; rotate_left; focus (intro V9 hS9; obtain ⟨g0, g1, g2, g3, g4⟩ := HSC.out V9 hS9; go_simp; (try (with_reducible rfl)); done))
  try simp only [Act.put, List.getElem_toArray, List.getElem_cons_succ, List.getElem_cons_zero, List.setIfInBounds_toArray, List.set_cons_succ, List.set_cons_zero]
  (refine wpAnyW_take (i := 7) (v := ?_) rfl (by kernel_rfl) (by kernel_rfl) (by kernel_rfl) (by kernel_rfl) (fun _ _ _ h => h) (Or.inl ⟨by kernel_rfl, ?_⟩) (by assumption) ?_; rotate_left; focus (intro V9 hS9; obtain ⟨g0, g1, g2, g3, g4⟩ := HSC.out V9 hS9; go_simp; (try (with_reducible rfl)); done))
  try simp only [Act.put, List.getElem_toArray, List.getElem_cons_succ, List.getElem_cons_zero, List.setIfInBounds_toArray, List.set_cons_succ, List.set_cons_zero]
  refine wpAnyW_ready (rs := [1, 8]) (by kernel_rfl) (by simp) ?_
  refine AllReadyW.cons rfl (fun K hK => ?_) (AllReadyW.cons rfl (fun K hK => ?_) AllReadyW.nil)
  · skip
    go_simp
    refine hK.out _ _ (below_step (Below.refl V0.heap.size V0).drew (below_alloc _ _)) (fun _ => ?_)
    clear hK K
    try simp only [Act.put, List.getElem_toArray, List.getElem_cons_succ, List.getElem_cons_zero, List.setIfInBounds_toArray, List.set_cons_succ, List.set_cons_zero]
    refine wpAnyW_world (fun V => Below V0.heap.size V0 V ∧ V.ownsRow V0.heap.size 35 4 (.slice (some ⟨V0.heap.size, 0, none⟩) 0 0) 0 []) ⟨below_step (Below.refl V0.heap.size V0).drew (below_alloc _ _), HO0.out V0.drew (Below.refl _ _).drew⟩ ?_
    rintro VA ⟨hbVA, hoA⟩
    refine wpAnyW_ready (rs := [6, 8]) (by kernel_rfl) (by simp) ?_
    refine AllReadyW.cons rfl (fun K hK => ?_) (AllReadyW.cons rfl (fun K hK => ?_) AllReadyW.nil)
    · skip
      refine step_appO termsT (by kernel_rfl) (.tmp 27) (.tmp 31) rfl V0.heap.size 0 [] _ hoA A n cap (cellsL es) (by rfl) (by rfl) HCL.out (HCS.out _ hbVA) (cellsL_one' es) (by unfold maxLen; omega) (by omega) (Below.size hbVA) ?_
      intro v1 VB hoVB hgVB _
      have hbVB : Below V0.heap.size V0 VB := own_grow hoA hbVA hgVB (Below.size hbVA)
      refine hK.out _ _ hbVB (fun _ => ?_)
      clear hK K
      try simp only [Act.put, List.getElem_toArray, List.getElem_cons_succ, List.getElem_cons_zero, List.setIfInBounds_toArray, List.set_cons_succ, List.set_cons_zero]
      refine wpAnyW_ready (rs := [8]) (by kernel_rfl) (by simp) ?_
      refine AllReadyW.cons rfl (fun K hK => ?_) AllReadyW.nil
      go_simp
      refine hK.out _ _ (below_step hbVB (below_alloc _ _)) (fun _ => ?_)
      clear hK K
      try simp only [Act.put, List.getElem_toArray, List.getElem_cons_succ, List.getElem_cons_zero, List.setIfInBounds_toArray, List.set_cons_succ, List.set_cons_zero]
      refine wpAnyW_world (fun V => Below V0.heap.size V0 V ∧ V.ownsRow V0.heap.size 35 4 v1 (0 + n) ([] ++ cellsL es) ∧ Blk V VB.heap.size 35 e.cells.toArray) ⟨below_step hbVB (below_alloc _ _), hoVB.alloc _, Blk.new _ _ _⟩ ?_
      rintro VC ⟨hbVC, hoC, hkC⟩
      refine wpAnyW_ready (rs := [9]) (by kernel_rfl) (by simp) ?_
      refine AllReadyW.cons rfl (fun K hK => ?_) AllReadyW.nil
      refine step_appO termsT (by kernel_rfl) (.tmp 32) (.tmp 34) rfl V0.heap.size (0 + n) ([] ++ cellsL es) v1 hoC _ 1 1 e.cells (by rfl) (by rfl) rfl (blk_cs hkC) (cells_one e) (by unfold maxLen; omega) (by omega) (Below.size hbVC) ?_
      intro v2 VD hoVD hgVD _
      have hbVD : Below V0.heap.size V0 VD := own_grow hoC hbVC hgVD (Below.size hbVC)
      refine hK.out _ _ hbVD (fun _ => ?_)
      clear hK K
      try simp only [Act.put, List.getElem_toArray, List.getElem_cons_succ, List.getElem_cons_zero, List.setIfInBounds_toArray, List.set_cons_succ, List.set_cons_zero]
      obtain ⟨A2, c2, rfl⟩ := own_form hoVD
      (refine wpAnyW_take (i := 10) (v := ?_) rfl (by kernel_rfl) (by kernel_rfl) (by kernel_rfl) (by kernel_rfl) (fun _ _ _ h => h) (Or.inl ⟨by kernel_rfl, ?_⟩) (by assumption) ?_; rotate_left; focus (intro V9 hS9; go_simp; (try (with_reducible rfl)); done))
      try simp only [Act.put, List.getElem_toArray, List.getElem_cons_succ, List.getElem_cons_zero, List.setIfInBounds_toArray, List.set_cons_succ, List.set_cons_zero]
      (refine wpAnyW_take (i := 11) (v := ?_) rfl (by kernel_rfl) (by kernel_rfl) (by kernel_rfl) (by kernel_rfl) (fun _ _ _ h => h) (Or.inl ⟨by kernel_rfl, ?_⟩) (by assumption) ?_; rotate_left; focus (intro V9 hS9; go_simp; (try (with_reducible rfl)); done))
      try simp only [Act.put, List.getElem_toArray, List.getElem_cons_succ, List.getElem_cons_zero, List.setIfInBounds_toArray, List.set_cons_succ, List.set_cons_zero]
      refine wpAnyW_ready (rs := [12]) (by kernel_rfl) (by simp) ?_
      refine AllReadyW.consE rfl (by kernel_rfl) (fun K hK => ?_) AllReadyW.nil
      have hfz := HPF.out VD hbVD
      obtain ⟨gc, _, _⟩ := HSC.out VD hbVD
      go_simp
      refine hK.out _ _ ?_
      clear hK K
      refine wpAnyW_done (by kernel_rfl) ?_ _
      have hf := HFIN.out VD _ hbVD hoVD
      rw [Nat.zero_add] at hf
      have HF := Lib.hid hf
      clear hf
      go_wp2
      go_ret
      exact HF.out
    · skip
      go_simp
      refine hK.out _ _ (below_step hbVA (below_alloc _ _)) (fun _ => ?_)
      clear hK K
      try simp only [Act.put, List.getElem_toArray, List.getElem_cons_succ, List.getElem_cons_zero, List.setIfInBounds_toArray, List.set_cons_succ, List.set_cons_zero]
      refine wpAnyW_world (fun V => Below V0.heap.size V0 V ∧ V.ownsRow V0.heap.size 35 4 (.slice (some ⟨V0.heap.size, 0, none⟩) 0 0) 0 [] ∧ Blk V VA.heap.size 35 e.cells.toArray ∧ V0.heap.size < VA.heap.size) ⟨below_step hbVA (below_alloc _ _), hoA.alloc _, Blk.new _ _ _, (World.ownsRow.lt hoA _ rfl).2⟩ ?_
      rintro VB ⟨hbVB, hoB, hkB, hlt⟩
      refine wpAnyW_ready (rs := [6]) (by kernel_rfl) (by simp) ?_
      refine AllReadyW.cons rfl (fun K hK => ?_) AllReadyW.nil
      refine step_appO termsT (by kernel_rfl) (.tmp 27) (.tmp 31) rfl V0.heap.size 0 [] _ hoB A n cap (cellsL es) (by rfl) (by rfl) HCL.out (HCS.out _ hbVB) (cellsL_one' es) (by unfold maxLen; omega) (by omega) (Below.size hbVB) ?_
      intro v1 VC hoVC hgVC _
      have hbVC : Below V0.heap.size V0 VC := own_grow hoB hbVB hgVC (Below.size hbVB)
      refine hK.out _ _ hbVC (fun _ => ?_)
      clear hK K
      try simp only [Act.put, List.getElem_toArray, List.getElem_cons_succ, List.getElem_cons_zero, List.setIfInBounds_toArray, List.set_cons_succ, List.set_cons_zero]
      have hkC := hkB.grown hgVC (by simp [Value.ownBlock]; omega)
      refine wpAnyW_ready (rs := [9]) (by kernel_rfl) (by simp) ?_
      refine AllReadyW.cons rfl (fun K hK => ?_) AllReadyW.nil
      refine step_appO termsT (by kernel_rfl) (.tmp 32) (.tmp 34) rfl V0.heap.size (0 + n) ([] ++ cellsL es) v1 hoVC _ 1 1 e.cells (by rfl) (by rfl) rfl (blk_cs hkC) (cells_one e) (by unfold maxLen; omega) (by omega) (Below.size hbVC) ?_
      intro v2 VD hoVD hgVD _
      have hbVD : Below V0.heap.size V0 VD := own_grow hoVC hbVC hgVD (Below.size hbVC)
      refine hK.out _ _ hbVD (fun _ => ?_)
      clear hK K
      try simp only [Act.put, List.getElem_toArray, List.getElem_cons_succ, List.getElem_cons_zero, List.setIfInBounds_toArray, List.set_cons_succ, List.set_cons_zero]
      obtain ⟨A2, c2, rfl⟩ := own_form hoVD
      (refine wpAnyW_take (i := 10) (v := ?_) rfl (by kernel_rfl) (by kernel_rfl) (by kernel_rfl) (by kernel_rfl) (fun _ _ _ h => h) (Or.inl ⟨by kernel_rfl, ?_⟩) (by assumption) ?_; rotate_left; focus (intro V9 hS9; go_simp; (try (with_reducible rfl)); done))
      try simp only [Act.put, List.getElem_toArray, List.getElem_cons_succ, List.getElem_cons_zero, List.setIfInBounds_toArray, List.set_cons_succ, List.set_cons_zero]
      (refine wpAnyW_take (i := 11) (v := ?_) rfl (by kernel_rfl) (by kernel_rfl) (by kernel_rfl) (by kernel_rfl) (fun _ _ _ h => h) (Or.inl ⟨by kernel_rfl, ?_⟩) (by assumption) ?_; rotate_left; focus (intro V9 hS9; go_simp; (try (with_reducible rfl)); done))
      try simp only [Act.put, List.getElem_toArray, List.getElem_cons_succ, List.getElem_cons_zero, List.setIfInBounds_toArray, List.set_cons_succ, List.set_cons_zero]
      refine wpAnyW_ready (rs := [12]) (by kernel_rfl) (by simp) ?_
      refine AllReadyW.consE rfl (by kernel_rfl) (fun K hK => ?_) AllReadyW.nil
      have hfz := HPF.out VD hbVD
      obtain ⟨gc, _, _⟩ := HSC.out VD hbVD
      go_simp
      refine hK.out _ _ ?_
      clear hK K
      refine wpAnyW_done (by kernel_rfl) ?_ _
      have hf := HFIN.out VD _ hbVD hoVD
      rw [Nat.zero_add] at hf
      have HF := Lib.hid hf
      clear hf
      go_wp2
      go_ret
      exact HF.out
  · skip
    go_simp
    refine hK.out _ _ (below_step (Below.refl V0.heap.size V0).drew (below_alloc _ _)) (fun _ => ?_)
    clear hK K
    try simp only [Act.put, List.getElem_toArray, List.getElem_cons_succ, List.getElem_cons_zero, List.setIfInBounds_toArray, List.set_cons_succ, List.set_cons_zero]
    refine wpAnyW_world (fun V => Below V0.heap.size V0 V ∧ Blk V V0.heap.size 35 e.cells.toArray) ⟨below_step (Below.refl V0.heap.size V0).drew (below_alloc _ _), Blk.new V0.drew _ _⟩ ?_
    rintro VA ⟨hbVA, hkA⟩
    refine wpAnyW_ready (rs := [1]) (by kernel_rfl) (by simp) ?_
    refine AllReadyW.cons rfl (fun K hK => ?_) AllReadyW.nil
    go_simp
    refine hK.out _ _ (below_step hbVA (below_alloc _ _)) (fun _ => ?_)
    clear hK K
    try simp only [Act.put, List.getElem_toArray, List.getElem_cons_succ, List.getElem_cons_zero, List.setIfInBounds_toArray, List.set_cons_succ, List.set_cons_zero]
    refine wpAnyW_world (fun V => Below V0.heap.size V0 V ∧ V.ownsRow V0.heap.size 35 4 (.slice (some ⟨VA.heap.size, 0, none⟩) 0 0) 0 [] ∧ Blk V V0.heap.size 35 e.cells.toArray ∧ V0.heap.size < VA.heap.size) ⟨below_step hbVA (below_alloc _ _), HO0.out VA hbVA, hkA.alloc _, hkA.lt⟩ ?_
    rintro VB ⟨hbVB, hoB, hkB, hlt⟩
    refine wpAnyW_ready (rs := [6]) (by kernel_rfl) (by simp) ?_
    refine AllReadyW.cons rfl (fun K hK => ?_) AllReadyW.nil
    refine step_appO termsT (by kernel_rfl) (.tmp 27) (.tmp 31) rfl V0.heap.size 0 [] _ hoB A n cap (cellsL es) (by rfl) (by rfl) HCL.out (HCS.out _ hbVB) (cellsL_one' es) (by unfold maxLen; omega) (by omega) (Below.size hbVB) ?_
    intro v1 VC hoVC hgVC _
    have hbVC : Below V0.heap.size V0 VC := own_grow hoB hbVB hgVC (Below.size hbVB)
    refine hK.out _ _ hbVC (fun _ => ?_)
    clear hK K
    try simp only [Act.put, List.getElem_toArray, List.getElem_cons_succ, List.getElem_cons_zero, List.setIfInBounds_toArray, List.set_cons_succ, List.set_cons_zero]
    have hkC := hkB.grown hgVC (by simp [Value.ownBlock]; omega)
    refine wpAnyW_ready (rs := [9]) (by kernel_rfl) (by simp) ?_
    refine AllReadyW.cons rfl (fun K hK => ?_) AllReadyW.nil
    refine step_appO termsT (by kernel_rfl) (.tmp 32) (.tmp 34) rfl V0.heap.size (0 + n) ([] ++ cellsL es) v1 hoVC _ 1 1 e.cells (by rfl) (by rfl) rfl (blk_cs hkC) (cells_one e) (by unfold maxLen; omega) (by omega) (Below.size hbVC) ?_
    intro v2 VD hoVD hgVD _
    have hbVD : Below V0.heap.size V0 VD := own_grow hoVC hbVC hgVD (Below.size hbVC)
    refine hK.out _ _ hbVD (fun _ => ?_)
    clear hK K
    try simp only [Act.put, List.getElem_toArray, List.getElem_cons_succ, List.getElem_cons_zero, List.setIfInBounds_toArray, List.set_cons_succ, List.set_cons_zero]
    obtain ⟨A2, c2, rfl⟩ := own_form hoVD
    (refine wpAnyW_take (i := 10) (v := ?_) rfl (by kernel_rfl) (by kernel_rfl) (by kernel_rfl) (by kernel_rfl) (fun _ _ _ h => h) (Or.inl ⟨by kernel_rfl, ?_⟩) (by assumption) ?_; rotate_left; focus (intro V9 hS9; go_simp; (try (with_reducible rfl)); done))
    try simp only [Act.put, List.getElem_toArray, List.getElem_cons_succ, List.getElem_cons_zero, List.setIfInBounds_toArray, List.set_cons_succ, List.set_cons_zero]
    (refine wpAnyW_take (i := 11) (v := ?_) rfl (by kernel_rfl) (by kernel_rfl) (by kernel_rfl) (by kernel_rfl) (fun _ _ _ h => h) (Or.inl ⟨by kernel_rfl, ?_⟩) (by assumption) ?_; rotate_left; focus (intro V9 hS9; go_simp; (try (with_reducible rfl)); done))
    try simp only [Act.put, List.getElem_toArray, List.getElem_cons_succ, List.getElem_cons_zero, List.setIfInBounds_toArray, List.set_cons_succ, List.set_cons_zero]
    refine wpAnyW_ready (rs := [12]) (by kernel_rfl) (by simp) ?_
    refine AllReadyW.consE rfl (by kernel_rfl) (fun K hK => ?_) AllReadyW.nil
    have hfz := HPF.out VD hbVD
    obtain ⟨gc, _, _⟩ := HSC.out VD hbVD
    go_simp
    refine hK.out _ _ ?_
    clear hK K
    refine wpAnyW_done (by kernel_rfl) ?_ _
    have hf := HFIN.out VD _ hbVD hoVD
    rw [Nat.zero_add] at hf
    have HF := Lib.hid hf
    clear hf
    go_wp2
    go_ret
    exact HF.out
end
end Go.Proofs.Ythmlpiiajlfmcaa
