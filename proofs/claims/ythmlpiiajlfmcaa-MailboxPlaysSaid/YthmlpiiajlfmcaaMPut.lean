/- The walk of the box's Put of layer 17. -/
import Derived.Test.YthmlpiiajlfmcaaMRow
namespace Go.Proofs.Ythmlpiiajlfmcaa
open Go.RowKit
set_option linter.unusedVariables false


section
variable {w0 W W' V : World} {pb : Nat} {A : Option Addr} {cap : Nat} {es : List (TE w0)}
theorem rdm_one {g : Nat} (e : TE w0) (hB : Blk V g 35 e.cells.toArray) (hb : Below w0.heap.size w0 V) : RdM V (some ⟨g, 0, none⟩) 1 [e.t] := by
  refine ⟨by simp, by omega, .inr ⟨g, 0, rfl, ?_⟩⟩
  simp only [TV.Row, and_true]
  exact (TV.at_iff _ _ _).2 ⟨hB.cell 0, hB.cell 1, hB.cell 2, e.A, e.c, hB.cell 3, e.ok.below hb⟩

theorem blk_tags {V : World} {g t t' : Nat} {cs cs' : Array Value} (h : Blk V g t cs) (h' : Blk V g t' cs') (ht : t ≠ t') : False := by
  unfold Blk at h h'
  rw [h] at h'
  injection h' with h'
  injection h' with _ h' _
  exact ht h'
/-- Put, as a function: the error's number. -/
def putE (es : List (TE w0)) (t : TV) : Nat := if checkP [t] ≠ 0 then checkP [t] else if 1000 ≤ es.length ∨ 20000 < bparts es + t.parts then 5 else 0
def putS (es : List (TE w0)) (e : TE w0) : List (TE w0) := if putE es e.t = 0 then es ++ [e] else es
def BPutEnds (w0 : World) (pb : Nat) (A : Option Addr) (cap : Nat) (es : List (TE w0)) (e : TE w0) (W : World) (r : Ending) (w' : World) : Prop :=
  r = .returned (.int .i64 (putE es e.t : Nat)) ∧ ∃ A' cap', BoxAt w0 pb A' cap' (putS es e) w' ∧ Fr (fun k => k = pb ∨ (Value.slice A es.length cap).ownBlock = some k) W w' ∧ ∀ g, (Value.slice A' (putS es e).length cap').ownBlock = some g → (Value.slice A es.length cap).ownBlock = some g ∨ W.heap.size ≤ g
theorem check_one {t : TV} (h : checkP [t] = 0) : t.parts ≤ 4096 ∧ t.isT = true := by
  unfold checkP at h
  by_cases h1 : TV.partsL [t] ≤ 4096
  · rw [if_pos h1] at h
    simp only [TV.partsL, Nat.add_zero] at h1
    refine ⟨h1, ?_⟩
    cases ht : t.isT with
    | true => rfl
    | false => simp [TV.isL, ht] at h
  · rw [if_neg h1] at h
    cases h

/-- A term's box, and the box. -/
structure PT (w0 : World) (pb : Nat) (A : Option Addr) (cap : Nat) (es : List (TE w0)) (e : TE w0) (W V : World) : Prop where
  box : BoxAt w0 pb A cap es V
  t : Blk V W.heap.size 35 e.cells.toArray
  bel : Below W.heap.size W V
theorem PT.keep {e : TE w0} (h : PT w0 pb A cap es e W V) (hb : Below V.heap.size V W') : PT w0 pb A cap es e W W' := ⟨h.box.keep hb, h.t.keep hb, below_step h.bel hb⟩

set_option maxRecDepth 100000 in
set_option maxHeartbeats 2000000 in
theorem bput_any (h : BoxAt w0 pb A cap es W) (e : TE w0) (hnm : e.t.named) :
    Calls Try.prog 13 #[.pointer (some ⟨pb, 0, none⟩), .agg #[.int .i64 e.t.kind, .int .i64 e.t.int, .string ⟨e.t.name.toArray⟩, .slice e.A e.t.items.length e.c]] W (BPutEnds w0 pb A cap es e W) := by
  have hpt : PT w0 pb A cap es e W (W.alloc (.cells e.cells.toArray 35)) := ⟨h.keep (below_alloc _ _), Blk.new _ _ _, below_alloc _ _⟩
  have HPT := Lib.hid hpt
  have HCK := Lib.hid (fun V g (hb : Below w0.heap.size w0 V) (hB : Blk V g 35 e.cells.toArray) => check_any [e.t] (some ⟨g, 0, none⟩) 1 1 V V rfl (by simp [TV.namedL, hnm]) (Below.refl _ _) (rdm_one e hB hb))
  clear hpt
  by_cases hck : checkP [e.t] = 0
  · obtain ⟨hp4, hisT⟩ := check_one hck
    rw [hck] at HCK
    have HSZ := Lib.hid (fun V (hb : Below w0.heap.size w0 V) => size_any e.t e.A e.c w0 V hb e.ok)
    rw [show sizeP e.t.parts = e.t.parts by unfold sizeP; rw [if_pos hp4]] at HSZ
    have hbl := h.ok.len
    have hbp := h.ok.parts
    obtain ⟨P, hP⟩ : ∃ P, e.t.parts = P := ⟨_, rfl⟩
    obtain ⟨n, hn⟩ : ∃ n, es.length = n := ⟨_, rfl⟩
    obtain ⟨bp, hbpe⟩ : ∃ bp, bparts es = bp := ⟨_, rfl⟩
    have HP := Lib.hid hP
    have HN := Lib.hid hn
    have HBP := Lib.hid hbpe
    rw [hP] at HSZ hp4
    rw [hn] at hbl
    rw [hbpe] at hbp
    by_cases hfull : 1000 ≤ n ∨ 20000 < bp + P
    · have HE := Lib.hid (show putE es e.t = 5 by unfold putE; rw [if_neg (by simp [hck]), if_pos (by rw [hn, hbpe, hP]; exact hfull)])
      have HS := Lib.hid (show putS es e = es by unfold putS; rw [HE.out]; rfl)
      have hway : decide ((1000 : Int) ≤ (n : Int)) = true ∨ (decide ((1000 : Int) ≤ (n : Int)) = false ∧ decide ((20000 : Int) < (bp : Int) + (P : Int)) = true) := by
        simp only [decide_eq_true_eq, decide_eq_false_iff_not]; omega
      clear hfull hck hP hn hbpe hisT h
      rcases hway with w1 | ⟨w1, w2⟩
      all_goals
        go_enter Try.func13, Try.ntmps13
        go_upto_region 3 with (fail)
        refine wp_world (PT w0 pb A cap es e W) HPT.out ?_
        intro V1 hP1
        have t0 : V1.cell? ⟨W.heap.size, 0, none⟩ = some (.int .i64 e.t.kind) := hP1.t.cell 0
        have t1 : V1.cell? ⟨W.heap.size, 1, none⟩ = some (.int .i64 e.t.int) := hP1.t.cell 1
        have t2 : V1.cell? ⟨W.heap.size, 2, none⟩ = some (.string ⟨e.t.name.toArray⟩) := hP1.t.cell 2
        have t3 : V1.cell? ⟨W.heap.size, 3, none⟩ = some (.slice e.A e.t.items.length e.c) := hP1.t.cell 3
        have HC1 := Lib.hid (HCK.out (V1.alloc (.cells e.cells.toArray 35)) V1.heap.size (below_step hP1.box.bel (below_alloc _ _)) (Blk.new _ _ _))
        go_upto_region 6 with (go_at_call 27; refine HC1.out.mono ?_; rintro r V2 ⟨rfl, hb2⟩)
        have hP2 := hP1.keep (below_step (below_alloc _ _) hb2)
        have s0 : V2.cell? ⟨W.heap.size, 0, none⟩ = some (.int .i64 e.t.kind) := hP2.t.cell 0
        have s1 : V2.cell? ⟨W.heap.size, 1, none⟩ = some (.int .i64 e.t.int) := hP2.t.cell 1
        have s2 : V2.cell? ⟨W.heap.size, 2, none⟩ = some (.string ⟨e.t.name.toArray⟩) := hP2.t.cell 2
        have s3 : V2.cell? ⟨W.heap.size, 3, none⟩ = some (.slice e.A e.t.items.length e.c) := hP2.t.cell 3
        clear t0 t1 t2 t3 HC1 hb2 hP1
        go_upto_region 7 with (go_at_call 28; refine (HSZ.out _ hP2.box.bel).mono ?_; rintro r V3 ⟨rfl, hb3⟩)
        have hP3 := hP2.keep hb3
        have c0 : V3.cell? ⟨pb, 0, none⟩ = some (.slice A n cap) := by rw [← HN.out]; exact hP3.box.obj.cell 0
        have c1 : V3.cell? ⟨pb, 1, none⟩ = some (.int .i64 (bp : Int)) := by rw [← HBP.out]; exact hP3.box.obj.cell 1
        clear s0 s1 s2 s3 hb3 hP2
        go_wp2_with (fail)
        go_ret
        exact ⟨by rw [HE.out]; rfl, A, cap, by rw [HS.out]; exact hP3.box, Fr.of_below hP3.bel _, by rw [HS.out]; exact fun g hg => .inl hg⟩
    · have HE := Lib.hid (show putE es e.t = 0 by unfold putE; rw [if_neg (by simp [hck]), if_neg (by rw [hn, hbpe, hP]; exact hfull)])
      have HS := Lib.hid (show putS es e = es ++ [e] by unfold putS; rw [HE.out]; rfl)
      have HNM := Lib.hid hnm
      have HBEL := Lib.hid h.bel
      have HOBL := Lib.hid (fun k (hk : (Value.slice A n cap).ownBlock = some k) => (World.ownsRow.lt (by rw [← hn]; exact h.row) k hk).1)
      have w1 : decide ((1000 : Int) ≤ (n : Int)) = false := by simp; omega
      have w2 : decide ((20000 : Int) < (bp : Int) + (P : Int)) = false := by simp; omega
      clear hfull hck hP hn hbpe hisT
      go_enter Try.func13, Try.ntmps13
      go_upto_region 3 with (fail)
      refine wp_world (PT w0 pb A cap es e W) HPT.out ?_
      intro V1 hP1
      have t0 : V1.cell? ⟨W.heap.size, 0, none⟩ = some (.int .i64 e.t.kind) := hP1.t.cell 0
      have t1 : V1.cell? ⟨W.heap.size, 1, none⟩ = some (.int .i64 e.t.int) := hP1.t.cell 1
      have t2 : V1.cell? ⟨W.heap.size, 2, none⟩ = some (.string ⟨e.t.name.toArray⟩) := hP1.t.cell 2
      have t3 : V1.cell? ⟨W.heap.size, 3, none⟩ = some (.slice e.A e.t.items.length e.c) := hP1.t.cell 3
      have HC1 := Lib.hid (HCK.out (V1.alloc (.cells e.cells.toArray 35)) V1.heap.size (below_step hP1.box.bel (below_alloc _ _)) (Blk.new _ _ _))
      go_upto_region 6 with (go_at_call 27; refine HC1.out.mono ?_; rintro r V2 ⟨rfl, hb2⟩)
      have hP2 := hP1.keep (below_step (below_alloc _ _) hb2)
      have s0 : V2.cell? ⟨W.heap.size, 0, none⟩ = some (.int .i64 e.t.kind) := hP2.t.cell 0
      have s1 : V2.cell? ⟨W.heap.size, 1, none⟩ = some (.int .i64 e.t.int) := hP2.t.cell 1
      have s2 : V2.cell? ⟨W.heap.size, 2, none⟩ = some (.string ⟨e.t.name.toArray⟩) := hP2.t.cell 2
      have s3 : V2.cell? ⟨W.heap.size, 3, none⟩ = some (.slice e.A e.t.items.length e.c) := hP2.t.cell 3
      clear t0 t1 t2 t3 HC1 hb2 hP1
      go_upto_region 7 with (go_at_call 28; refine (HSZ.out _ hP2.box.bel).mono ?_; rintro r V3 ⟨rfl, hb3⟩)
      have hP3 := hP2.keep hb3
      have c0 : V3.cell? ⟨pb, 0, none⟩ = some (.slice A n cap) := by rw [← HN.out]; exact hP3.box.obj.cell 0
      have c1 : V3.cell? ⟨pb, 1, none⟩ = some (.int .i64 (bp : Int)) := by rw [← HBP.out]; exact hP3.box.obj.cell 1
      clear s0 s1 s2 s3 hb3 hP2
      -- REGION9
      obtain ⟨g, cap', V4, hrun, ho4, hg4, hgg, hsome, hfz⟩ := own_more (V := V3.drew) w0.heap.size (A := A) (n := n) (cap := cap) (es := es) (by rw [← HN.out]; exact hP3.box.keep (Below.refl _ _).drew |>.row) (by omega) hP3.box.bel.size
      have hlt3 := hP3.t.lt
      have hpl3 := hP3.box.obj.lt
      have hob : ∀ k, (Value.slice A n cap).ownBlock = some k → w0.heap.size ≤ k ∧ k < V3.heap.size ∧ k ≠ pb ∧ k ≠ W.heap.size := fun k hk => by
        rw [← HN.out] at hk
        have hl := World.ownsRow.lt hP3.box.row k hk
        refine ⟨hl.1, hl.2, hP3.box.nrow hk, fun e9 => ?_⟩
        have hl2 := World.ownsRow.lt h.row k hk
        omega
      have hgp : g ≠ pb := by
        rcases hgg with hh | hh
        · exact (hob g hh).2.2.1
        · rw [hh]; show V3.heap.size + 1 ≠ pb; omega
      have hgt : g ≠ W.heap.size := by
        rcases hgg with hh | hh
        · exact (hob g hh).2.2.2
        · rw [hh]; show V3.heap.size + 1 ≠ W.heap.size; omega
      have hg0 : w0.heap.size ≤ g := (World.ownsRow.lt ho4 g rfl).1
      have hD3 := hP3.keep (Below.refl _ _).drew
      have hob4 : Blk V4 pb 59 #[.slice A n cap, .int .i64 (bp : Int)] := by
        have hb9 := hD3.box.obj
        rw [HN.out, HBP.out] at hb9
        exact (hb9.alloc _).grown hg4 (fun e9 => (hob pb e9.symm).2.2.1 rfl)
      have hbt4 : Blk V4 W.heap.size 35 e.cells.toArray := (hD3.t.alloc _).grown hg4 (fun e9 => (hob _ e9.symm).2.2.2 rfl)
      have hfr4 : Fr (fun k => k = pb ∨ (Value.slice A n cap).ownBlock = some k) V3 V4 := (Fr.of_below (below_step (Below.refl _ _).drew (below_alloc _ _)) _).same (Fr.of_grown hg4 (fun k e9 _ => .inr e9))
      obtain ⟨y0, z0⟩ := Option.isSome_iff_exists.1 (hsome 0 (by omega))
      obtain ⟨y1, z1⟩ := Option.isSome_iff_exists.1 (hsome 1 (by omega))
      obtain ⟨y2, z2⟩ := Option.isSome_iff_exists.1 (hsome 2 (by omega))
      obtain ⟨y3, z3⟩ := Option.isSome_iff_exists.1 (hsome 3 (by omega))
      rw [Nat.add_zero] at z0
      have fz0 := hfz (n * 4)
      have fz1 := hfz (n * 4 + 1)
      have fz2 := hfz (n * 4 + 2)
      have fz3 := hfz (n * 4 + 3)
      have b0 : V4.cell? ⟨pb, 0, none⟩ = some (.slice A n cap) := hob4.cell 0
      have bf0 := hob4.frozen 0
      have hxl : (cellsL es).length = n * 4 := by rw [cellsL_len, HN.out]
      -- the two ends
      have HEND : Hid (∀ V5, (V5 = (set4 V4 g (n * 4) (.int .i64 e.t.kind) (.int .i64 e.t.int) (.string ⟨e.t.name.toArray⟩) (.slice e.A e.t.items.length e.c)).setCell ⟨pb, 0, none⟩ (.slice (some ⟨g, 0, none⟩) (n + 1) cap') ∨ V5 = set4 (V4.setCell ⟨pb, 0, none⟩ (.slice (some ⟨g, 0, none⟩) (n + 1) cap')) g (n * 4) (.int .i64 e.t.kind) (.int .i64 e.t.int) (.string ⟨e.t.name.toArray⟩) (.slice e.A e.t.items.length e.c)) →
          Blk V5 pb 59 #[.slice (some ⟨g, 0, none⟩) (n + 1) cap', .int .i64 (bp : Int)] ∧ V5.ownsRow w0.heap.size 35 4 (.slice (some ⟨g, 0, none⟩) (n + 1) cap') (n + 1) (cellsL (es ++ [e])) ∧ Fr (fun k => k = pb ∨ (Value.slice A n cap).ownBlock = some k) W V5) := by
        have hco : cellsL (es ++ [e]) = cellsL es ++ e.cells := by rw [cellsL_append, cellsL_one]
        have hFW : Fr (fun k => k = pb ∨ (Value.slice A n cap).ownBlock = some k) W V4 := (Fr.of_below hP3.bel _).same hfr4
        have hgF : g < W.heap.size → g = pb ∨ (Value.slice A n cap).ownBlock = some g := fun hlt => by
          rcases hgg with hh | hh
          · exact .inr hh
          · have := hP3.bel.size
            rw [hh] at hlt
            have : V3.drew.heap.size = V3.heap.size := rfl
            omega
        rintro V5 (rfl | rfl)
        · refine ⟨((set4_fr V4 g (n * 4) _ _ _ _).blk hob4 (fun e9 => hgp e9.symm)).set_ 0 _, ?_, ?_⟩
          · rw [hco]
            exact (own_store4 ho4 hxl).kept (grown_setCell (grown_refl _ (some pb)) (p := ⟨pb, 0, none⟩) (.inl rfl) _) (.inr (fun e9 => hgp (by simpa [Value.ownBlock] using e9)))
          · exact (hFW.trans ((set4_fr V4 g (n * 4) _ _ _ _)) (fun i hi e9 => by subst e9; exact hgF hi)).same (Fr.setCell _ _ (p := ⟨pb, 0, none⟩) (fun _ => .inl rfl) _)
        · refine ⟨(set4_fr _ g (n * 4) _ _ _ _).blk (hob4.set_ 0 _) (fun e9 => hgp e9.symm), ?_, ?_⟩
          · rw [hco]
            exact own_store4 (ho4.kept (grown_setCell (grown_refl _ (some pb)) (p := ⟨pb, 0, none⟩) (.inl rfl) _) (.inr (fun e9 => hgp (by simpa [Value.ownBlock] using e9)))) hxl
          · exact (hFW.same (Fr.setCell _ _ (p := ⟨pb, 0, none⟩) (fun _ => .inl rfl) _)).trans (set4_fr _ g (n * 4) _ _ _ _) (fun i hi e9 => by subst e9; exact hgF hi)
      have HRUN := Lib.hid hrun
      have HGG : Hid (∀ g', g = g' → (Value.slice A n cap).ownBlock = some g' ∨ W.heap.size ≤ g') := fun g' hg' => by
        subst hg'
        rcases hgg with hh | hh
        · exact .inl hh
        · right
          have := hP3.bel.size
          have : V3.drew.heap.size = V3.heap.size := rfl
          omega
      have HO4 := Lib.hid ho4
      have b5 : (set4 V4 g (n * 4) (.int .i64 e.t.kind) (.int .i64 e.t.int) (.string ⟨e.t.name.toArray⟩) (.slice e.A e.t.items.length e.c)).cell? ⟨pb, 0, none⟩ = some (.slice A n cap) := ((set4_fr V4 g (n * 4) _ _ _ _).blk hob4 (fun e9 => hgp e9.symm)).cell 0
      have bf5 : (set4 V4 g (n * 4) (.int .i64 e.t.kind) (.int .i64 e.t.int) (.string ⟨e.t.name.toArray⟩) (.slice e.A e.t.items.length e.c)).frozen? ⟨pb, 0, none⟩ = false := ((set4_fr V4 g (n * 4) _ _ _ _).blk hob4 (fun e9 => hgp e9.symm)).frozen 0
      unfold set4 at b5 bf5
      have HD3 := Lib.hid hD3
      have hSd : Blk V3.drew W.heap.size 35 e.cells.toArray := hD3.t
      have hSa : Blk (V3.drew.alloc (.cells zero4.toArray 35)) W.heap.size 35 e.cells.toArray := hD3.t.alloc _
      have hST := fun V (hb : Blk V W.heap.size 35 e.cells.toArray) => show V.cell? ⟨W.heap.size, 0, none⟩ = some (.int .i64 e.t.kind) ∧ V.cell? ⟨W.heap.size, 1, none⟩ = some (.int .i64 e.t.int) ∧ V.cell? ⟨W.heap.size, 2, none⟩ = some (.string ⟨e.t.name.toArray⟩) ∧ V.cell? ⟨W.heap.size, 3, none⟩ = some (.slice e.A e.t.items.length e.c) from ⟨hb.cell 0, hb.cell 1, hb.cell 2, hb.cell 3⟩
      have HST := Lib.hid hST
      have HNE := Lib.hid (show W.heap.size ≠ pb by have := HD3.out.box.lo; have hq := hP3.t; intro e9; rw [e9] at hq; exact blk_tags hq hP3.box.obj (by decide))
      have HFIN : Hid (∀ V6, Blk V6 pb 59 #[.slice (some ⟨g, 0, none⟩) (n + 1) cap', .int .i64 (bp : Int)] → V6.ownsRow w0.heap.size 35 4 (.slice (some ⟨g, 0, none⟩) (n + 1) cap') (n + 1) (cellsL (es ++ [e])) → Fr (fun k => k = pb ∨ (Value.slice A n cap).ownBlock = some k) W V6 → BPutEnds w0 pb A cap es e W (.returned (.int .i64 0)) (V6.setCell ⟨pb, 1, none⟩ (.int .i64 ((bp : Int) + (P : Int))))) := by
        intro V6 hB6 hO6 hF6
        have hF7 := hF6.same (Fr.setCell _ V6 (p := ⟨pb, 1, none⟩) (fun _ => .inl rfl) (.int .i64 ((bp : Int) + (P : Int))))
        refine ⟨by rw [HE.out]; rfl, some ⟨g, 0, none⟩, cap', ?_, by rw [HN.out]; exact hF7, fun g' hg' => by rw [HN.out]; exact HGG.out g' (by simpa [Value.ownBlock] using hg')⟩
        rw [HS.out]
        have hb7 : (bparts (es ++ [e]) : Int) = (bp : Int) + (P : Int) := by rw [bparts_snoc, HBP.out, HP.out]; omega
        have hl7 : (es ++ [e]).length = n + 1 := by simp [HN.out]
        refine ⟨?_, ?_, ?_, HD3.out.box.lo, ?_⟩
        · rw [hl7, hb7]; exact hB6.set_ 1 _
        · rw [hl7]; exact hO6.kept (grown_setCell (grown_refl _ (some pb)) (p := ⟨pb, 1, none⟩) (.inl rfl) _) (.inr (fun e9 => hgp (by simpa [Value.ownBlock] using e9)))
        · refine HBEL.out.trans (hF7.below (Below.size HBEL.out) (fun k hk => ?_))
          rcases hk with rfl | hk
          · exact HD3.out.box.lo
          · exact HOBL.out k hk
        · have h9 := HD3.out.box.ok
          refine ⟨by rw [hl7]; have := h9.len; rw [HN.out] at this; simp at w1; omega, by simp at w2; omega, fun x hx => ?_, fun x hx => ?_⟩
          · rcases List.mem_append.1 hx with hx | hx
            · exact h9.each x hx
            · rw [List.mem_singleton.1 hx, HP.out]; exact hp4
          · rcases List.mem_append.1 hx with hx | hx
            · exact h9.named x hx
            · rw [List.mem_singleton.1 hx]; exact HNM.out
      have q1 : (0 : Int) ≤ (n : Int) := by omega
      have q2 : (n : Int) < (n : Int) + 1 := by omega
      have q3 : n < n + 1 := by omega
      clear hob hST hfz hsome hfr4 ho4 hg4 hgg hrun hxl h hD3
      go_upto_region 9 with (fail)
      refine wp_region_held_drew (S := fun V => Blk V W.heap.size 35 e.cells.toArray) (by kernel_rfl) hSd (fun _ => ?_)
      (refine wpAnyH_take (i := 0) (v := ?_) rfl (by kernel_rfl) (by kernel_rfl) (by kernel_rfl) (fun _ _ _ h => h) (Or.inl ⟨by kernel_rfl, ?_⟩) (by assumption) ?_; rotate_left; focus (intro _ _; go_simp; (try (with_reducible rfl)); done))
      go_frame
      (refine wpAnyH_take (i := 1) (v := ?_) rfl (by kernel_rfl) (by kernel_rfl) (by kernel_rfl) (fun _ _ _ h => h) (Or.inl ⟨by kernel_rfl, ?_⟩) (by assumption) ?_; rotate_left; focus (intro _ _; go_simp; (try (with_reducible rfl)); done))
      go_frame
      (refine wpAnyH_take (i := 2) (v := ?_) rfl (by kernel_rfl) (by kernel_rfl) (by kernel_rfl) (fun _ _ _ h => h) (Or.inl ⟨by kernel_rfl, ?_⟩) (by assumption) ?_; rotate_left; focus (intro _ _; go_simp; (try (with_reducible rfl)); done))
      go_frame
      (refine wpAnyH_take (i := 4) (v := ?_) rfl (by kernel_rfl) (by kernel_rfl) (by kernel_rfl) (fun _ _ _ h => h) (Or.inl ⟨by kernel_rfl, ?_⟩) (by assumption) ?_; rotate_left; focus (intro V9 hS9; obtain ⟨j0, j1, j2, j3⟩ := HST.out V9 hS9; go_simp; (try (with_reducible rfl)); done))
      go_frame
      refine wpAnyH_ready (rs := [3, 6]) (by kernel_rfl) (by simp) ?_
      refine AllReadyH.cons rfl (fun K hK => ?_) (AllReadyH.cons rfl (fun K hK => ?_) AllReadyH.nil)
      · skip
        go_simp
        refine hK.out _ _ hSd (fun _ => ?_)
        clear hK K
        (refine wpAnyH_take (i := 5) (v := ?_) rfl (by kernel_rfl) (by kernel_rfl) (by kernel_rfl) (fun _ _ _ h => h) (Or.inl ⟨by kernel_rfl, ?_⟩) (by assumption) ?_; rotate_left; focus (intro _ _; go_simp; (try (with_reducible rfl)); done))
        go_frame
        refine wpAnyH_ready (rs := [6]) (by kernel_rfl) (by simp) ?_
        refine AllReadyH.cons rfl (fun K hK => ?_) AllReadyH.nil
        go_simp
        refine hK.out _ _ hSa (fun _ => ?_)
        clear hK K
        refine wpAnyH_ready (rs := [7]) (by kernel_rfl) (by simp) ?_
        refine AllReadyH.cons rfl (fun K hK => ?_) AllReadyH.nil
        refine step_app (by kernel_rfl) (.tmp 35) (.tmp 38) 23 rfl _ _ _ rfl rfl HRUN.out ?_
        refine hK.out _ _ hbt4 (fun _ => ?_)
        clear hK K
        go_frame
        (refine wpAnyH_take (i := 8) (v := ?_) rfl (by kernel_rfl) (by kernel_rfl) (by kernel_rfl) (fun _ _ _ h => h) (Or.inl ⟨by kernel_rfl, ?_⟩) (by assumption) ?_; rotate_left; focus (intro _ _; go_simp; (try (with_reducible rfl)); done))
        go_frame
        (refine wpAnyH_take (i := 10) (v := ?_) rfl (by kernel_rfl) (by kernel_rfl) (by kernel_rfl) (fun _ _ _ h => h) (Or.inl ⟨by kernel_rfl, ?_⟩) (by assumption) ?_; rotate_left; focus (intro _ _; go_simp; (try (with_reducible rfl)); done))
        go_frame
        (refine wpAnyH_take (i := 11) (v := ?_) rfl (by kernel_rfl) (by kernel_rfl) (by kernel_rfl) (fun _ _ _ h => h) (Or.inl ⟨by kernel_rfl, ?_⟩) (by assumption) ?_; rotate_left; focus (intro _ _; go_simp; (try (with_reducible rfl)); done))
        go_frame
        refine wpAnyH_ready (rs := [9, 12]) (by kernel_rfl) (by simp) ?_
        refine AllReadyH.cons rfl (fun K hK => ?_) (AllReadyH.cons rfl (fun K hK => ?_) AllReadyH.nil)
        · skip
          go_simp
          refine hK.out _ _ ((set4_fr V4 g (n * 4) (.int .i64 e.t.kind) (.int .i64 e.t.int) (.string ⟨e.t.name.toArray⟩) (.slice e.A e.t.items.length e.c)).blk hbt4 (fun e9 => hgt e9.symm)) (fun _ => ?_)
          clear hK K
          refine wpAnyH_ready (rs := [12]) (by kernel_rfl) (by simp) ?_
          refine AllReadyH.cons rfl (fun K hK => ?_) AllReadyH.nil
          go_simp
          refine hK.out _ _ (((set4_fr V4 g (n * 4) (.int .i64 e.t.kind) (.int .i64 e.t.int) (.string ⟨e.t.name.toArray⟩) (.slice e.A e.t.items.length e.c)).blk hbt4 (fun e9 => hgt e9.symm)).far (p := ⟨pb, 0, none⟩) (fun e9 => absurd e9 HNE.out) _) (fun _ => ?_)
          clear hK K
          refine wpAnyH_done (by kernel_rfl) ?_ _
          go_upto_region 10 with (fail)
          refine wp_world (fun V5 => Blk V5 pb 59 #[.slice (some ⟨g, 0, none⟩) (n + 1) cap', .int .i64 (bp : Int)] ∧ V5.ownsRow w0.heap.size 35 4 (.slice (some ⟨g, 0, none⟩) (n + 1) cap') (n + 1) (cellsL (es ++ [e])) ∧ Fr (fun k => k = pb ∨ (Value.slice A n cap).ownBlock = some k) W V5) (HEND.out _ (.inl rfl)) ?_
          rintro V6 ⟨hB6, hO6, hF6⟩
          have k1 := hB6.cell 1
          have kf1 := hB6.frozen 1
          go_wp2_with (fail)
          go_ret
          exact HFIN.out V6 hB6 hO6 hF6
        · skip
          go_simp
          refine hK.out _ _ (hbt4.far (p := ⟨pb, 0, none⟩) (fun e9 => absurd e9 HNE.out) _) (fun _ => ?_)
          clear hK K
          refine wpAnyH_ready (rs := [9]) (by kernel_rfl) (by simp) ?_
          refine AllReadyH.cons rfl (fun K hK => ?_) AllReadyH.nil
          go_simp
          refine hK.out _ _ ((set4_fr (V4.setCell ⟨pb, 0, none⟩ (.slice (some ⟨g, 0, none⟩) (n + 1) cap')) g (n * 4) (.int .i64 e.t.kind) (.int .i64 e.t.int) (.string ⟨e.t.name.toArray⟩) (.slice e.A e.t.items.length e.c)).blk (hbt4.far (p := ⟨pb, 0, none⟩) (fun e9 => by have := hpl3; have := hlt3; exact absurd e9 HNE.out) _) (fun e9 => hgt e9.symm)) (fun _ => ?_)
          clear hK K
          refine wpAnyH_done (by kernel_rfl) ?_ _
          go_upto_region 10 with (fail)
          refine wp_world (fun V5 => Blk V5 pb 59 #[.slice (some ⟨g, 0, none⟩) (n + 1) cap', .int .i64 (bp : Int)] ∧ V5.ownsRow w0.heap.size 35 4 (.slice (some ⟨g, 0, none⟩) (n + 1) cap') (n + 1) (cellsL (es ++ [e])) ∧ Fr (fun k => k = pb ∨ (Value.slice A n cap).ownBlock = some k) W V5) (HEND.out _ (.inr rfl)) ?_
          rintro V6 ⟨hB6, hO6, hF6⟩
          have k1 := hB6.cell 1
          have kf1 := hB6.frozen 1
          go_wp2_with (fail)
          go_ret
          exact HFIN.out V6 hB6 hO6 hF6
      · skip
        go_simp
        refine hK.out _ _ hSa (fun _ => ?_)
        clear hK K
        refine wpAnyH_ready (rs := [3]) (by kernel_rfl) (by simp) ?_
        refine AllReadyH.cons rfl (fun K hK => ?_) AllReadyH.nil
        go_simp
        refine hK.out _ _ hSa (fun _ => ?_)
        clear hK K
        (refine wpAnyH_take (i := 5) (v := ?_) rfl (by kernel_rfl) (by kernel_rfl) (by kernel_rfl) (fun _ _ _ h => h) (Or.inl ⟨by kernel_rfl, ?_⟩) (by assumption) ?_; rotate_left; focus (intro _ _; go_simp; (try (with_reducible rfl)); done))
        go_frame
        refine wpAnyH_ready (rs := [7]) (by kernel_rfl) (by simp) ?_
        refine AllReadyH.cons rfl (fun K hK => ?_) AllReadyH.nil
        refine step_app (by kernel_rfl) (.tmp 35) (.tmp 38) 23 rfl _ _ _ rfl rfl HRUN.out ?_
        refine hK.out _ _ hbt4 (fun _ => ?_)
        clear hK K
        go_frame
        (refine wpAnyH_take (i := 8) (v := ?_) rfl (by kernel_rfl) (by kernel_rfl) (by kernel_rfl) (fun _ _ _ h => h) (Or.inl ⟨by kernel_rfl, ?_⟩) (by assumption) ?_; rotate_left; focus (intro _ _; go_simp; (try (with_reducible rfl)); done))
        go_frame
        (refine wpAnyH_take (i := 10) (v := ?_) rfl (by kernel_rfl) (by kernel_rfl) (by kernel_rfl) (fun _ _ _ h => h) (Or.inl ⟨by kernel_rfl, ?_⟩) (by assumption) ?_; rotate_left; focus (intro _ _; go_simp; (try (with_reducible rfl)); done))
        go_frame
        (refine wpAnyH_take (i := 11) (v := ?_) rfl (by kernel_rfl) (by kernel_rfl) (by kernel_rfl) (fun _ _ _ h => h) (Or.inl ⟨by kernel_rfl, ?_⟩) (by assumption) ?_; rotate_left; focus (intro _ _; go_simp; (try (with_reducible rfl)); done))
        go_frame
        refine wpAnyH_ready (rs := [9, 12]) (by kernel_rfl) (by simp) ?_
        refine AllReadyH.cons rfl (fun K hK => ?_) (AllReadyH.cons rfl (fun K hK => ?_) AllReadyH.nil)
        · skip
          go_simp
          refine hK.out _ _ ((set4_fr V4 g (n * 4) (.int .i64 e.t.kind) (.int .i64 e.t.int) (.string ⟨e.t.name.toArray⟩) (.slice e.A e.t.items.length e.c)).blk hbt4 (fun e9 => hgt e9.symm)) (fun _ => ?_)
          clear hK K
          refine wpAnyH_ready (rs := [12]) (by kernel_rfl) (by simp) ?_
          refine AllReadyH.cons rfl (fun K hK => ?_) AllReadyH.nil
          go_simp
          refine hK.out _ _ (((set4_fr V4 g (n * 4) (.int .i64 e.t.kind) (.int .i64 e.t.int) (.string ⟨e.t.name.toArray⟩) (.slice e.A e.t.items.length e.c)).blk hbt4 (fun e9 => hgt e9.symm)).far (p := ⟨pb, 0, none⟩) (fun e9 => absurd e9 HNE.out) _) (fun _ => ?_)
          clear hK K
          refine wpAnyH_done (by kernel_rfl) ?_ _
          go_upto_region 10 with (fail)
          refine wp_world (fun V5 => Blk V5 pb 59 #[.slice (some ⟨g, 0, none⟩) (n + 1) cap', .int .i64 (bp : Int)] ∧ V5.ownsRow w0.heap.size 35 4 (.slice (some ⟨g, 0, none⟩) (n + 1) cap') (n + 1) (cellsL (es ++ [e])) ∧ Fr (fun k => k = pb ∨ (Value.slice A n cap).ownBlock = some k) W V5) (HEND.out _ (.inl rfl)) ?_
          rintro V6 ⟨hB6, hO6, hF6⟩
          have k1 := hB6.cell 1
          have kf1 := hB6.frozen 1
          go_wp2_with (fail)
          go_ret
          exact HFIN.out V6 hB6 hO6 hF6
        · skip
          go_simp
          refine hK.out _ _ (hbt4.far (p := ⟨pb, 0, none⟩) (fun e9 => absurd e9 HNE.out) _) (fun _ => ?_)
          clear hK K
          refine wpAnyH_ready (rs := [9]) (by kernel_rfl) (by simp) ?_
          refine AllReadyH.cons rfl (fun K hK => ?_) AllReadyH.nil
          go_simp
          refine hK.out _ _ ((set4_fr (V4.setCell ⟨pb, 0, none⟩ (.slice (some ⟨g, 0, none⟩) (n + 1) cap')) g (n * 4) (.int .i64 e.t.kind) (.int .i64 e.t.int) (.string ⟨e.t.name.toArray⟩) (.slice e.A e.t.items.length e.c)).blk (hbt4.far (p := ⟨pb, 0, none⟩) (fun e9 => by have := hpl3; have := hlt3; exact absurd e9 HNE.out) _) (fun e9 => hgt e9.symm)) (fun _ => ?_)
          clear hK K
          refine wpAnyH_done (by kernel_rfl) ?_ _
          go_upto_region 10 with (fail)
          refine wp_world (fun V5 => Blk V5 pb 59 #[.slice (some ⟨g, 0, none⟩) (n + 1) cap', .int .i64 (bp : Int)] ∧ V5.ownsRow w0.heap.size 35 4 (.slice (some ⟨g, 0, none⟩) (n + 1) cap') (n + 1) (cellsL (es ++ [e])) ∧ Fr (fun k => k = pb ∨ (Value.slice A n cap).ownBlock = some k) W V5) (HEND.out _ (.inr rfl)) ?_
          rintro V6 ⟨hB6, hO6, hF6⟩
          have k1 := hB6.cell 1
          have kf1 := hB6.frozen 1
          go_wp2_with (fail)
          go_ret
          exact HFIN.out V6 hB6 hO6 hF6
  · have HE := Lib.hid (show putE es e.t = checkP [e.t] by unfold putE; rw [if_pos hck])
    have HS := Lib.hid (show putS es e = es by unfold putS; rw [HE.out, if_neg hck])
    have hne : ((checkP [e.t] : Nat) : Int) ≠ 0 := by omega
    obtain ⟨ck, hck2⟩ : ∃ ck, checkP [e.t] = ck := ⟨_, rfl⟩
    rw [hck2] at HCK hne
    have hd : ((ck : Int) != 0) = true := by rw [bne_iff_ne]; exact hne
    have HC2 := Lib.hid hck2
    clear hck hck2 hne
    go_enter Try.func13, Try.ntmps13
    go_upto_region 3 with (fail)
    refine wp_world (PT w0 pb A cap es e W) HPT.out ?_
    intro V1 hP1
    have t0 : V1.cell? ⟨W.heap.size, 0, none⟩ = some (.int .i64 e.t.kind) := hP1.t.cell 0
    have t1 : V1.cell? ⟨W.heap.size, 1, none⟩ = some (.int .i64 e.t.int) := hP1.t.cell 1
    have t2 : V1.cell? ⟨W.heap.size, 2, none⟩ = some (.string ⟨e.t.name.toArray⟩) := hP1.t.cell 2
    have t3 : V1.cell? ⟨W.heap.size, 3, none⟩ = some (.slice e.A e.t.items.length e.c) := hP1.t.cell 3
    have HC1 := Lib.hid (HCK.out (V1.alloc (.cells e.cells.toArray 35)) V1.heap.size (below_step hP1.box.bel (below_alloc _ _)) (Blk.new _ _ _))
    go_wp2_with (go_at_call 27; refine HC1.out.mono ?_; rintro r V2 ⟨rfl, hb2⟩)
    go_ret
    have hP2 := hP1.keep (below_step (below_alloc _ _) hb2)
    exact ⟨by rw [HE.out, HC2.out]; rfl, A, cap, by rw [HS.out]; exact hP2.box, Fr.of_below hP2.bel _, by rw [HS.out]; exact fun g hg => .inl hg⟩
end
end Go.Proofs.Ythmlpiiajlfmcaa
