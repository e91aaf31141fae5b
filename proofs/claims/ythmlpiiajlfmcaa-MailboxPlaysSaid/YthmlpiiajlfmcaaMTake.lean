/- The walk of the box's Take of layer 17. -/
import Derived.Test.YthmlpiiajlfmcaaMDel
namespace Go.Proofs.Ythmlpiiajlfmcaa
open Go.RowKit
set_option linter.unusedVariables false

theorem own_open {V : World} {base n cap : Nat} {A : Option Addr} {e : TypeId} {cs : List Value} (ho : V.ownsRow base e 4 (.slice A n cap) n cs) (hn : 0 < n) :
    ∃ g tl, A = some ⟨g, 0, none⟩ ∧ base ≤ g ∧ Blk V g e (cs ++ tl).toArray ∧ n ≤ cap ∧ cap ≤ maxLen ∧ (cs ++ tl).length = cap * 4 := by
  rcases ho.2 with ⟨hv, hz⟩ | ⟨g, cap', cur, hv, hb, hg, hnc, hcm, hsz, htk⟩
  · omega
  · obtain ⟨rfl, _, rfl⟩ := Value.slice.inj hv
    have hc : cs ++ cur.toList.drop (n * 4) = cur.toList := by rw [← htk, List.take_append_drop]
    exact ⟨g, cur.toList.drop (n * 4), rfl, hb, by rw [hc]; exact hg, hnc, hcm, by rw [hc]; simpa using hsz⟩
theorem own_make {V : World} {base n cap g : Nat} {e : TypeId} {cs tl : List Value} (hb : base ≤ g) (hg : Blk V g e (cs ++ tl).toArray) (hn : n ≤ cap) (hc : cap ≤ maxLen) (hl : (cs ++ tl).length = cap * 4) (hcs : cs.length = n * 4) : V.ownsRow base e 4 (.slice (some ⟨g, 0, none⟩) n cap) n cs :=
  ⟨hcs, .inr ⟨g, cap, _, rfl, hb, hg, hn, hc, by simpa using hl, by rw [← hcs]; simp⟩⟩

theorem bp_world {P : Program} {fn : Func} {R : Ending → World → Prop} {ex : Exit} {a : Act} {w : World} (F : World → Prop) (hF : F w) (h : ∀ w', F w' → bodyPost P fn R ex a w') : bodyPost P fn R ex a w := h w hF

section
variable {w0 W W' V : World} {pb : Nat} {A : Option Addr} {cap : Nat} {es : List (TE w0)}
theorem partsL_erase : ∀ (l : List TV) (k : Nat) (h : k < l.length), TV.partsL l = TV.partsL (l.eraseIdx k) + l[k].parts
  | t :: r, 0, _ => by simp [TV.partsL]; omega
  | t :: r, k + 1, h => by
    simp only [List.eraseIdx_cons_succ, TV.partsL, List.getElem_cons_succ]
    rw [partsL_erase r k (by simpa using h)]
    omega
theorem map_erase {α β : Type} (f : α → β) : ∀ (l : List α) (k : Nat), (l.eraseIdx k).map f = (l.map f).eraseIdx k
  | [], k => by simp
  | a :: r, 0 => by simp
  | a :: r, k + 1 => by simp [map_erase f r k]
theorem bparts_erase (es : List (TE w0)) (k : Nat) (h : k < es.length) : bparts es = bparts (es.eraseIdx k) + es[k].t.parts := by
  unfold bparts
  rw [map_erase, partsL_erase (es.map (·.t)) k (by simpa using h), List.getElem_map]
theorem BOk.erase (h : BOk es) (k : Nat) (hk : k < es.length) : BOk (es.eraseIdx k) :=
  ⟨Nat.le_trans (List.length_eraseIdx_le es k) h.len, by have := bparts_erase es k hk; have := h.parts; omega, fun e he => h.each e (List.mem_of_mem_eraseIdx he), fun e he => h.named e (List.mem_of_mem_eraseIdx he)⟩

set_option maxHeartbeats 1000000 in
theorem btake_out (h : BoxAt w0 pb A cap es W) (i : Int) (hi : i < 0 ∨ (es.length : Int) ≤ i) :
    Calls Try.prog 15 #[.pointer (some ⟨pb, 0, none⟩), .int .i64 i] W fun e w' => e = .returned (.tuple #[.agg #[.int .i64 0, .int .i64 0, .string ⟨#[]⟩, .slice none 0 0], .int .i64 2]) ∧ Below W.heap.size W w' := by
  have c0 := h.obj.cell 0
  have hlt := h.obj.lt
  generalize es.length = n at *
  rcases Decidable.em (i < 0) with hi0 | hi0
  · have d1 : decide (i < 0) = true := by simpa using hi0
    go_enter Try.func15, Try.ntmps15
    go_wp2
    exact bodyPost_ret (v := .tuple #[.agg #[.int .i64 0, .int .i64 0, .string ⟨#[]⟩, .slice none 0 0], .int .i64 2]) (by simp [results, Try.results15, go_sem]) rfl ⟨rfl, below_alloc _ _⟩
  · have d1 : decide (i < 0) = false := by simpa using hi0
    have d2 : decide ((n : Int) ≤ i) = true := by simp; omega
    go_enter Try.func15, Try.ntmps15
    go_wp2
    exact bodyPost_ret (v := .tuple #[.agg #[.int .i64 0, .int .i64 0, .string ⟨#[]⟩, .slice none 0 0], .int .i64 2]) (by simp [results, Try.results15, go_sem]) rfl ⟨rfl, below_alloc _ _⟩

structure TK (w0 : World) (pb g n bp cap rb tb : Nat) (e : TE w0) (cs tl : List Value) (W V : World) : Prop where
  obj : Blk V pb 59 #[.slice (some ⟨g, 0, none⟩) n cap, .int .i64 (bp : Int)]
  row : Blk V g 35 (cs ++ tl).toArray
  r : Blk V rb 35 zero4.toArray
  t : Blk V tb 35 e.cells.toArray
  fr : Fr (fun k => k = pb ∨ k = g) W V
  bel : Below w0.heap.size w0 V
theorem TK.keep {g n bp rb tb : Nat} {e : TE w0} {cs tl : List Value} (h : TK w0 pb g n bp cap rb tb e cs tl W V) (hb : Below V.heap.size V W') : TK w0 pb g n bp cap rb tb e cs tl W W' :=
  ⟨h.obj.keep hb, h.row.keep hb, h.r.keep hb, h.t.keep hb, h.fr.same (Fr.of_below hb _), below_step h.bel hb⟩

set_option maxRecDepth 100000 in
set_option maxHeartbeats 2000000 in
theorem btake_in (h : BoxAt w0 pb A cap es W) (i : Nat) (hi : i < es.length) :
    Calls Try.prog 15 #[.pointer (some ⟨pb, 0, none⟩), .int .i64 (i : Int)] W fun r w' => r = .returned (.tuple #[es[i].agg, .int .i64 0]) ∧ BoxAt w0 pb A cap (es.eraseIdx i) w' ∧ Fr (fun k => k = pb ∨ (Value.slice A es.length cap).ownBlock = some k) W w' := by
  obtain ⟨g, tl, rfl, hg0, hgB, hnc, hcm, hcl⟩ := own_open h.row (by omega)
  have hgp : g ≠ pb := h.nrow rfl
  have hpl := h.obj.lt
  have hgl := hgB.lt
  have hp4 := h.ok.each es[i] (List.getElem_mem hi)
  have HSZ := Lib.hid (fun V (hb : Below w0.heap.size w0 V) => size_any es[i].t es[i].A es[i].c w0 V hb es[i].ok)
  rw [show sizeP es[i].t.parts = es[i].t.parts by unfold sizeP; rw [if_pos hp4]] at HSZ
  have hpe := bparts_erase es i hi
  have hbp := h.ok.parts
  have hbl := h.ok.len
  -- the row in three
  have hsp : cellsL es = cellsL (es.take i) ++ es[i].cells ++ cellsL (es.drop (i + 1)) := by
    rw [← cellsL_one, ← cellsL_append, ← cellsL_append, List.append_assoc, List.singleton_append, ← List.drop_eq_getElem_cons hi, List.take_append_drop]
  have her : es.eraseIdx i = es.take i ++ es.drop (i + 1) := List.eraseIdx_eq_take_drop_succ es i
  have hoc := fun (V : World) (hb : Blk V g 35 (cellsL es ++ tl).toArray) => own_cell (own_make (base := 0) (Nat.zero_le g) hb hnc hcm hcl (cellsL_len es)) hi
  have hN : (cellsL es).length = es.length * 4 := cellsL_len es
  have HDEL := Lib.hid (fun (V : World) (hb : Blk V g 35 (cellsL es ++ tl).toArray) => tdel_any g es.length cap i (cellsL (es.take i)) (cellsL (es.drop (i + 1))) tl _ _ _ _ V (by rw [hsp] at hb; exact hb) (by rw [cellsL_len]; simp; omega) (by rw [cellsL_len]; simp) hi hnc (by unfold maxLen at hcm; omega) (cellsL_one' _))
  have hok := h.ok.erase i hi
  have hel : (es.eraseIdx i).length = es.length - 1 := List.length_eraseIdx_of_lt hi
  have HEND : Hid (∀ V, Blk V pb 59 #[.slice (some ⟨g, 0, none⟩) (es.length - 1) cap, .int .i64 ((bparts (es.eraseIdx i) : Nat) : Int)] → Blk V g 35 (cellsL (es.eraseIdx i) ++ (zero4 ++ tl)).toArray → Fr (fun k => k = pb ∨ k = g) W V → Below w0.heap.size w0 V → BoxAt w0 pb (some ⟨g, 0, none⟩) cap (es.eraseIdx i) V ∧ Fr (fun k => k = pb ∨ (Value.slice (some ⟨g, 0, none⟩) es.length cap).ownBlock = some k) W V) := fun V hVo hVr hVf hVb => by
    refine ⟨⟨by rw [hel]; exact hVo, ?_, hVb, h.lo, hok⟩, hVf.weak fun k _ hk => ?_⟩
    · refine own_make hg0 hVr (by omega) hcm ?_ (by rw [cellsL_len])
      have h9 := hcl
      simp only [List.length_append, cellsL_len] at h9 ⊢
      rw [hel]
      simp only [zero4, List.length_cons, List.length_nil]
      omega
    · rcases hk with rfl | rfl
      · exact .inl rfl
      · exact .inr rfl
  have HB0 := Lib.hid h
  obtain ⟨P, hP⟩ : ∃ P, es[i].t.parts = P := ⟨_, rfl⟩
  obtain ⟨n, hn⟩ : ∃ n, es.length = n := ⟨_, rfl⟩
  obtain ⟨bp, hbpe⟩ : ∃ bp, bparts es = bp := ⟨_, rfl⟩
  obtain ⟨bq, hbqe⟩ : ∃ bq, bparts (es.eraseIdx i) = bq := ⟨_, rfl⟩
  have d1 : decide ((i : Int) < 0) = false := by simp
  have d2 : decide (n ≤ i) = false := by simp; omega
  have HER := Lib.hid her
  have HTE : Hid (∀ V tb, Blk V tb 35 es[i].cells.toArray → V.cell? ⟨tb, 0, none⟩ = some (.int .i64 es[i].t.kind) ∧ V.cell? ⟨tb, 1, none⟩ = some (.int .i64 es[i].t.int) ∧ V.cell? ⟨tb, 2, none⟩ = some (.string ⟨es[i].t.name.toArray⟩) ∧ V.cell? ⟨tb, 3, none⟩ = some (.slice es[i].A es[i].t.items.length es[i].c)) := fun V tb hb => ⟨hb.cell 0, hb.cell 1, hb.cell 2, hb.cell 3⟩
  have HT0 : Hid (TK w0 pb g n bp cap W.heap.size (W.heap.size + 1) es[i] (cellsL es) tl W ((W.alloc (.cells zero4.toArray 35)).alloc (.cells es[i].cells.toArray 35))) := by
    have hb9 := h.obj
    rw [hn, hbpe] at hb9
    have hbn := Blk.new (W.alloc (.cells zero4.toArray 35)) 35 es[i].cells.toArray
    rw [show (W.alloc (.cells zero4.toArray 35)).heap.size = W.heap.size + 1 by simp] at hbn
    exact ⟨(hb9.alloc _).alloc _, (hgB.alloc _).alloc _, (Blk.new _ _ _).alloc _, hbn, (Fr.alloc _ _ _).same (Fr.alloc _ _ _), below_step (below_step h.bel (below_alloc _ _)) (below_alloc _ _)⟩
  have HOC := Lib.hid hoc
  rw [hn] at HDEL HEND hbl
  rw [hP, hbpe, hbqe] at hpe
  rw [hbpe] at hbp
  rw [hP] at HSZ
  rw [hbqe] at HEND
  have HAG : Hid (es[i].agg = .agg #[.int .i64 es[i].t.kind, .int .i64 es[i].t.int, .string ⟨es[i].t.name.toArray⟩, .slice es[i].A es[i].t.items.length es[i].c]) := rfl
  have hin : i < n := by omega
  have HRB := Lib.hid (show W.heap.size ≠ pb ∧ W.heap.size ≠ g ∧ W.heap.size + 1 ≠ pb ∧ W.heap.size + 1 ≠ g by omega)
  obtain ⟨z0, z1, z2, z3⟩ := hoc W hgB
  have hc0 : W.cell? ⟨pb, 0, none⟩ = some (.slice (some ⟨g, 0, none⟩) n cap) := by rw [← hn]; exact h.obj.cell 0
  rw [hn]
  have HG0 := Lib.hid hg0
  clear h hsp her hoc hok hel hn hbpe hbqe hP hN hcl hcm hgB hg0
  generalize es[i] = e at *
  have q1 : (0 : Int) ≤ (i : Int) := by omega
  have q2 : (i : Int) < (n : Int) := by omega
  go_enter Try.func15, Try.ntmps15
  go_upto_region 6 with (fail)
  refine wp_world (TK w0 pb g n bp cap W.heap.size (W.heap.size + 1) e (cellsL es) tl W) HT0.out ?_
  intro V1 hT1
  have c1 : V1.cell? ⟨pb, 0, none⟩ = some (.slice (some ⟨g, 0, none⟩) n cap) := hT1.obj.cell 0
  have HD1 := Lib.hid (HDEL.out V1 hT1.row)
  clear z0 z1 z2 z3 hc0 HT0
  have HB2 : Hid (∀ w2, Blk w2 g 35 (cellsL (es.take i) ++ cellsL (es.drop (i + 1)) ++ zero4 ++ tl).toArray → Fr (fun k => k = g) V1 w2 → Blk w2 pb 59 #[.slice (some ⟨g, 0, none⟩) n cap, .int .i64 (bp : Int)] ∧
      TK w0 pb g (n - 1) bp cap W.heap.size (W.heap.size + 1) e (cellsL (es.eraseIdx i)) (zero4 ++ tl) W (w2.setCell ⟨pb, 0, none⟩ (.slice (some ⟨g, 0, none⟩) (n - 1) cap))) := fun w2 hb hf => by
    obtain ⟨r1, r2, r3, r4⟩ := HRB.out
    have ho := hf.blk hT1.obj (fun e9 => hgp e9.symm)
    have hfs := Fr.setCell (fun k => k = pb ∨ k = g) w2 (p := ⟨pb, 0, none⟩) (fun _ => .inl rfl) (.slice (some ⟨g, 0, none⟩) (n - 1) cap)
    have hfp := Fr.setCell (fun k => k = pb) w2 (p := ⟨pb, 0, none⟩) (fun _ => rfl) (.slice (some ⟨g, 0, none⟩) (n - 1) cap)
    refine ⟨ho, ho.set_ 0 _, ?_, hfp.blk (hf.blk hT1.r r2) r1, hfp.blk (hf.blk hT1.t r4) r3, (hT1.fr.same (hf.weak fun k _ e9 => .inr e9)).same hfs, (hT1.bel.trans (hf.below hT1.bel.size (fun k e9 => by rw [e9]; exact HG0.out))).trans (hfs.below (Nat.le_trans hT1.bel.size hf.size) (fun k e9 => by
      rcases e9 with rfl | rfl
      · exact HB0.out.lo
      · exact HG0.out))⟩
    rw [HER.out, cellsL_append, ← List.append_assoc]
    exact hfp.blk hb hgp
  have qw : IntKind.i64.wrap ((i : Int) + 1) = ((i + 1 : Nat) : Int) := IntWalk.i64_in _ (by omega)
  go_upto_region 7 with (go_at_call 29; refine HD1.out.mono ?_; rintro r w2 ⟨rfl, hb2, hf2⟩; obtain ⟨ho2, hT2⟩ := HB2.out w2 hb2 hf2; have k0 := ho2.cell 0; have kf0 := ho2.frozen 0)
  refine wp_world (TK w0 pb g (n - 1) bp cap W.heap.size (W.heap.size + 1) e (cellsL (es.eraseIdx i)) (zero4 ++ tl) W) hT2 ?_
  intro V3 hT3
  clear HB2 HD1 c1 ho2 hT2 k0 kf0 hb2 hf2 hT1 HDEL HOC
  have HS : Hid (∀ V, Below V3.heap.size V3 V → V.cell? ⟨pb, 1, none⟩ = some (.int .i64 (bp : Int)) ∧ V.cell? ⟨W.heap.size + 1, 0, none⟩ = some (.int .i64 e.t.kind) ∧ V.cell? ⟨W.heap.size + 1, 1, none⟩ = some (.int .i64 e.t.int) ∧ V.cell? ⟨W.heap.size + 1, 2, none⟩ = some (.string ⟨e.t.name.toArray⟩) ∧ V.cell? ⟨W.heap.size + 1, 3, none⟩ = some (.slice e.A e.t.items.length e.c) ∧ V.frozen? ⟨pb, 1, none⟩ = false) := fun V hb => by
    have h9 := hT3.keep hb
    obtain ⟨t0, t1, t2, t3⟩ := HTE.out _ _ h9.t
    exact ⟨h9.obj.cell 1, t0, t1, t2, t3, h9.obj.frozen 1⟩
  have HBE : Hid (∀ V, Below V3.heap.size V3 V → Below w0.heap.size w0 V) := fun V hb => (hT3.keep hb).bel
  have hsu : IntKind.i64.wrap ((bp : Int) - (P : Int)) = (bq : Int) := by rw [IntWalk.i64_in _ (by omega)]; omega
  have HSET : Hid (∀ V, Below V3.heap.size V3 V → TK w0 pb g (n - 1) bq cap W.heap.size (W.heap.size + 1) e (cellsL (es.eraseIdx i)) (zero4 ++ tl) W (V.setCell ⟨pb, 1, none⟩ (.int .i64 (bq : Int)))) := fun V hb => by
    have h9 := hT3.keep hb
    obtain ⟨r1, r2, r3, r4⟩ := HRB.out
    have hfs := Fr.setCell (fun k => k = pb ∨ k = g) V (p := ⟨pb, 1, none⟩) (fun _ => .inl rfl) (.int .i64 (bq : Int))
    have hfp := Fr.setCell (fun k => k = pb) V (p := ⟨pb, 1, none⟩) (fun _ => rfl) (.int .i64 (bq : Int))
    exact ⟨h9.obj.set_ 1 _, hfp.blk h9.row hgp, hfp.blk h9.r r1, hfp.blk h9.t r3, h9.fr.same hfs, h9.bel.trans (hfp.below h9.bel.size (fun k e9 => by rw [e9]; exact HB0.out.lo))⟩
  clear hpe
  have hHS := HS.out V3.drew (Below.refl _ _).drew
  have hbd : Below V3.heap.size V3 V3.drew := (Below.refl _ _).drew
  have t0 := (HS.out V3 (Below.refl _ _)).1
  have HT3 := Lib.hid hT3
  clear hT3
  obtain ⟨d0, d3, d4, d5, d6, d7⟩ := hHS
  go_region_with (go_at_call 28; refine (HSZ.out _ (HBE.out _ hbd)).mono ?_; rintro r w4 ⟨rfl, hb4⟩; obtain ⟨g0, g1, g2, g3, g4, g5⟩ := HS.out w4 (below_step hbd hb4))
  all_goals
    go_upto_region 8 with (fail)
    refine wp_world (TK w0 pb g (n - 1) bq cap W.heap.size (W.heap.size + 1) e (cellsL (es.eraseIdx i)) (zero4 ++ tl) W) (HSET.out _ (below_step hbd hb4)) ?_
    clear d0 d3 d4 d5 d6 d7 g0 g1 g2 g3 g4 g5 hb4 t0 hbd
    intro V6 hT6
    obtain ⟨t0, t1, t2, t3⟩ := HTE.out _ _ hT6.t
    have r0 : V6.cell? ⟨W.heap.size, 0, none⟩ = some (.int .i64 0) := hT6.r.cell 0
    have r1 : V6.cell? ⟨W.heap.size, 1, none⟩ = some (.int .i64 0) := hT6.r.cell 1
    have r2 : V6.cell? ⟨W.heap.size, 2, none⟩ = some (.string ⟨#[]⟩) := hT6.r.cell 2
    have r3 : V6.cell? ⟨W.heap.size, 3, none⟩ = some (.slice none 0 0) := hT6.r.cell 3
    have f0 := hT6.r.frozen 0
    have f1 := hT6.r.frozen 1
    have f2 := hT6.r.frozen 2
    have f3 := hT6.r.frozen 3
    go_wp2
    refine bp_world (fun V => V = set4 V6 W.heap.size 0 (.int .i64 e.t.kind) (.int .i64 e.t.int) (.string ⟨e.t.name.toArray⟩) (.slice e.A e.t.items.length e.c)) rfl ?_
    intro V7 hV7
    have hB7 : Blk V7 W.heap.size 35 e.cells.toArray := by
      rw [hV7]
      exact set4_blk hT6.r 0 _ _ _ _
    obtain ⟨x0, x1, x2, x3⟩ := HTE.out _ _ hB7
    obtain ⟨n1, n2, n3, n4⟩ := HRB.out
    have hf7 : Fr (fun k => k = W.heap.size) V6 V7 := by rw [hV7]; exact set4_fr _ _ _ _ _ _ _
    have hE := HEND.out V7 (hf7.blk hT6.obj (Ne.symm n1)) (hf7.blk hT6.row (Ne.symm n2)) (hT6.fr.trans hf7 (fun k hk e9 => absurd hk (by rw [e9]; exact Nat.lt_irrefl _))) (hT6.bel.trans (hf7.below hT6.bel.size (fun k e9 => by rw [e9]; exact HB0.out.bel.size)))
    clear hV7 hB7 t0 t1 t2 t3 r0 r1 r2 r3 f0 f1 f2 f3 hT6
    rw [HAG.out]
    exact bodyPost_ret (v := .tuple #[.agg #[.int .i64 e.t.kind, .int .i64 e.t.int, .string ⟨e.t.name.toArray⟩, .slice e.A e.t.items.length e.c], .int .i64 0]) (by simp [results, Try.results15, go_sem, x0, x1, x2, x3]) rfl ⟨rfl, hE⟩
end
end Go.Proofs.Ythmlpiiajlfmcaa
