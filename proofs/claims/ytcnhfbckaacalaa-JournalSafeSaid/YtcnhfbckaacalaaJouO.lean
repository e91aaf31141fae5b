/- The walk of Open of layer 6. -/
import Derived.Test.YtcnhfbckaacalaaJouD
namespace Go.Proofs.Ytcnhfbckaacalaa
open Go.RowKit
set_option linter.unusedVariables false

/-- Records read one behind another: by what each reading answers. -/
def jrecs (f : TS → List UInt8 × TS) : Nat → TS → List (List UInt8) → Nat → List (List UInt8) × Nat
  | 0, _, out, safe => (out, safe)
  | k + 1, t, out, safe => if t.bytes.length - t.pos = 0 then (out, safe) else if (f t).2.fault ≠ 0 then (out, safe) else jrecs f k (f t).2 (out ++ [(f t).1]) (f t).2.pos
theorem jrecs_end {f : TS → List UInt8 × TS} {k : Nat} {t : TS} {out : List (List UInt8)} {safe : Nat} (h : t.bytes.length - t.pos = 0 ∨ (f t).2.fault ≠ 0) : jrecs f (k + 1) t out safe = (out, safe) := by
  rw [jrecs]
  by_cases h1 : t.bytes.length - t.pos = 0
  · rw [if_pos h1]
  · rw [if_neg h1, if_pos (h.resolve_left h1)]
theorem jrecs_more {f : TS → List UInt8 × TS} {k : Nat} {t : TS} {out : List (List UInt8)} {safe : Nat} (h1 : t.bytes.length - t.pos ≠ 0) (h2 : (f t).2.fault = 0) : jrecs f (k + 1) t out safe = jrecs f k (f t).2 (out ++ [(f t).1]) (f t).2.pos := by
  rw [jrecs, if_neg h1, if_neg (by simp [h2])]
/-- The records of a stream, how many of its bytes they take. -/
def jopenRecs (s : List UInt8) : List (List UInt8) × Nat := jrecs (fun t => t.str (s.length : Int)) (s.length + 1) ⟨s, 0, 0, 0⟩ [] 0
/-- What Open does: the error, the journal, the records. -/
def jopenP (D : DS) (fr ln ep : Int) : Nat × JV × List (List UInt8) :=
  if fitsB D.nb fr ln = false ∨ ep < 0 ∨ 16777215 < ep then (2, jv0 0 0 0 0, []) else if D.off = true then (20, jv0 0 0 0 0, [])
  else if 1048575 < (jread D fr.toNat ep.toNat ln.toNat 0 0 []).2 + 1 then (6, jv0 0 0 0 0, [])
  else (0, ⟨fr.toNat, ln.toNat, ep.toNat, (jread D fr.toNat ep.toNat ln.toNat 0 0 []).2 + 1, (jread D fr.toNat ep.toNat ln.toNat 0 0 []).1.take (jopenRecs (jread D fr.toNat ep.toNat ln.toNat 0 0 []).1).2, (jopenRecs (jread D fr.toNat ep.toNat ln.toNat 0 0 []).1).2, (jopenRecs (jread D fr.toNat ep.toNat ln.toNat 0 0 []).1).1.length, false⟩, (jopenRecs (jread D fr.toNat ep.toNat ln.toNat 0 0 []).1).1)
section
variable {w0 w w' : World} {pd : Nat} {p : Pl} {D : DS}
def JOpenNo (w : World) (e : Nat) (r : Ending) (w' : World) : Prop := r = .returned (.tuple #[.pointer none, .slice none 0 0, .int .i64 (e : Int)]) ∧ Below w.heap.size w w'
set_option maxRecDepth 100000 in
set_option maxHeartbeats 2000000 in
theorem jopen_arg (h : DiskAt pd p D w) (ok : D.Ok) (fr ln ep : Int) (hno : fitsB D.nb fr ln = false ∨ ep < 0 ∨ 16777215 < ep) :
    Calls Try.prog 12 #[.pointer (some ⟨pd, 0, none⟩), .agg #[.int .i64 fr, .int .i64 ln], .int .i64 ep] w (JOpenNo w 2) := by
  have HF := Lib.hid (jfits_any (h.keep (below_alloc w (.cells #[.int .i64 fr, .int .i64 ln] 34))) ok fr ln)
  have hB : Blk (w.alloc (.cells #[.int .i64 fr, .int .i64 ln] 34)) w.heap.size 34 #[.int .i64 fr, .int .i64 ln] := Blk.new _ _ _
  have e0 : (w.alloc (.cells #[.int .i64 fr, .int .i64 ln] 34)).cell? ⟨w.heap.size, 0, none⟩ = some (.int .i64 fr) := hB.cell 0
  have e1 : (w.alloc (.cells #[.int .i64 fr, .int .i64 ln] 34)).cell? ⟨w.heap.size, 1, none⟩ = some (.int .i64 ln) := hB.cell 1
  have HBL := Lib.hid (below_alloc w (.cells #[.int .i64 fr, .int .i64 ln] 34))
  obtain ⟨fb, hfb⟩ : ∃ fb, fitsB D.nb fr ln = fb := ⟨_, rfl⟩
  rw [hfb] at HF hno
  clear h ok hB hfb
  cases fb with
  | false =>
    clear hno
    go_enter Try.func12, Try.ntmps12
    go_wp2_with (go_at_call 38; refine HF.out.mono ?_; rintro r w1 ⟨rfl, hb1⟩)
    refine bodyPost_ret (v := .tuple #[.pointer none, .slice none 0 0, .int .i64 2]) (by simp [results, Try.results12, go_sem]) rfl ⟨rfl, below_step HBL.out hb1⟩
  | true =>
    by_cases h1 : ep < 0
    · have d1 : decide (ep < 0) = true := by simpa using h1
      clear hno h1
      go_enter Try.func12, Try.ntmps12
      go_wp2_with (go_at_call 38; refine HF.out.mono ?_; rintro r w1 ⟨rfl, hb1⟩)
      refine bodyPost_ret (v := .tuple #[.pointer none, .slice none 0 0, .int .i64 2]) (by simp [results, Try.results12, go_sem]) rfl ⟨rfl, below_step HBL.out hb1⟩
    · have d1 : decide (ep < 0) = false := by simpa using h1
      have d2 : decide (16777215 < ep) = true := by
        rcases hno with h9 | h9 | h9
        · cases h9
        · exact absurd h9 h1
        · simpa using h9
      clear hno h1
      go_enter Try.func12, Try.ntmps12
      go_wp2_with (go_at_call 38; refine HF.out.mono ?_; rintro r w1 ⟨rfl, hb1⟩)
      refine bodyPost_ret (v := .tuple #[.pointer none, .slice none 0 0, .int .i64 2]) (by simp [results, Try.results12, go_sem]) rfl ⟨rfl, below_step HBL.out hb1⟩
set_option maxRecDepth 100000 in
set_option maxHeartbeats 2000000 in
theorem jopen_dead (h : DiskAt pd p D w) (ok : D.Ok) (fr ln ep : Int) (hfb : fitsB D.nb fr ln = true) (h1 : 0 ≤ ep) (h2 : ep ≤ 16777215) (hoff : D.off = true) :
    Calls Try.prog 12 #[.pointer (some ⟨pd, 0, none⟩), .agg #[.int .i64 fr, .int .i64 ln], .int .i64 ep] w (JOpenNo w 20) := by
  have HF := Lib.hid (jfits_any (h.keep (below_alloc w (.cells #[.int .i64 fr, .int .i64 ln] 34))) ok fr ln)
  have HDE : Hid (∀ V, Below w.heap.size w V → Calls Try.prog 39 #[.pointer (some ⟨pd, 0, none⟩)] V fun e w' => e = .returned (.bool true) ∧ V = w') := fun V hV => by
    have h9 := dead_any (h.keep hV)
    rw [hoff] at h9
    exact h9
  have hB : Blk (w.alloc (.cells #[.int .i64 fr, .int .i64 ln] 34)) w.heap.size 34 #[.int .i64 fr, .int .i64 ln] := Blk.new _ _ _
  have e0 : (w.alloc (.cells #[.int .i64 fr, .int .i64 ln] 34)).cell? ⟨w.heap.size, 0, none⟩ = some (.int .i64 fr) := hB.cell 0
  have e1 : (w.alloc (.cells #[.int .i64 fr, .int .i64 ln] 34)).cell? ⟨w.heap.size, 1, none⟩ = some (.int .i64 ln) := hB.cell 1
  have HBL := Lib.hid (below_alloc w (.cells #[.int .i64 fr, .int .i64 ln] 34))
  have d1 : decide (ep < 0) = false := by simp; omega
  have d2 : decide (16777215 < ep) = false := by simp; omega
  rw [hfb] at HF
  clear h ok hB hfb hoff
  go_enter Try.func12, Try.ntmps12
  go_wp2_with (first
    | (go_at_call 38; refine HF.out.mono ?_; rintro r w1 ⟨rfl, hb1⟩)
    | (go_at_call 39; refine (HDE.out _ (below_step HBL.out hb1)).mono ?_; rintro r w2 ⟨rfl, rfl⟩))
  refine bodyPost_ret (v := .tuple #[.pointer none, .slice none 0 0, .int .i64 20]) (by simp [results, Try.results12, go_sem]) rfl ⟨rfl, below_step HBL.out hb1⟩

/-- Bytes of a text's, in new memory. -/
theorem jbytes_of (W : World) (x : List UInt8) (hx : x.length ≤ 1000000000) :
    ∃ c W', (convert 9 23 (.string ⟨x.toArray⟩)).run Try.prog W = .ok (.slice (some ⟨W.heap.size, 0, none⟩) x.length c) W' ∧ Rd W' (some ⟨W.heap.size, 0, none⟩) x ∧ x.length ≤ c ∧ Below W.heap.size W W' ∧ W.heap.size < W'.heap.size := by
  have hcv := run_bytes_of_string (P := Try.prog) W 9 23 5 ⟨x.toArray⟩ Try.underlying9 Try.underlying23 Try.underlying5
  have hsz : (⟨x.toArray⟩ : ByteArray).size = x.length := by show x.toArray.size = _; simp
  have hG := grownCap_ge W (⟨x.toArray⟩ : ByteArray).size 0 5
  rw [hsz] at hcv hG
  generalize grownCap W x.length 0 5 = G at *
  refine ⟨G, _, hcv, ?_, hG, below_step (b := W.drew) (Below.refl _ _).drew (below_alloc W.drew _), by simp⟩
  refine .inr ⟨W.heap.size, 0, rfl, fun j hj => ?_⟩
  have hc2 := cell_of_row (W.drew.alloc (.cells (bytesRow ⟨x.toArray⟩ G) 5 ((bytesRow ⟨x.toArray⟩ G).size, (bytesRow ⟨x.toArray⟩ G).size + 1))) W.heap.size (0 + j) (bytesRow ⟨x.toArray⟩ G) 5 ((bytesRow ⟨x.toArray⟩ G).size, (bytesRow ⟨x.toArray⟩ G).size + 1) (heap_alloc_new W.drew _)
  rw [hc2, Nat.zero_add]
  unfold bytesRow
  rw [Array.getElem?_append_left (by simpa using hj)]
  simp [bv, hj]
end
/-- Records in memory: a row of slices of the call's own; each reads as its bytes, which lie in memory of the call's own. -/
structure Recs (base : Nat) (w : World) (v : Value) (rs : List (List UInt8)) (vals : List Value) : Prop where
  own : w.ownsRow base 23 1 v rs.length vals
  each : ∀ j (h : j < rs.length), ∃ B c, vals[j]? = some (.slice B (rs[j]).length c) ∧ Rd w B rs[j] ∧ ∀ b off, B = some ⟨b, off, none⟩ → base ≤ b ∧ b < w.heap.size ∧ v.ownBlock ≠ some b
theorem Recs.nil_ (base : Nat) (w : World) : Recs base w (.slice none 0 0) [] [] := ⟨World.ownsRow_nil _ _ _ _, fun j h => by simp at h⟩
theorem Recs.far {base : Nat} {w w' : World} {v : Value} {rs : List (List UInt8)} {vals : List Value} {F : Nat → Prop} (h : Recs base w v rs vals) (hf : Fr F w w') (hF : ∀ k, F k → k < base) : Recs base w' v rs vals := by
  refine ⟨⟨h.own.1, ?_⟩, fun j hj => ?_⟩
  · rcases h.own.2 with hn | ⟨g, cap', cur, hv, hb, hh, rest⟩
    · exact .inl hn
    · have hg := (World.ownsRow.lt h.own g (by rw [hv]; rfl)).2
      exact .inr ⟨g, cap', cur, hv, hb, (hf.block g hg (fun e => by have := hF g e; omega)).trans hh, rest⟩
  · obtain ⟨B, c, h1, h2, h3⟩ := h.each j hj
    refine ⟨B, c, h1, hf.rd h2 (fun b off e _ e2 => by have := (h3 b off e).1; have := hF b e2; omega), fun b off e => ?_⟩
    have h4 := h3 b off e
    have := hf.size
    exact ⟨h4.1, by omega, h4.2.2⟩
theorem Recs.keep {base : Nat} {w w' : World} {v : Value} {rs : List (List UInt8)} {vals : List Value} (h : Recs base w v rs vals) (hb : Below w.heap.size w w') : Recs base w' v rs vals := h.far (Fr.of_below hb (fun _ => False)) (fun _ e => e.elim)
/-- A record more: its bytes lie in new memory, its slice was laid behind the row. -/
theorem Recs.step {base : Nat} {w w1 w2 : World} {v v' : Value} {rs : List (List UInt8)} {vals : List Value} {x : List UInt8} {c : Nat} {o : Obj} (h : Recs base w v rs vals) (hbs : base ≤ w.heap.size) (hb : Below w.heap.size w w1) (hlt : w.heap.size < w1.heap.size) (hx : Rd w1 (some ⟨w.heap.size, 0, none⟩) x)
    (ho : w2.ownsRow base 23 1 v' (rs.length + 1) (vals ++ [.slice (some ⟨w.heap.size, 0, none⟩) x.length c])) (hg : (w1.alloc o).grownBy w2 v.ownBlock) (hv : v'.ownBlock = v.ownBlock ∨ v'.ownBlock = some (w1.alloc o).heap.size) : Recs base w2 v' (rs ++ [x]) (vals ++ [.slice (some ⟨w.heap.size, 0, none⟩) x.length c]) := by
  have hvl : vals.length = rs.length := by have := h.own.1; omega
  have hb1 : Below w.heap.size w (w1.alloc o) := below_step hb (below_alloc _ _)
  have hf : Fr (fun k => v.ownBlock = some k) (w1.alloc o) w2 := Fr.of_grown hg (fun k e _ => e)
  have hs2 := hf.size
  have hs1 : (w1.alloc o).heap.size = w1.heap.size + 1 := by simp
  have hbsz := hb.size
  refine ⟨by rw [List.length_append]; exact ho, fun j hj => ?_⟩
  rw [List.length_append] at hj
  simp only [List.length_cons, List.length_nil] at hj
  by_cases hjl : j < rs.length
  · obtain ⟨B, c', h1, h2, h3⟩ := (h.keep hb1).each j hjl
    refine ⟨B, c', ?_, ?_, fun b off e => ?_⟩
    · rw [List.getElem?_append_left (by omega), List.getElem_append_left hjl]; exact h1
    · rw [List.getElem_append_left hjl]
      exact hf.rd h2 (fun b off e _ e2 => (h3 b off e).2.2 e2)
    · have h4 := h3 b off e
      have h5 := (h.each j hjl)
      refine ⟨h4.1, by omega, ?_⟩
      rcases hv with e9 | e9
      · rw [e9]; exact h4.2.2
      · rw [e9]
        intro e8
        injection e8 with e8
        omega
  · obtain rfl : j = rs.length := by omega
    refine ⟨some ⟨w.heap.size, 0, none⟩, c, ?_, ?_, fun b off e => ?_⟩
    · rw [List.getElem?_append_right (by omega)]
      simp [hvl]
    · simp only [List.getElem_append_right (Nat.le_refl _), Nat.sub_self, List.getElem_cons_zero]
      exact hf.rd (hx.below (below_alloc _ _)) (fun b off e _ e2 => by
        injection e with e
        injection e with e _
        have := (World.ownsRow.lt h.own b e2).2
        omega)
    · injection e with e
      injection e with e _
      refine ⟨by omega, by omega, ?_⟩
      rcases hv with e9 | e9
      · rw [e9]
        intro e8
        have := (World.ownsRow.lt h.own b e8).2
        omega
      · rw [e9]
        intro e8
        injection e8 with e8
        omega
/-- A journal under way (of any kind), and its disk. -/
structure JX (w0 : World) (pj : Nat) (v : Value) (J : JV) (pd : Nat) (p : Pl) (D : DS) (w : World) : Prop where
  disk : DiskAt pd p D w
  obj : Blk w pj 74 (jcells pd J v)
  bel : Below w0.heap.size w0 w
  lo : w0.heap.size ≤ pj
  sep : ¬ p.F pd pj
section
variable {w0 w w' : World} {pj pd : Nat} {v : Value} {J J' : JV} {p : Pl} {D : DS}
theorem JX.keep (h : JX w0 pj v J pd p D w) (hb : Below w.heap.size w w') : JX w0 pj v J pd p D w' := ⟨h.disk.keep hb, h.obj.keep hb, below_step h.bel hb, h.lo, h.sep⟩
theorem JX.far {F : Nat → Prop} (h : JX w0 pj v J pd p D w) (hf : Fr F w w') (h1 : ¬ F pj) (h2 : ∀ k, p.F pd k → ¬ F k) (h3 : ∀ k, F k → w0.heap.size ≤ k) : JX w0 pj v J pd p D w' := ⟨h.disk.far hf h2, hf.blk h.obj h1, h.bel.trans (hf.below h.bel.size h3), h.lo, h.sep⟩
theorem JX.set_ (h : JX w0 pj v J pd p D w) (i : Nat) (u : Value) (v' : Value) (hc : (jcells pd J v).setIfInBounds i u = jcells pd J' v') : JX w0 pj v' J' pd p D (w.setCell ⟨pj, i, none⟩ u) := by
  have hf := Fr.setCell (fun k => k = pj) w (p := ⟨pj, i, none⟩) (fun _ => rfl) u
  have hlo := h.lo
  have hobj := h.obj.set_ i u
  rw [hc] at hobj
  exact ⟨h.disk.far hf (fun k hk e => h.sep (e ▸ hk)), hobj, h.bel.trans (hf.below h.bel.size (fun k e => by omega)), h.lo, h.sep⟩
theorem JR.jx {fr len ep life : Nat} (h : JR w0 pj pd p D fr len ep life w) : JX w0 pj (.slice none 0 0) (jv0 fr len ep life) pd p D w := ⟨h.disk, h.obj, h.bel, h.lo, h.sep⟩
end
end Go.Proofs.Ytcnhfbckaacalaa
