/- A journal, its disk and what else a statement of layer 6 holds in memory: what an act leaves as it was. A journal on a disk whose power fails: plain laws; the acts of the disk beside a journal. -/
import Derived.Test.YtcnhfbckaacalaaJSame
import Derived.Test.YtcnhfbckaacalaaLibI
namespace Go.Proofs.Ytcnhfbckaacalaa
section
open Go.RowKit
set_option linter.unusedVariables false

/-- The blocks of a journal and its disk. -/
def JF (pd : Nat) (p : Pl) (pj : Nat) (v : Value) (k : Nat) : Prop := p.F pd k ∨ k = pj ∨ v.ownBlock = some k
def jb (V : World) (pd : Nat) (p : Pl) (pj : Nat) (v : Value) : Bas := ⟨V, JF pd p pj v⟩
section
variable {b0 : Bas} {w V V' : World} {pj pd pa ln : Nat} {v v' u u' : Value} {J J' : JV} {p p' : Pl} {D D' : DS} {rs : List (List UInt8)} {base : Nat}
theorem JD.jf_q (h : JD b0 pj v J pd p D V) {k : Nat} (hk : JF pd p pj v k) : b0.Q k := by
  rcases hk with hk | rfl | hk
  · exact h.loD k hk
  · exact h.lo
  · exact h.loV k hk
theorem JD.jf_lt (h : JD b0 pj v J pd p D V) {k : Nat} (hk : JF pd p pj v k) : k < V.heap.size := by
  rcases hk with hk | rfl | hk
  · exact h.disk.lt k hk
  · exact h.obj.lt
  · exact h.str.lt k hk
/-- From here on. -/
theorem JD.anew (h : JD b0 pj v J pd p D V) : JD (jb V pd p pj v) pj v J pd p D V :=
  ⟨h.disk, h.obj, h.str, Fr.refl _ _, .inr (.inr (.inl rfl)), fun k hk => .inr (.inr (.inr hk)), fun k hk => .inr (.inl hk), h.sep, h.sepV, h.ok, h.jok⟩
/-- And back. -/
theorem JD.back (h : JD b0 pj v J pd p D V) (a : JD (jb V pd p pj v) pj v' J' pd p' D' V') : JD b0 pj v' J' pd p' D' V' := by
  have hs := h.belx.size
  have hq : ∀ k, (jb V pd p pj v).Q k → b0.Q k := fun k hk => by
    rcases hk with hk | hk
    · exact .inl (Nat.le_trans hs hk)
    · exact h.jf_q hk
  exact ⟨a.disk, a.obj, a.str, h.belx.join a.belx (fun k hk => h.jf_q hk), hq _ a.lo, fun k hk => hq _ (a.loV k hk), fun k hk => hq _ (a.loD k hk), a.sep, a.sepV, a.ok, a.jok⟩
theorem JD.jf_far (a : JD (jb V pd p pj v) pj v' J' pd p' D' V') {g : Nat} (hg : g < V.heap.size) (hn : ¬ JF pd p pj v g) : ¬ JF pd p' pj v' g := fun hk => by
  rcases a.jf_q hk with h9 | h9
  · have : V.heap.size ≤ g := h9
    omega
  · exact hn h9
/-- A journal and its disk, the area's object beside them. -/
structure JZ (w : World) (pa ln pj : Nat) (v : Value) (J : JV) (pd : Nat) (p : Pl) (D : DS) (V : World) : Prop where
  jd : JD (bas w) pj v J pd p D V
  area : Blk V pa 34 #[.int .i64 2, .int .i64 (ln : Int)]
  na : ¬ JF pd p pj v pa
theorem JZ.act (h : JZ w pa ln pj v J pd p D V) (a : JD (jb V pd p pj v) pj v' J' pd p' D' V') : JZ w pa ln pj v' J' pd p' D' V' :=
  ⟨h.jd.back a, a.belx.blk h.area h.na, a.jf_far h.area.lt h.na⟩
theorem JZ.keep (h : JZ w pa ln pj v J pd p D V) (hb : Below V.heap.size V V') : JZ w pa ln pj v J pd p D V' := ⟨h.jd.keep hb, h.area.keep hb, h.na⟩
theorem JZ.drewN (h : JZ w pa ln pj v J pd p D V) (q : Nat) : JZ w pa ln pj v J pd p D (V.drewN q) := h.keep (below_drewN (Below.refl _ _) q)
theorem JZ.cells (h : JZ w pa ln pj v J pd p D V) : V.cell? ⟨pa, 0, none⟩ = some (.int .i64 2) ∧ V.cell? ⟨pa, 1, none⟩ = some (.int .i64 (ln : Int)) := ⟨h.area.cell 0, h.area.cell 1⟩
def tv (l : List UInt8) : Value := .string ⟨l.toArray⟩
/-- Texts in a row of the call's own, none of whose blocks is the journal's. -/
structure Want (base : Nat) (V : World) (u : Value) (rs : List (List UInt8)) (pd : Nat) (p : Pl) (pj : Nat) (v : Value) : Prop where
  own : V.ownsRow base 9 1 u rs.length (rs.map tv)
  sep : ∀ g, u.ownBlock = some g → ¬ JF pd p pj v g
theorem Want.nil_ (base : Nat) (V : World) (pd : Nat) (p : Pl) (pj : Nat) (v : Value) : Want base V (.slice none 0 0) [] pd p pj v := ⟨World.ownsRow_nil _ _ _ _, fun g hg => by cases hg⟩
theorem Want.act (h : Want base V u rs pd p pj v) (a : JD (jb V pd p pj v) pj v' J' pd p' D' V') : Want base V' u rs pd p' pj v' := by
  refine ⟨⟨h.own.1, ?_⟩, fun g hg => a.jf_far (World.ownsRow.lt h.own g hg).2 (h.sep g hg)⟩
  rcases h.own.2 with hn | ⟨g, cap', cur, hv, hb, hh, rest⟩
  · exact .inl hn
  · have hg := (World.ownsRow.lt h.own g (by rw [hv]; rfl)).2
    exact .inr ⟨g, cap', cur, hv, hb, (a.belx.block g hg (h.sep g (by rw [hv]; rfl))).trans hh, rest⟩
theorem Want.keep (h : Want base V u rs pd p pj v) (hb : Below V.heap.size V V') : Want base V' u rs pd p pj v := ⟨h.own.kept (grown_of_below hb none) (by cases u.ownBlock <;> simp), h.sep⟩
/-- A text more. -/
theorem Want.app {s : List UInt8} (h : Want base V u rs pd p pj v) (hJ : JD b0 pj v J pd p D V) (hg : V.grownBy V' u.ownBlock) (ho : V'.ownsRow base 9 1 u' (rs.length + 1) (rs.map tv ++ [tv s])) (hu : u'.ownBlock = u.ownBlock ∨ u'.ownBlock = some V.heap.size) : Want base V' u' (rs ++ [s]) pd p pj v := by
  refine ⟨by rw [List.length_append, List.map_append]; exact ho, fun g hg2 => ?_⟩
  rcases hu with h9 | h9
  · exact h.sep g (by rw [← h9]; exact hg2)
  · rw [h9] at hg2
    injection hg2 with hg2
    intro hk
    have := hJ.jf_lt hk
    omega
theorem JD.grown (h : JD b0 pj v J pd p D V) (hg : V.grownBy V' u.ownBlock) (hs : ∀ g, u.ownBlock = some g → ¬ JF pd p pj v g) (hq : ∀ g, u.ownBlock = some g → b0.Q g) : JD b0 pj v J pd p D V' := by
  have hf : Fr (fun k => u.ownBlock = some k) V V' := Fr.of_grown hg (fun k e _ => e)
  exact ⟨h.disk.far hf (fun k hk e => hs k e (.inl hk)), hf.blk h.obj (fun e => hs pj e (.inr (.inl rfl))), h.str.far hf (fun k hk e => hs k e (.inr (.inr hk))), h.belx.join hf hq, h.lo, h.loV, h.loD, h.sep, h.sepV, h.ok, h.jok⟩
theorem JZ.grown (h : JZ w pa ln pj v J pd p D V) (hg : V.grownBy V' u.ownBlock) (hs : ∀ g, u.ownBlock = some g → ¬ JF pd p pj v g ∧ w.heap.size ≤ g ∧ g ≠ pa) : JZ w pa ln pj v J pd p D V' := by
  have hf : Fr (fun k => u.ownBlock = some k) V V' := Fr.of_grown hg (fun k e _ => e)
  exact ⟨h.jd.grown hg (fun g e => (hs g e).1) (fun g e => .inl (hs g e).2.1), hf.blk h.area (fun e => (hs pa e).2.2 rfl), h.na⟩
theorem textsT : ElT Try.prog 42 9 (.string ⟨#[]⟩) 1 16 := ⟨Try.underlying42, by kernel_rfl, rfl, by omega⟩
theorem own_rdt {w : World} {base e : Nat} {v : Value} {n : Nat} {ss : List (List UInt8)} (h : w.ownsRow base e 1 v n (ss.map tv)) : ∃ A c, v = .slice A n c ∧ RdT w A ss ∧ ss.length = n := by
  have hl : ss.length = n := by have := h.1; simpa using this
  rcases h.2 with ⟨rfl, rfl⟩ | ⟨g, cap, cur, rfl, hbg, hg, hnc, _, _, htake⟩
  · exact ⟨none, 0, rfl, .inl (List.eq_nil_of_length_eq_zero hl), hl⟩
  · refine ⟨_, cap, rfl, .inr ⟨g, 0, rfl, fun j hj => ?_⟩, hl⟩
    have hc := h.cells (g := g) rfl j (tv ss[j]) (by simp [hj])
    rwa [Addr.add_lit] at hc
theorem one_cell_t (s : List UInt8) : ∀ x ∈ [tv s], x.oneCell' = true := by intro x hx; simp at hx; subst hx; rfl
theorem cs_tv (W : World) (s : List UInt8) : Cs (W.alloc (.cells #[tv s] 9)) (some ⟨W.heap.size, 0, none⟩) [tv s] := .inr ⟨_, rfl, cell_one_new W (tv s) 9⟩
end
theorem JD.to_bas {w w2 V : World} {X : Nat → Prop} {pj pd : Nat} {v : Value} {J : JV} {p : Pl} {D : DS} (h : JD ⟨w2, X⟩ pj v J pd p D V) (hb : Below w.heap.size w w2) (hX : ∀ k, X k → w.heap.size ≤ k) : JD (bas w) pj v J pd p D V := by
  have hq : ∀ k, (⟨w2, X⟩ : Bas).Q k → (bas w).Q k := fun k hk => by
    rcases hk with hk | hk
    · exact .inl (Nat.le_trans hb.size hk)
    · exact .inl (hX k hk)
  exact ⟨h.disk, h.obj, h.str, (Fr.of_below hb (fun _ => False)).trans h.belx (fun i hi g => by have := hX i g; omega), hq _ h.lo, fun k hk => hq _ (h.loV k hk), fun k hk => hq _ (h.loD k hk), h.sep, h.sepV, h.ok, h.jok⟩
def ZOpened (w : World) (pa ln : Nat) (V : World) (pd : Nat) (p : Pl) (D : DS) (J : JV) (rs : List (List UInt8)) (r : Ending) (w' : World) : Prop :=
  Below V.heap.size V w' ∧ ∃ pj v A c vals, r = .returned (.tuple #[.pointer (some ⟨pj, 0, none⟩), .slice A rs.length c, .int .i64 0]) ∧ JZ w pa ln pj v J pd p D w' ∧ Recs V.heap.size w' (.slice A rs.length c) rs vals
theorem zopen_any {w V : World} {pd pa : Nat} {p : Pl} {D : DS} (hD : DiskAt pd p D V) (ok : D.Ok) (hb : Below w.heap.size w V) (ln ep : Nat) (hA : Blk V pa 34 #[.int .i64 2, .int .i64 (ln : Int)]) (hF : ∀ k, p.F pd k → w.heap.size ≤ k ∧ k ≠ pa) (hfl : 2 + ln ≤ D.nb) (h1 : 1 ≤ ln) (h2 : ln ≤ 16384) (hep : ep ≤ 16777215) (hoff : D.off = false) {RS : List UInt8} {lf sf : Nat} {rs : List (List UInt8)} (hR : jread D 2 ep ln 0 0 [] = (RS, lf)) (hlf : lf + 1 ≤ 1048575) (hrs : jopenRecs RS = (rs, sf)) :
    Calls Try.prog 12 #[.pointer (some ⟨pd, 0, none⟩), .agg #[.int .i64 2, .int .i64 (ln : Int)], .int .i64 (ep : Int)] V (ZOpened w pa ln V pd p D ⟨2, ln, ep, lf + 1, RS.take sf, sf, rs.length, false⟩ rs) := by
  refine (jopened_any (w0 := ⟨V, p.F pd⟩) hD ok (Fr.refl _ _) (fun k hk => .inr hk) 2 ln ep hfl h1 h2 hep hoff hR hlf hrs).mono ?_
  rintro r w' ⟨hb3, pj, v, A, c, vals, rfl, hpj, hJ, hRc⟩
  refine ⟨hb3, pj, v, A, c, vals, rfl, ⟨hJ.to_bas hb (fun k hk => (hF k hk).1), hA.keep hb3, ?_⟩, hRc⟩
  have hlt := hA.lt
  rintro (hk | hk | hk)
  · exact (hF pa hk).2 rfl
  · omega
  · rcases hJ.loV pa hk with h9 | h9
    · have : V.heap.size ≤ pa := h9
      omega
    · exact (hJ.sepV pa hk).1 h9
theorem JZ.fresh {w V : World} {pj pd pa ln : Nat} {v : Value} {J : JV} {p : Pl} {D : DS} (h : JZ w pa ln pj v J pd p D V) : ∀ k, p.F pd k → w.heap.size ≤ k ∧ k ≠ pa := fun k hk => ⟨by
  rcases h.jd.loD k hk with h9 | h9
  · exact h9
  · exact h9.elim, fun e => h.na (e ▸ .inl hk)⟩
/-- Append, with no eye on what it answers. -/
theorem JOn.appAny {fr len ep life nb c : Nat} {D : DS} {J : JV} {all : List (List UInt8)} (h : JOn fr len ep life nb D J all c) (hj : JOk J D) (ok : D.Ok) {s : List UInt8} (hs : s.length < 18446744073709551616) (hlg : D.log.length + len ≤ 1000000) :
    ∃ e J' D' all', J.app D s = (e, J', D') ∧ JOn fr len ep life nb D' J' all' c ∧ D'.log.length ≤ D.log.length + len ∧ (e = 0 ∨ e = 60) ∧ (e = 0 → all' = all ++ [s]) ∧ (e ≠ 0 → all' = all) := by
  rcases h.app hj ok hs hlg with ⟨_, h1⟩ | ⟨_, J', D', h2, h3, _, h5, _⟩
  · exact ⟨60, J, D, all, h1, h, by omega, .inr rfl, fun h => by omega, fun _ => rfl⟩
  · exact ⟨0, J', D', all ++ [s], h2, h3, h5, .inl rfl, fun _ => rfl, fun h => absurd rfl h⟩
end
section
open Go.RowKit
set_option linter.unusedVariables false

/-- A journal on a disk whose power may be off: its records, so many of which are surely found again. -/
structure JGn (ln : Nat) (D : DS) (J : JV) (all : List (List UInt8)) (c : Nat) : Prop where
  st : JSt D J all c
  set : JSet J D
  from_ : J.from_ = 2
  len_ : J.len = ln
  epoch : J.epoch = 0
  size : D.size = 64
  nb_ : D.nb = 12
section
variable {ln c : Nat} {D D' : DS} {J : JV} {all : List (List UInt8)}
theorem JGn.app (h : JGn ln D J all c) (hj : JOk J D) (ok : D.Ok) {p : List UInt8} (hp : p.length < 18446744073709551616) (hlg : D.log.length + ln ≤ 1000000) :
    ∃ e J' D' all', J.app D p = (e, J', D') ∧ JGn ln D' J' all' c ∧ ((J'.records = J.records ∧ all' = all) ∨ (J'.records = J.records + 1 ∧ all' = all ++ [p])) ∧ J'.life = J.life ∧ D'.log.length ≤ D.log.length + ln := by
  refine ⟨(J.app D p).1, (J.app D p).2.1, (J.app D p).2.2, ?_⟩
  rcases app_law h.st hj ok hp (by rw [h.len_]; exact hlg) with ⟨h1, h2, h3⟩ | ⟨h1, h2, h3, h4, h5, h6, h7, h8, h9⟩
  · rw [h2]
    exact ⟨all, by rw [← h2], h, .inl ⟨rfl, rfl⟩, rfl, Nat.le_add_right _ _⟩
  · exact ⟨all ++ [p], rfl, ⟨h3, h8, h4.from_.trans h.from_, h4.len.trans h.len_, h4.epoch.trans h.epoch, h4.size.trans h.size, h4.nb.trans h.nb_⟩, .inr ⟨h6, rfl⟩, h4.life, by have := h4.log; rw [h.len_] at this; exact this⟩
theorem JGn.flush (h : JGn ln D J all c) (hj : JOk J D) (ok : D.Ok) (hlg : D.log.length + 1 ≤ 1000000) :
    ∃ e J' D', J.flush D = (e, J', D') ∧ JGn ln D' J' all (if e = 0 then all.length else c) ∧ J'.life = J.life ∧ D'.log.length ≤ D.log.length + 1 := by
  obtain ⟨h1, h2, h3, h4, h5, h6, h7⟩ := flush_law h.st hj ok h.set hlg
  exact ⟨(J.flush D).1, (J.flush D).2.1, (J.flush D).2.2, rfl, ⟨h1, h7, h2.from_.trans h.from_, h2.len.trans h.len_, h2.epoch.trans h.epoch, h2.size.trans h.size, h2.nb.trans h.nb_⟩, h2.life, h2.log⟩
theorem JGn.disk (h : JGn ln D J all c) (hb : D'.bytes = D.bytes) (hs : D'.size = D.size) (hn : D'.nb = D.nb) : JGn ln D' J all c :=
  ⟨h.st.disk hs (fun n => by unfold DS.blockB; rw [hb, hs]), by unfold JSet; rw [hs]; exact h.set, h.from_, h.len_, h.epoch, by rw [hs]; exact h.size, by rw [hn]; exact h.nb_⟩
theorem JGn.opened (h : JGn ln D J all c) (hj : JOk J D) : ∃ RS lf k, jread D 2 0 ln 0 0 [] = (RS, lf) ∧ lf ≤ J.life ∧ jopenRecs RS = (all.take k, (laidSs (all.take k)).length) ∧ c ≤ k ∧ k ≤ all.length ∧
    JGn ln D ⟨2, ln, 0, lf + 1, RS.take (laidSs (all.take k)).length, (laidSs (all.take k)).length, (all.take k).length, false⟩ (all.take k) k := by
  obtain ⟨RS, lf, k, h1, h2, h3, h4, h5, h6, h7⟩ := h.st.opened hj
  rw [h.from_, h.len_, h.epoch] at h1 h7
  exact ⟨RS, lf, k, h1, h2, h3, h4, h5, ⟨h7, .inl (by show _ / _ = (RS.take _).length / _; rw [h6]), rfl, rfl, rfl, h.size, h.nb_⟩⟩
theorem JOn.gen {life : Nat} (h : JOn 2 ln 0 life 12 D J all c) : JGn ln D J all c := ⟨h.st, h.set, h.from_, h.len_, h.epoch, h.size, h.nb_⟩
end
section
variable {w V V' : World} {pj pd pa ln : Nat} {v u : Value} {J : JV} {p p' : Pl} {D D' : DS} {rs : List (List UInt8)} {base : Nat}
/-- An act of the disk beside a journal. -/
theorem JD.beside {b0 : Bas} (h : JD b0 pj v J pd p D V) (a : Acts V pd p D' V' p') (ok : D'.Ok) (h1 : D'.nb = D.nb) (h2 : D'.size = D.size) : JD (jb V pd p pj v) pj v J pd p' D' V' := h.anew.disk_act a ok h1 h2
theorem jcut_ok (ok : D.Ok) {a : Int} (ha : a ≤ 9223372036854775807) : (D.cut a).Ok ∧ (D.cut a).bytes = D.bytes ∧ (D.cut a).size = D.size ∧ (D.cut a).nb = D.nb ∧ (D.cut a).log = D.log := by
  unfold DS.cut
  split
  · exact ⟨ok, rfl, rfl, rfl, rfl⟩
  · exact ⟨⟨ok.s1, ok.s2, ok.n1, ok.n2, ok.len, by show -1 ≤ max a (-1); omega, by show max a (-1) ≤ _; omega, ok.lg⟩, rfl, rfl, rfl, rfl⟩
theorem jback_ok (ok : D.Ok) : ({ D with left := -1, off := false } : DS).Ok := ⟨ok.s1, ok.s2, ok.n1, ok.n2, ok.len, by show (-1 : Int) ≤ -1; omega, by show (-1 : Int) ≤ _; omega, ok.lg⟩
/-- Only the first so many texts. -/
theorem Want.cut_ {A : Option Addr} {n c k : Nat} (h : Want base V (.slice A n c) rs pd p pj v) (hk : k ≤ n) (hn : rs.length = n) : Want base V (.slice A k c) (rs.take k) pd p pj v := by
  have hl : (rs.take k).length = k := by rw [List.length_take]; omega
  refine ⟨⟨by rw [List.length_map, hl]; omega, ?_⟩, ?_⟩
  · rw [hl]
    rcases h.own.2 with ⟨hv, hz⟩ | ⟨g, cap, cur, hv, hb, hh, h3, h4, h5, h6⟩
    · obtain ⟨rfl, rfl, rfl⟩ := Value.slice.inj hv
      obtain rfl : k = 0 := by omega
      exact .inl ⟨rfl, rfl⟩
    · obtain ⟨rfl, h9, rfl⟩ := Value.slice.inj hv
      refine .inr ⟨g, c, cur, rfl, hb, hh, by omega, h4, h5, ?_⟩
      rw [List.map_take, ← h6, List.take_take]
      congr 1
      omega
  · intro g hg
    refine h.sep g ?_
    cases A with
    | none => cases hg
    | some a => exact hg
end
def ZOpened2 (w : World) (pa ln : Nat) (V : World) (pd : Nat) (p : Pl) (D : DS) (J : JV) (rs : List (List UInt8)) (r : Ending) (w' : World) : Prop :=
  Below V.heap.size V w' ∧ ∃ pj v A c vals, r = .returned (.tuple #[.pointer (some ⟨pj, 0, none⟩), .slice A rs.length c, .int .i64 0]) ∧ JZ w pa ln pj v J pd p D w' ∧ Recs V.heap.size w' (.slice A rs.length c) rs vals ∧ ∀ k, JF pd p pj v k → p.F pd k ∨ V.heap.size ≤ k
theorem zopen2_any {w V : World} {pd pa : Nat} {p : Pl} {D : DS} (hD : DiskAt pd p D V) (ok : D.Ok) (hb : Below w.heap.size w V) (ln ep : Nat) (hA : Blk V pa 34 #[.int .i64 2, .int .i64 (ln : Int)]) (hF : ∀ k, p.F pd k → w.heap.size ≤ k ∧ k ≠ pa) (hfl : 2 + ln ≤ D.nb) (h1 : 1 ≤ ln) (h2 : ln ≤ 16384) (hep : ep ≤ 16777215) (hoff : D.off = false) {RS : List UInt8} {lf sf : Nat} {rs : List (List UInt8)} (hR : jread D 2 ep ln 0 0 [] = (RS, lf)) (hlf : lf + 1 ≤ 1048575) (hrs : jopenRecs RS = (rs, sf)) :
    Calls Try.prog 12 #[.pointer (some ⟨pd, 0, none⟩), .agg #[.int .i64 2, .int .i64 (ln : Int)], .int .i64 (ep : Int)] V (ZOpened2 w pa ln V pd p D ⟨2, ln, ep, lf + 1, RS.take sf, sf, rs.length, false⟩ rs) := by
  refine (jopened_any (w0 := ⟨V, p.F pd⟩) hD ok (Fr.refl _ _) (fun k hk => .inr hk) 2 ln ep hfl h1 h2 hep hoff hR hlf hrs).mono ?_
  rintro r w' ⟨hb3, pj, v, A, c, vals, rfl, hpj, hJ, hRc⟩
  have hq : ∀ k, JF pd p pj v k → p.F pd k ∨ V.heap.size ≤ k := fun k hk => by
    rcases hJ.jf_q hk with h9 | h9
    · exact .inr h9
    · exact .inl h9
  refine ⟨hb3, pj, v, A, c, vals, rfl, ⟨hJ.to_bas hb (fun k hk => (hF k hk).1), hA.keep hb3, fun hk => ?_⟩, hRc, hq⟩
  have hlt := hA.lt
  rcases hq pa hk with h9 | h9
  · exact (hF pa h9).2 rfl
  · omega
theorem Want.renew {base : Nat} {V V' : World} {u : Value} {rs : List (List UInt8)} {pd pj pk : Nat} {p : Pl} {v v' : Value} (h : Want base V u rs pd p pj v) (hb : Below V.heap.size V V') (hq : ∀ k, JF pd p pk v' k → p.F pd k ∨ V.heap.size ≤ k) : Want base V' u rs pd p pk v' := by
  refine ⟨(h.keep hb).own, fun g hg hk => ?_⟩
  have hlt := (World.ownsRow.lt h.own g hg).2
  rcases hq g hk with h9 | h9
  · exact h.sep g hg (.inl h9)
  · omega
theorem own_rdt2 {w : World} {base e : Nat} {v : Value} {n : Nat} {ss : List (List UInt8)} (h : w.ownsRow base e 1 v n (ss.map tv)) : ∃ A c, v = .slice A n c ∧ RdT w A ss ∧ ss.length = n ∧ n ≤ c ∧ c ≤ maxLen := by
  obtain ⟨A, c, h1, h2, h3⟩ := own_rdt h
  refine ⟨A, c, h1, h2, h3, ?_⟩
  rcases h.2 with ⟨hv, hz⟩ | ⟨g, cap, cur, hv, _, _, hnc, hcm, _⟩
  · rw [h1] at hv
    obtain ⟨_, h4, h5⟩ := Value.slice.inj hv
    subst h5
    exact ⟨by omega, Nat.zero_le _⟩
  · rw [h1] at hv
    obtain ⟨_, _, h5⟩ := Value.slice.inj hv
    subst h5
    exact ⟨hnc, hcm⟩
theorem rdt_take {w : World} {A : Option Addr} {l : List (List UInt8)} (h : RdT w A l) (k : Nat) : RdT w A (l.take k) := by
  rcases h with h | ⟨b, off, h1, h2⟩
  · left; simp [h]
  · right
    refine ⟨b, off, h1, fun j hj => ?_⟩
    rw [List.length_take] at hj
    rw [List.getElem_take]
    exact h2 j (by omega)
end
end Go.Proofs.Ytcnhfbckaacalaa
