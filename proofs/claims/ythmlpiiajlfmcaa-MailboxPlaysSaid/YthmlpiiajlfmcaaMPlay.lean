/- MailboxPlays: both boxes side by side in memory; a row of terms that came in as elements. -/
import Derived.Test.YthmlpiiajlfmcaaMRefN
import Derived.Test.YthmlpiiajlfmcaaMFits
namespace Go.Proofs.Ythmlpiiajlfmcaa
open Go.RowKit
set_option linter.unusedVariables false

theorem row_te {w : World} : ∀ (l : List TV) (b o : Nat), TV.Row w l b o → ∃ es : List (TE w), es.map (fun e : TE w => e.t) = l ∧ ∀ j u, (cellsL es)[j]? = some u → w.cell? ⟨b, o + j, none⟩ = some u
  | [], b, o, _ => ⟨[], rfl, fun j u h => by simp [cellsL] at h⟩
  | t :: r, b, o, h => by
    simp only [TV.Row] at h
    obtain ⟨h0, h1, h2, A, c, h3, h4⟩ := (TV.at_iff _ _ _).1 h.1
    obtain ⟨es, he, hc⟩ := row_te r b (o + 4) h.2
    refine ⟨⟨t, A, c, h4⟩ :: es, by simp [he], fun j u hu => ?_⟩
    simp only [cellsL] at hu
    match j with
    | 0 => simp [TE.cells] at hu; subst hu; exact h0
    | 1 => simp [TE.cells] at hu; subst hu; exact h1
    | 2 => simp [TE.cells] at hu; subst hu; exact h2
    | 3 => simp [TE.cells] at hu; subst hu; exact h3
    | j + 4 =>
      have := hc j u (by simpa [TE.cells] using hu)
      rw [show o + (j + 4) = o + 4 + j by omega]
      exact this
theorem rdm_te {w : World} {A : Option Addr} {c : Nat} {l : List TV} (h : RdM w A c l) : ∃ es : List (TE w), es.map (fun e : TE w => e.t) = l ∧ Cs w A (cellsL es) := by
  rcases h.2.2 with rfl | ⟨b, o, hA, hr⟩
  · exact ⟨[], rfl, .inl rfl⟩
  · obtain ⟨es, he, hc⟩ := row_te l b o hr
    exact ⟨es, he, .inr ⟨_, hA, fun j u hu => by rw [Addr.add_lit]; exact hc j u hu⟩⟩

theorem rbox_fr {w0 W W' : World} {pr : Nat} {A : Option Addr} {cap : Nat} {es : List (TE w0)} {F : Nat → Prop} (h : RBox w0 pr A cap es W) (hf : Fr F W W') (h1 : ¬ F pr) (h2 : ∀ g, (Value.slice A es.length cap).ownBlock = some g → ¬ F g) (h3 : ∀ k, F k → w0.heap.size ≤ k) : RBox w0 pr A cap es W' := by
  refine ⟨hf.blk h.obj h1, ?_, h.bel.trans (hf.below h.bel.size h3), h.lo, h.ok⟩
  rcases h.row.2 with hn | ⟨g, cap', cur, hv, hb, hh, rest⟩
  · exact ⟨h.row.1, .inl hn⟩
  · have hg := World.ownsRow.lt h.row g (by rw [hv]; rfl)
    exact ⟨h.row.1, .inr ⟨g, cap', cur, hv, hb, (hf.block g hg.2 (h2 g (by rw [hv]; rfl))).trans hh, rest⟩⟩
theorem box_fr {w0 W W' : World} {pb : Nat} {A : Option Addr} {cap : Nat} {es : List (TE w0)} {F : Nat → Prop} (h : BoxAt w0 pb A cap es W) (hf : Fr F W W') (h1 : ¬ F pb) (h2 : ∀ g, (Value.slice A es.length cap).ownBlock = some g → ¬ F g) (h3 : ∀ k, F k → w0.heap.size ≤ k) : BoxAt w0 pb A cap es W' := by
  refine ⟨hf.blk h.obj h1, ?_, h.bel.trans (hf.below h.bel.size h3), h.lo, h.ok⟩
  rcases h.row.2 with hn | ⟨g, cap', cur, hv, hb, hh, rest⟩
  · exact ⟨h.row.1, .inl hn⟩
  · have hg := World.ownsRow.lt h.row g (by rw [hv]; rfl)
    exact ⟨h.row.1, .inr ⟨g, cap', cur, hv, hb, (hf.block g hg.2 (h2 g (by rw [hv]; rfl))).trans hh, rest⟩⟩

/-- Both boxes: their blocks are unlike ones. -/
def Both (w0 : World) (pb pr : Nat) (es1 es2 : List (TE w0)) (V : World) : Prop := ∃ A cap A' cap', BoxAt w0 pb A cap es1 V ∧ RBox w0 pr A' cap' es2 V ∧ ∀ g, (Value.slice A es1.length cap).ownBlock = some g → (Value.slice A' es2.length cap').ownBlock = some g → False

section
variable {w0 V V' : World} {pb pr : Nat} {es1 es2 : List (TE w0)}
theorem own_tag {W : World} {base n : Nat} {v : Value} {e t g : TypeId} {xs : List Value} {cs : Array Value} (h : W.ownsRow base e 4 v n xs) (hg : v.ownBlock = some g) (hB : Blk W g t cs) : t = e := by
  rcases h.2 with ⟨hv, _⟩ | ⟨g', cap', cur, hv, _, hh, _⟩
  · rw [hv] at hg; cases hg
  · rw [hv] at hg
    obtain rfl : g' = g := by simpa [Value.ownBlock] using hg
    unfold Blk at hB
    rw [hB] at hh
    injection hh with hh
    injection hh with _ hh _
theorem Both.bel (h : Both w0 pb pr es1 es2 V) : Below w0.heap.size w0 V := by
  obtain ⟨A, cap, A', cap', h1, _⟩ := h
  exact h1.bel
theorem Both.keep (h : Both w0 pb pr es1 es2 V) (hb : Below V.heap.size V V') : Both w0 pb pr es1 es2 V' := by
  obtain ⟨A, cap, A', cap', h1, h2, h3⟩ := h
  exact ⟨A, cap, A', cap', h1.keep hb, h2.keep hb, h3⟩
theorem Both.ne (h : Both w0 pb pr es1 es2 V) : pb ≠ pr := by
  obtain ⟨A, cap, A', cap', h1, h2, _⟩ := h
  rintro rfl
  exact blk_tags h1.obj h2.obj (by decide)

theorem both_put (h : Both w0 pb pr es1 es2 V) (e : TE w0) (hnm : e.t.named) :
    Calls Try.prog 13 #[.pointer (some ⟨pb, 0, none⟩), .agg #[.int .i64 e.t.kind, .int .i64 e.t.int, .string ⟨e.t.name.toArray⟩, .slice e.A e.t.items.length e.c]] V fun r w' => r = .returned (.int .i64 (putE es1 e.t : Nat)) ∧ Both w0 pb pr (putS es1 e) es2 w' := by
  have hne := h.ne
  obtain ⟨A, cap, A', cap', h1, h2, h3⟩ := h
  refine (bput_any h1 e hnm).mono fun r w' ⟨hr, A2, c2, hb, hf, ho⟩ => ⟨hr, A2, c2, A', cap', hb, rbox_fr h2 hf ?_ ?_ ?_, ?_⟩
  · rintro (e1 | e1)
    · exact hne e1.symm
    · exact absurd (own_tag h1.row e1 h2.obj) (by decide)
  · rintro g hg (e1 | e1)
    · subst e1
      exact absurd (own_tag h2.row hg h1.obj) (by decide)
    · exact h3 g e1 hg
  · rintro k (e1 | e1)
    · rw [e1]; exact h1.lo
    · exact (World.ownsRow.lt h1.row k e1).1
  · intro g hg hg2
    rcases ho g hg with h9 | h9
    · exact h3 g h9 hg2
    · have := (World.ownsRow.lt h2.row g hg2).2
      omega
theorem both_rput (h : Both w0 pb pr es1 es2 V) (e : TE w0) (hnm : e.t.named) :
    Calls Try.prog 14 #[.pointer (some ⟨pr, 0, none⟩), .agg #[.int .i64 e.t.kind, .int .i64 e.t.int, .string ⟨e.t.name.toArray⟩, .slice e.A e.t.items.length e.c]] V fun r w' => r = .returned (.int .i64 (putE es2 e.t : Nat)) ∧ Both w0 pb pr es1 (putS es2 e) w' := by
  have hne := h.ne
  obtain ⟨A, cap, A', cap', h1, h2, h3⟩ := h
  refine (rput_any h2 e hnm).mono fun r w' ⟨hr, A2, c2, hb, hf, ho⟩ => ⟨hr, A, cap, A2, c2, box_fr h1 hf ?_ ?_ ?_, hb, ?_⟩
  · exact hne
  · rintro g hg e1
    subst e1
    exact absurd (own_tag h1.row hg h2.obj) (by decide)
  · rintro k e1
    rw [e1]; exact h2.lo
  · intro g hg hg2
    rcases ho g hg2 with h9 | h9
    · exact h3 g hg h9
    · have := (World.ownsRow.lt h1.row g hg).2
      omega
/-- Take, with its frame. -/
theorem btake_fr {A : Option Addr} {cap : Nat} {es : List (TE w0)} (h : BoxAt w0 pb A cap es V) (x : Int) :
    Calls Try.prog 15 #[.pointer (some ⟨pb, 0, none⟩), .int .i64 x] V fun r w' => BTakeEnds w0 pb A cap es x r w' ∧ Fr (fun k => k = pb ∨ (Value.slice A es.length cap).ownBlock = some k) V w' := by
  by_cases hx : 0 ≤ x ∧ x < es.length
  · obtain ⟨i, rfl⟩ : ∃ i : Nat, x = (i : Int) := ⟨x.toNat, by omega⟩
    have hi : i < es.length := by omega
    refine (btake_in h i hi).mono fun r w' ⟨hr, hb, hf⟩ => ⟨⟨es[i].t, es[i].A, es[i].c, ?_, ?_, es[i].ok, ?_⟩, hf⟩
    · rw [hr, takeE, if_pos hx]; rfl
    · rw [takeT, List.length_map, if_pos hx]
      simp [List.getD_eq_getElem?_getD, List.getElem?_eq_getElem hi]
    · rw [takeL, if_pos hx]; exact hb
  · refine (btake_out h x (by omega)).mono fun r w' ⟨hr, hb⟩ => ⟨⟨zt, none, 0, ?_, ?_, ⟨Nat.le_refl _, by omega, .inl rfl⟩, ?_⟩, Fr.of_below hb _⟩
    · rw [hr, takeE, if_neg hx]; rfl
    · rw [takeT, List.length_map, if_neg hx]
    · rw [takeL, if_neg hx]; exact h.keep hb
theorem own_len {A : Option Addr} {n m c : Nat} : (Value.slice A n c).ownBlock = (Value.slice A m c).ownBlock := by cases A <;> rfl
theorem both_take (h : Both w0 pb pr es1 es2 V) (x : Int) :
    Calls Try.prog 15 #[.pointer (some ⟨pb, 0, none⟩), .int .i64 x] V fun r w' => (∃ t A' c', r = .returned (.tuple #[TV.aggOf t A' c', .int .i64 (takeE es1.length x : Nat)]) ∧ t = takeT (es1.map (·.t)) x ∧ RdM w0 A' c' t.items) ∧ Both w0 pb pr (takeL es1 x) es2 w' := by
  have hne := h.ne
  obtain ⟨A, cap, A', cap', h1, h2, h3⟩ := h
  refine (btake_fr h1 x).mono fun r w' ⟨⟨t, A3, c3, hr, ht, hR, hb⟩, hf⟩ => ⟨⟨t, A3, c3, hr, ht, hR⟩, A, cap, A', cap', hb, rbox_fr h2 hf ?_ ?_ ?_, fun g hg hg2 => h3 g (by rw [own_len (m := (takeL es1 x).length)]; exact hg) hg2⟩
  · rintro (e1 | e1)
    · exact hne e1.symm
    · exact absurd (own_tag h1.row e1 h2.obj) (by decide)
  · rintro g hg (e1 | e1)
    · subst e1
      exact absurd (own_tag h2.row hg h1.obj) (by decide)
    · exact h3 g e1 hg
  · rintro k (e1 | e1)
    · rw [e1]; exact h1.lo
    · exact (World.ownsRow.lt h1.row k e1).1
theorem both_rtake (h : Both w0 pb pr es1 es2 V) (x : Int) :
    Calls Try.prog 16 #[.pointer (some ⟨pr, 0, none⟩), .int .i64 x] V fun r w' => (∃ t A' c', r = .returned (.tuple #[TV.aggOf t A' c', .int .i64 (takeE es2.length x : Nat)]) ∧ t = takeT (es2.map (·.t)) x ∧ RdM w0 A' c' t.items) ∧ Both w0 pb pr es1 (takeL es2 x) w' ∧ Fr (fun k => k = pr) V w' := by
  have hne := h.ne
  obtain ⟨A, cap, A', cap', h1, h2, h3⟩ := h
  refine (rtake_any h2 x).mono fun r w' ⟨t, A3, c3, hr, ht, hR, A2, c2, hb, hf, ho⟩ => ⟨⟨t, A3, c3, hr, ht, hR⟩, ⟨A, cap, A2, c2, box_fr h1 hf ?_ ?_ ?_, hb, ?_⟩, hf⟩
  · exact hne
  · rintro g hg e1
    subst e1
    exact absurd (own_tag h1.row hg h2.obj) (by decide)
  · rintro k e1
    rw [e1]; exact h2.lo
  · intro g hg hg2
    rcases ho g hg2 with h9 | h9
    · exact h3 g hg h9
    · have := (World.ownsRow.lt h1.row g hg).2
      omega
theorem both_all (h : Both w0 pb pr es1 es2 V) :
    Calls Try.prog 18 #[.pointer (some ⟨pb, 0, none⟩)] V fun r w' => ∃ A c, r = .returned (.tuple #[.slice A es1.length c, .bool true]) ∧ RdM w' A c (es1.map (·.t)) ∧ Below V.heap.size V w' := by
  obtain ⟨A, cap, A', cap', h1, h2, h3⟩ := h
  exact (all_box h1).mono fun e w' ⟨A', c', he, hm, _, hb⟩ => ⟨A', c', he, hm, hb⟩
theorem both_len (h : Both w0 pb pr es1 es2 V) : Calls Try.prog 20 #[.pointer (some ⟨pb, 0, none⟩)] V fun e w' => e = .returned (.int .i64 (es1.length : Nat)) ∧ V = w' := by
  obtain ⟨A, cap, A', cap', h1, h2, h3⟩ := h
  exact blen_any h1
theorem both_parts (h : Both w0 pb pr es1 es2 V) : Calls Try.prog 21 #[.pointer (some ⟨pb, 0, none⟩)] V fun e w' => e = .returned (.int .i64 ((bparts es1 : Nat) : Int)) ∧ V = w' := by
  obtain ⟨A, cap, A', cap', h1, h2, h3⟩ := h
  exact bparts_any h1
theorem both_rparts (h : Both w0 pb pr es1 es2 V) : Calls Try.prog 22 #[.pointer (some ⟨pr, 0, none⟩)] V fun e w' => e = .returned (.int .i64 ((bparts es2 : Nat) : Int)) ∧ Below V.heap.size V w' := by
  obtain ⟨A, cap, A', cap', h1, h2, h3⟩ := h
  exact rparts_any h2
theorem both_rd (h : Both w0 pb pr es1 es2 V) : ∃ A c, V.cell? ⟨pr, 0, none⟩ = some (.slice A es2.length c) ∧ RdM V A c (es2.map (·.t)) := by
  obtain ⟨A, cap, A', cap', h1, h2, h3⟩ := h
  exact ⟨A', cap', h2.obj.cell 0, h2.rd⟩

theorem Both.lt (h : Both w0 pb pr es1 es2 V) : pr < V.heap.size := by
  obtain ⟨A, cap, A', cap', h1, h2, h3⟩ := h
  exact h2.obj.lt
/-- What is in both, told alike. -/
def Alike (w0 : World) (pb pr : Nat) (V : World) : Prop := ∃ es1 es2 : List (TE w0), es1.map (fun e : TE w0 => e.t) = es2.map (fun e : TE w0 => e.t) ∧ Both w0 pb pr es1 es2 V
theorem alike_put {e : TE w0} (h : es1.map (fun e : TE w0 => e.t) = es2.map (fun e : TE w0 => e.t)) : putE es1 e.t = putE es2 e.t ∧ (putS es1 e).map (fun e : TE w0 => e.t) = (putS es2 e).map (fun e : TE w0 => e.t) := by
  have h1 : putE es1 e.t = putE es2 e.t := by rw [putE_eq, putE_eq, show es1.map (·.t) = es2.map (·.t) from h]
  refine ⟨h1, ?_⟩
  unfold putS
  rw [h1]
  split
  · rw [List.map_append, List.map_append, h]
  · exact h
theorem alike_take (x : Int) (h : es1.map (fun e : TE w0 => e.t) = es2.map (fun e : TE w0 => e.t)) : (takeL es1 x).map (fun e : TE w0 => e.t) = (takeL es2 x).map (fun e : TE w0 => e.t) := by
  rw [takeL_map, takeL_map, h]
theorem alike_new {w W V1 V2 : World} {l : List TV} {r r' : Ending} {A : Option Addr} (hb : BNewEnds w W l r V1) (hr : RNewEnds w V1 l r' V2) : ((newT [] l).1 ≠ 0 ∧ r = .returned (.tuple #[.pointer none, .int .i64 ((newT [] l).1 : Nat)]) ∧ r' = .returned (.tuple #[.pointer none, .int .i64 ((newT [] l).1 : Nat)]) ∧ Below W.heap.size W V2) ∨
    (∃ pb pr, r = .returned (.tuple #[.pointer (some ⟨pb, 0, none⟩), .int .i64 0]) ∧ r' = .returned (.tuple #[.pointer (some ⟨pr, 0, none⟩), .int .i64 0]) ∧ Alike w pb pr V2) := by
  obtain ⟨hb1, hb⟩ := hb
  obtain ⟨hr1, hr⟩ := hr
  rcases hb with ⟨h1, h2⟩ | ⟨h1, pb, A1, c1, es1, h2, h3, h4, h5, h6⟩
  · rcases hr with ⟨g1, g2⟩ | ⟨g1, _⟩
    · exact .inl ⟨h1, h2, g2, below_step hb1 hr1⟩
    · exact absurd g1 h1
  · rcases hr with ⟨g1, _⟩ | ⟨g1, pr, A2, c2, es2, g2, g3, g4, g5, g6⟩
    · exact absurd h1 g1
    · refine .inr ⟨pb, pr, h2, g2, es1, es2, h3.trans g3.symm, A1, c1, A2, c2, h4.keep hr1, g4, fun g hg hg2 => ?_⟩
      have := g6 g hg2
      have := (World.ownsRow.lt h4.row g hg).2
      omega
end
end Go.Proofs.Ythmlpiiajlfmcaa
