/- The law's all of layer 17: what its two loops keep, without the code. -/
import Derived.Test.YthmlpiiajlfmcaaMEach
import Derived.Test.YthmlpiiajlfmcaaInR
namespace Go.Proofs.Ythmlpiiajlfmcaa
open Go.RowKit Go.Shelf
set_option linter.unusedVariables false

theorem equalIn_func {P : Program} (w : World) (d : Nat) (t : TypeId) (fn : Fn) (a b : Array Value) {x y z} (h : P.underlying t = some (.func x y z)) : (Op.equalIn (d + 1) t (.func fn a b) .nilFunc).run P w = .ok false w := by
  simp [Op.equalIn, run_underlying h]
theorem eql_func {P : Program} (w : World) (t : TypeId) (fn : Fn) (a b : Array Value) {x y z} (h : P.underlying t = some (.func x y z)) : (binOp .eql t (.func fn a b) .nilFunc).run P w = .ok (.bool false) w := by
  simp only [binOp]
  simp [Op.equal, Op.maxDepth, equalIn_func w 9999 t fn a b h]

theorem keeps_of {W W' : World} {F : Nat → Prop} (h : Fr F W W') (hc : ∀ k o, F k → W.heap[k]? = some o → o.isCells = true) : KeepsOthers W W' :=
  ⟨h.size, fun k o hk ho => (h.block k (Array.getElem?_eq_some_iff.1 hk).1 (fun f => by have := hc k o f hk; rw [ho] at this; cases this)).trans hk⟩
theorem own_isCells {W : World} {base e size n g : Nat} {v : Value} {xs : List Value} {o : Obj} (h : W.ownsRow base e size v n xs) (hg : v.ownBlock = some g) (ho : W.heap[g]? = some o) : o.isCells = true := by
  rcases h.2 with ⟨rfl, _⟩ | ⟨g', cap, cur, rfl, _, hh, _⟩
  · cases hg
  · obtain rfl : g' = g := by simpa [Value.ownBlock] using hg
    rw [hh] at ho
    cases ho
    rfl
theorem blk_isCells {W : World} {g t : Nat} {cs : Array Value} {o : Obj} (h : Blk W g t cs) (ho : W.heap[g]? = some o) : o.isCells = true := by
  unfold Blk at h
  rw [h] at ho
  cases ho
  rfl
theorem blk_own {W W' : World} {g t B : Nat} {cs : Array Value} {row : Option Nat} (h : Blk W g t cs) (hg : W.grownBy W' row) (hrow : ∀ r, row = some r → B ≤ r ∧ ∃ o : Obj, W.heap[r]? = some o ∧ o.isCells = false) : Blk W' g t cs :=
  h.grown hg (fun e => by obtain ⟨_, o, ho, hc⟩ := hrow g e.symm; rw [blk_isCells h ho] at hc; cases hc)
theorem row_own {W W' : World} {base e size n B : Nat} {v : Value} {xs : List Value} {row : Option Nat} (h : W.ownsRow base e size v n xs) (hg : W.grownBy W' row) (hrow : ∀ r, row = some r → B ≤ r ∧ ∃ o : Obj, W.heap[r]? = some o ∧ o.isCells = false) : W'.ownsRow base e size v n xs := by
  refine h.kept hg ?_
  cases hgb : v.ownBlock with
  | none => exact .inl rfl
  | some g =>
    refine .inr (fun e => ?_)
    obtain ⟨_, o, ho, hc⟩ := hrow g e.symm
    rw [own_isCells h hgb ho] at hc
    cases hc
theorem kp_own {W0 W W' : World} {n1 Bo : Nat} {row : Option Nat} (h : KpC n1 Bo W0 W) (hg : W.grownBy W' row) (hrow : ∀ r, row = some r → n1 ≤ r ∧ ∃ o : Obj, W.heap[r]? = some o ∧ o.isCells = false) : KpC n1 Bo W0 W' :=
  Fr.same h (Fr.of_grown hg (fun k e _ => .inr (hrow k e).1))

section
variable {w0 : World}
/-- The places are right. -/
def idxOk (pre : List (TE w0 × Nat)) : Prop := ∀ j, (h : j < pre.length) → pre[j].2 = j
theorem idxOk_nil : idxOk ([] : List (TE w0 × Nat)) := fun j h => by simp at h
theorem idxOk_snoc {pre : List (TE w0 × Nat)} {x : TE w0 × Nat} (h : idxOk pre) (hx : x.2 = pre.length) : idxOk (pre ++ [x]) := fun j hj => by
  by_cases h1 : j < pre.length
  · rw [List.getElem_append_left h1]; exact h j h1
  · simp at hj
    obtain rfl : j = pre.length := by omega
    simpa using hx
theorem idxOk_last {pre : List (TE w0 × Nat)} {x : TE w0 × Nat} (h : idxOk (pre ++ [x])) : x.2 = pre.length := by
  have := h pre.length (by simp)
  simpa using this
theorem idxOk_zip (es : List (TE w0)) (k : Nat) : idxOk (es.zipIdx.take k) := fun j hj => by simp
theorem zip_fst (es : List (TE w0)) : es.zipIdx.map (·.1) = es := by simp

/-- The first loop: the variable's row has what has come. -/
structure I1 (w0 W0 : World) (n1 Bl : Nat) (pre : List (TE w0 × Nat)) (W : World) : Prop where
  idx : idxOk pre
  row : ∃ A c, Blk W Bl 23 #[.slice A pre.length c] ∧ W.ownsRow n1 35 4 (.slice A pre.length c) pre.length (cellsL (pre.map (·.1)))
  kp : KpC n1 Bl W0 W
theorem i1_own (W0 : World) (n1 Bl : Nat) : OwnFrom n1 (fun (pre : List (TE w0 × Nat)) W => I1 w0 W0 n1 Bl pre W) := by
  rintro s W W' row ⟨hi, ⟨A, c, hv, ho⟩, hk⟩ hg hrow
  exact ⟨hi, ⟨A, c, blk_own hv hg hrow, row_own ho hg hrow⟩, kp_own hk hg hrow⟩
/-- The round's variable. -/
def Tb (n1 Bl Bt : Nat) (e : TE w0) (W : World) : Prop := n1 ≤ Bt ∧ Blk W Bt 35 e.cells.toArray ∧ ∃ A n c, Blk W Bl 23 #[.slice A n c] ∧ (Value.slice A n c).ownBlock ≠ some Bt

/-- One round of the first loop: the append, and the two orders of the stores. -/
theorem l1_step {W W0 : World} {n1 Bl Bt n c : Nat} {A : Option Addr} {pre : List (TE w0 × Nat)} {e : TE w0} (hn : pre.length = n) (hidx : idxOk pre) (hBl : Bl < n1) (hn1 : n1 ≤ W.heap.size) (hBt : n1 ≤ Bt) (ht : Blk W Bt 35 e.cells.toArray) (hv : Blk W Bl 23 #[.slice A n c]) (ho : W.ownsRow n1 35 4 (.slice A n c) n (cellsL (pre.map (·.1)))) (hnt : (Value.slice A n c).ownBlock ≠ some Bt) (hk : KpC n1 Bl W0 W) (hl : n ≤ 1000000) :
    ∃ g cap' V4, (Builtin.append_ #[23, 23] 23 #[.slice A n c, .slice (some ⟨W.drew.heap.size, 0, none⟩) 1 1]).run Try.prog (W.drew.alloc (.cells zero4.toArray 35)) = .ok (.slice (some ⟨g, 0, none⟩) (n + 1) cap') V4 ∧ g ≠ Bl ∧ g ≠ Bt ∧
      Blk V4 Bl 23 #[.slice A n c] ∧ Blk V4 Bt 35 e.cells.toArray ∧ (∀ i, i < 4 → (V4.cell? ⟨g, n * 4 + i, none⟩).isSome = true) ∧ (∀ i, V4.frozen? ⟨g, i, none⟩ = false) ∧
      (∀ V5, (V5 = (set4 V4 g (n * 4) (.int .i64 e.t.kind) (.int .i64 e.t.int) (.string ⟨e.t.name.toArray⟩) (.slice e.A e.t.items.length e.c)).setCell ⟨Bl, 0, none⟩ (.slice (some ⟨g, 0, none⟩) (n + 1) cap') ∨ V5 = set4 (V4.setCell ⟨Bl, 0, none⟩ (.slice (some ⟨g, 0, none⟩) (n + 1) cap')) g (n * 4) (.int .i64 e.t.kind) (.int .i64 e.t.int) (.string ⟨e.t.name.toArray⟩) (.slice e.A e.t.items.length e.c)) →
        I1 w0 W0 n1 Bl (pre ++ [(e, n)]) V5 ∧ KeepsOthers W V5 ∧ KpC n1 Bl W V5) := by
  obtain ⟨g, cap', V4, hrun, ho4, hg4, hgg, hsome, hfz⟩ := own_more (V := W.drew) n1 (A := A) (n := n) (cap := c) (es := pre.map (·.1)) (ho.kept (grown_of_below (Below.refl _ _).drew none) (by cases (Value.slice A n c).ownBlock <;> simp)) hl hn1
  have hob : ∀ k, (Value.slice A n c).ownBlock = some k → n1 ≤ k ∧ k < W.heap.size := fun k hk => World.ownsRow.lt ho k hk
  have htl := ht.lt
  have hgB : n1 ≤ g := (World.ownsRow.lt ho4 g rfl).1
  have hgl : g ≠ Bl := by omega
  have hgt : g ≠ Bt := by
    rcases hgg with hh | hh
    · rintro rfl; exact hnt hh
    · rw [hh]; show W.heap.size + 1 ≠ Bt; omega
  have hvd : Blk W.drew Bl 23 #[.slice A n c] := hv.keep (Below.refl _ _).drew
  have htd : Blk W.drew Bt 35 e.cells.toArray := ht.keep (Below.refl _ _).drew
  have hv4 : Blk V4 Bl 23 #[.slice A n c] := (hvd.alloc _).grown hg4 (fun e9 => by have := (hob Bl e9.symm).1; omega)
  have ht4 : Blk V4 Bt 35 e.cells.toArray := (htd.alloc _).grown hg4 (fun e9 => hnt e9.symm)
  have hfr4 : Fr (fun k => (Value.slice A n c).ownBlock = some k) W V4 := (Fr.of_below (below_step (Below.refl _ _).drew (below_alloc _ _)) _).same (Fr.of_grown hg4 (fun k e9 _ => e9))
  refine ⟨g, cap', V4, hrun, hgl, hgt, hv4, ht4, hsome, hfz, ?_⟩
  have hxl : (cellsL (pre.map (·.1))).length = n * 4 := by rw [cellsL_len, List.length_map, hn]
  have hco : cellsL ((pre ++ [(e, n)]).map (·.1)) = cellsL (pre.map (·.1)) ++ e.cells := by rw [List.map_append, cellsL_append]; simp [cellsL]
  have hgF : g < W.heap.size → (Value.slice A n c).ownBlock = some g := fun hlt => by
    rcases hgg with hh | hh
    · exact hh
    · have : W.drew.heap.size = W.heap.size := rfl
      omega
  -- both worlds
  have key : ∀ V5, Blk V5 Bl 23 #[.slice (some ⟨g, 0, none⟩) (n + 1) cap'] → V5.ownsRow n1 35 4 (.slice (some ⟨g, 0, none⟩) (n + 1) cap') (n + 1) (cellsL (pre.map (·.1)) ++ e.cells) → Fr (fun k => k = Bl ∨ (Value.slice A n c).ownBlock = some k) W V5 → I1 w0 W0 n1 Bl (pre ++ [(e, n)]) V5 ∧ KeepsOthers W V5 ∧ KpC n1 Bl W V5 := fun V5 hb5 ho5 hf5 => by
    have hkp : KpC n1 Bl W V5 := hf5.weak fun k _ hk => by
      rcases hk with hk | hk
      · exact .inl hk
      · exact .inr (hob k hk).1
    refine ⟨⟨idxOk_snoc hidx (by simp [hn]), ⟨some ⟨g, 0, none⟩, cap', ?_, ?_⟩, kpC_t hk hkp⟩, keeps_of hf5 (fun k o hF hko => ?_), hkp⟩
    · rw [List.length_append, hn]; exact hb5
    · rw [List.length_append, hn, hco]; exact ho5
    · rcases hF with rfl | hF
      · exact blk_isCells hv hko
      · exact own_isCells ho hF hko
  have hF4 : Fr (fun k => k = Bl ∨ (Value.slice A n c).ownBlock = some k) W V4 := hfr4.weak fun k _ hk => .inr hk
  rintro V5 (rfl | rfl)
  · refine key _ (((set4_fr V4 g (n * 4) _ _ _ _).blk hv4 (fun e9 => hgl e9.symm)).set_ 0 _) ?_ ((hF4.trans (set4_fr V4 g (n * 4) _ _ _ _) (fun i hi e9 => by subst e9; exact .inr (hgF hi))).same (Fr.setCell _ _ (p := ⟨Bl, 0, none⟩) (fun _ => .inl rfl) _))
    exact (own_store4 ho4 hxl).kept (grown_setCell (grown_refl _ (some Bl)) (p := ⟨Bl, 0, none⟩) (.inl rfl) _) (.inr (fun e9 => hgl (by simpa [Value.ownBlock] using e9)))
  · refine key _ ((set4_fr _ g (n * 4) _ _ _ _).blk (hv4.set_ 0 _) (fun e9 => hgl e9.symm)) ?_ ((hF4.same (Fr.setCell _ _ (p := ⟨Bl, 0, none⟩) (fun _ => .inl rfl) _)).trans (set4_fr _ g (n * 4) _ _ _ _) (fun i hi e9 => by subst e9; exact .inr (hgF hi)))
    exact own_store4 (ho4.kept (grown_setCell (grown_refl _ (some Bl)) (p := ⟨Bl, 0, none⟩) (.inl rfl) _) (.inr (fun e9 => hgl (by simpa [Value.ownBlock] using e9)))) hxl

/-- The second loop: the count. -/
structure I2 (w0 W2 : World) (n2 Bn : Nat) (pre : List (TE w0 × Nat)) (W : World) : Prop where
  cnt : Blk W Bn 3 #[.int .i64 (pre.length : Int)]
  kp : KpC n2 Bn W2 W
theorem i2_own (W2 : World) (n2 Bn : Nat) (p : List (TE w0 × Nat) → Prop) : OwnFrom n2 (fun (pre : List (TE w0 × Nat)) W => p pre ∧ I2 w0 W2 n2 Bn pre W) := by
  rintro s W W' row ⟨hp, hi, hk⟩ hg hrow
  exact ⟨hp, blk_own hi hg hrow, kp_own hk hg hrow⟩
/-- What has come is the beginning. -/
def isPre (es : List (TE w0)) (pre : List (TE w0 × Nat)) : Prop := ∃ k, pre = es.zipIdx.take k
theorem isPre_last {es : List (TE w0)} {pre : List (TE w0 × Nat)} {x : TE w0 × Nat} (h : isPre es (pre ++ [x])) : ∃ h : x.2 < es.length, x.1 = es[x.2] := by
  obtain ⟨k, hk⟩ := h
  have h1 : pre.length < (es.zipIdx.take k).length := by rw [← hk]; simp
  have h2 : (es.zipIdx.take k)[pre.length] = x := by
    have : (pre ++ [x])[pre.length]'(by simp) = x := by simp
    rw [← this]
    congr 1
    exact hk.symm
  simp at h1
  rw [List.getElem_take, List.getElem_zipIdx] at h2
  rw [← h2]
  exact ⟨by simp; omega, by simp⟩
end
end Go.Proofs.Ythmlpiiajlfmcaa
