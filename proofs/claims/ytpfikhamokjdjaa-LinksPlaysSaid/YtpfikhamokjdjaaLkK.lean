/- Links (layer 18): slices.AppendSeq and slices.Collect over the two iterators. -/
import Derived.Test.YtpfikhamokjdjaaLkJ
namespace Go.Proofs.Ytpfikhamokjdjaa
open Go.RowKit Go.Maps Go.WideMaps Go.Shelf
attribute [local go_sem] Oper.semAt_some
set_option linter.unusedVariables false

section
variable {F : Fence} {nF : Nat} {P : Program} {ops : Array Oper} {Q : Exit → Act → World → Prop} {rest : List Oper} {o : Oper} {a : Act} {w w' : World}
theorem wpListIn_appR (hg : o.guard = none) (s x : Operand) (t : TypeId) (ho : o.op = .call { callee := .builtin .append, args := #[s, x], argTypes := #[t, t] }) (v u v' : Value) (hs : a.eval s = v) (hx : a.eval x = u) (hrun : (Builtin.append_ #[t, t] o.type #[v, u]).run P w = .ok v' w')
    (h : wpListIn F nF P ops Q rest (a.put o.dst v') w') : wpListIn F nF P ops Q (o :: rest) a w := by
  refine wpListIn_plain hg fun K' hK' => ?_
  unfold Oper.wpIn
  refine ⟨by simp [Oper.about, ho, resolve, Target.leads, Sem.run_pure], ?_⟩
  rw [Oper.semAt_plain F _ _ (by rw [ho]; intro c hc'; cases hc')]
  simp [execOp, ho, resolve, invoke, builtin, hs, hx, hrun, Result.andThen]
  exact hK' _ _ h
end
theorem cs_blk9 {V : World} {g ty : Nat} {cs : List Value} (h : Blk V g ty cs.toArray) : Cs V (some ⟨g, 0, none⟩) cs := .inr ⟨_, rfl, fun j u hj => by rw [Addr.add_lit, Nat.zero_add, h.cell]; simpa using hj⟩
theorem keeps_of9 {W W' : World} {F : Nat → Prop} (h : Fr F W W') (hc : ∀ k o, F k → W.heap[k]? = some o → o.isCells = true) : KeepsOthers W W' :=
  ⟨h.size, fun k o hk ho => (h.block k (Array.getElem?_eq_some_iff.1 hk).1 (fun f => by have := hc k o f hk; rw [ho] at this; cases this)).trans hk⟩
theorem own_isCells9 {W : World} {base e size n g : Nat} {v : Value} {xs : List Value} {o : Obj} (h : W.ownsRow base e size v n xs) (hg : v.ownBlock = some g) (ho : W.heap[g]? = some o) : o.isCells = true := by
  rcases h.2 with ⟨rfl, _⟩ | ⟨g', cap, cur, rfl, _, hh, _⟩
  · cases hg
  · obtain rfl : g' = g := by simpa [Value.ownBlock] using hg
    rw [hh] at ho
    cases ho
    rfl
theorem blk_isCells9 {W : World} {g t : Nat} {cs : Array Value} {o : Obj} (h : Blk W g t cs) (ho : W.heap[g]? = some o) : o.isCells = true := by
  unfold Blk at h
  rw [h] at ho
  cases ho
  rfl
theorem blk_own9 {W W' : World} {g t B : Nat} {cs : Array Value} {row : Option Nat} (h : Blk W g t cs) (hg : W.grownBy W' row) (hrow : ∀ r, row = some r → B ≤ r ∧ ∃ o : Obj, W.heap[r]? = some o ∧ o.isCells = false) : Blk W' g t cs :=
  h.grown hg (fun e => by obtain ⟨_, o, ho, hc⟩ := hrow g e.symm; rw [blk_isCells9 h ho] at hc; cases hc)
theorem row_own9 {W W' : World} {base e size n B : Nat} {v : Value} {xs : List Value} {row : Option Nat} (h : W.ownsRow base e size v n xs) (hg : W.grownBy W' row) (hrow : ∀ r, row = some r → B ≤ r ∧ ∃ o : Obj, W.heap[r]? = some o ∧ o.isCells = false) : W'.ownsRow base e size v n xs := by
  refine h.kept hg ?_
  cases hgb : v.ownBlock with
  | none => exact .inl rfl
  | some g =>
    refine .inr (fun e => ?_)
    obtain ⟨_, o, ho, hc⟩ := hrow g e.symm
    rw [own_isCells9 h hgb ho] at hc
    cases hc

theorem own_low9 {W : World} {base base' e size n : Nat} {v : Value} {xs : List Value} (h : W.ownsRow base e size v n xs) (hb : base' ≤ base) : W.ownsRow base' e size v n xs := by
  refine ⟨h.1, ?_⟩
  rcases h.2 with h9 | ⟨g, cap, cur, h1, h2, h3⟩
  · exact .inl h9
  · exact .inr ⟨g, cap, cur, h1, Nat.le_trans hb h2, h3⟩
/-- The box Bo holds a slice of the call's own with these cells. -/
structure SeqI (w : World) (tS e k Bo n1 : Nat) (cells : List Value) (m : Nat) (W : World) : Prop where
  box : ∃ v, Blk W Bo tS #[v] ∧ W.ownsRow n1 e k v m cells
  bel : Below w.heap.size w W
  lo : n1 ≤ W.heap.size
theorem seqI_own {α : Type} (w : World) (tS e k Bo n1 : Nat) (hn : w.heap.size ≤ n1) (enc : α → List Value) : OwnFrom n1 (fun (pre : List α) W => SeqI w tS e k Bo n1 (pre.flatMap enc) pre.length W) := by
  rintro s W W' row ⟨⟨v, hv, ho⟩, hb, hl⟩ hg hrow
  exact ⟨⟨v, blk_own9 hv hg hrow, row_own9 ho hg hrow⟩, hb.trans (below_of_grown2 hg hb.size (fun k e => Nat.le_trans hn (hrow k e).1)), Nat.le_trans hl hg.size⟩
theorem seq_step {w W : World} {P : Program} {tS e k bytes Bo n1 m : Nat} {z : Value} (T : ElT P tS e z k bytes) {cells news : List Value} {v : Value} (hBo : Bo < n1) (hwB : w.heap.size ≤ Bo) (hb : Below w.heap.size w W) (hl : n1 ≤ W.heap.size) (hv : Blk W Bo tS #[v]) (ho : W.ownsRow n1 e k v m cells)
    (hk : news.length = k) (h1 : ∀ u ∈ news, u.oneCell' = true) (h63 : m + 1 ≤ maxLen) (hbytes : (m + 1) * bytes ≤ 140737488355328) :
    ∃ g cap w2, (Builtin.append_ #[tS, tS] tS #[v, .slice (some ⟨W.heap.size, 0, none⟩) 1 1]).run P (W.alloc (.cells news.toArray e)) = .ok (.slice (some ⟨g, 0, none⟩) (m + 1) cap) w2 ∧
      w2.cell? ⟨Bo, 0, none⟩ = some v ∧ w2.frozen? ⟨Bo, 0, none⟩ = false ∧ Bo < w2.heap.size ∧
      SeqI w tS e k Bo n1 (cells ++ news) (m + 1) (w2.setCell ⟨Bo, 0, none⟩ (.slice (some ⟨g, 0, none⟩) (m + 1) cap)) ∧ KeepsOthers W (w2.setCell ⟨Bo, 0, none⟩ (.slice (some ⟨g, 0, none⟩) (m + 1) cap)) := by
  have ho1 : (W.alloc (.cells news.toArray e)).ownsRow n1 e k v m cells := own_bel ho (below_alloc _ _)
  obtain ⟨v', w2, hrun, ho2, hg2, _⟩ := run_append_cs (P := P) (W.alloc (.cells news.toArray e)) T tS n1 v m cells ho1 (some ⟨W.heap.size, 0, none⟩) 1 1 news (by omega) (cs_blk9 (Blk.new W e news.toArray)) h1 h63 hbytes (by simp; omega)
  obtain ⟨g, cap, rfl, _, _⟩ := ho2.form (by omega)
  have hvB : ∀ j, v.ownBlock = some j → n1 ≤ j := fun j hj => (World.ownsRow.lt ho j hj).1
  have hBv : some Bo ≠ v.ownBlock := fun e => by have := hvB Bo e.symm; omega
  have hv2 : Blk w2 Bo tS #[v] := (hv.alloc _).grown hg2 hBv
  have hgn : n1 ≤ g := (World.ownsRow.lt ho2 g rfl).1
  have hfr : Fr (fun j => j = Bo ∨ some j = v.ownBlock) W (w2.setCell ⟨Bo, 0, none⟩ (.slice (some ⟨g, 0, none⟩) (m + 1) cap)) :=
    ((Fr.of_below (below_alloc W _) _).same (Fr.of_grown hg2 (fun j e _ => .inr e.symm))).same (Fr.setCell _ w2 (p := ⟨Bo, 0, none⟩) (fun _ => .inl rfl) _)
  refine ⟨g, cap, w2, hrun, hv2.cell 0, hv2.frozen 0, hv2.lt, ⟨⟨_, hv2.set_ 0 _, ?_⟩, hb.trans (hfr.below hb.size (fun j hj => ?_)), Nat.le_trans hl hfr.size⟩, keeps_of9 hfr ?_⟩
  · refine ho2.kept (grown_setCell (grown_refl w2 (some Bo)) (p := ⟨Bo, 0, none⟩) (.inl rfl) _) (.inr ?_)
    intro e
    obtain rfl : g = Bo := by simpa [Value.ownBlock] using e
    omega
  · rcases hj with rfl | hj
    · exact hwB
    · have := hvB j hj.symm; have := hwB; omega
  · rintro j o (rfl | hj) hh
    · exact blk_isCells9 hv hh
    · exact own_isCells9 ho hj.symm hh

def encW (x : WV) : List Value := [.int .i64 x.ref, .int .i64 x.fr, .int .i64 x.to]
theorem watchT : ElT Try.prog 34 33 (.agg #[.int .i64 0, .int .i64 0, .int .i64 0]) 3 24 := ⟨Try.underlying34, by kernel_rfl, rfl, by decide⟩
def encP (p : Int × Int) : List Value := [.int .i64 p.1, .int .i64 p.2]
theorem pairT : ElT Try.prog 42 45 (.agg #[.int .i64 0, .int .i64 0]) 2 16 := ⟨Try.underlying42, by kernel_rfl, rfl, by decide⟩
theorem vals_stops (n : Nat) (hn : 1 ≤ n) (Bm b nn : Nat) (K : WL) (hkok : ∀ x ∈ K, i64ok x.ref) (hknd : K.Pairwise fun x y => x.ref ≠ y.ref) (w : World) (hBm : Bm < w.heap.size) (hm : w.cell? ⟨Bm, 0, none⟩ = some (.map (some b))) (hown : WM w b nn K) :
    SeqStopsK Fence.wide n Try.prog 44 #[.pointer (some ⟨Bm, 0, none⟩)] (fun x => #[wv x]) KeepsWalks (fun ys => ys.Perm K) (fun _ => True) K.length w :=
  fun l J Jx W hW hJ _ hY h0 => vals_in n hn l Bm b nn K hkok hknd J Jx hY W hJ ((hW.cell (p := ⟨Bm, 0, none⟩) hBm).trans hm) (hown.grown (grown_of_below hW none) (by simp)) h0
theorem keysP_stops (n : Nat) (hn : 1 ≤ n) (Bm b nn : Nat) (K : PL) (hkok : ∀ x ∈ K, i64ok x.1 ∧ i64ok x.2) (hknd : K.Nodup) (w : World) (hBm : Bm < w.heap.size) (hm : w.cell? ⟨Bm, 0, none⟩ = some (.map (some b))) (hown : PM w b nn K) :
    SeqStopsK Fence.wide n Try.prog 48 #[.pointer (some ⟨Bm, 0, none⟩)] (fun x => #[pv x]) KeepsWalks (fun ys => ys.Perm K) (fun _ => True) K.length w :=
  fun l J Jx W hW hJ _ hY h0 => keysP_in n hn l Bm b nn K hkok hknd J Jx hY W hJ ((hW.cell (p := ⟨Bm, 0, none⟩) hBm).trans hm) (hown.grown (grown_of_below hW none) (by simp)) h0

def ColW (w : World) (K : WL) (e : Ending) (w' : World) : Prop := ∃ v ys, e = .returned v ∧ List.Perm ys K ∧ w'.ownsRow w.heap.size 33 3 v ys.length (ys.flatMap encW) ∧ Below w.heap.size w w'
theorem cell_same9 {w : World} {g i : Nat} {v : Value} (h : w.cell? ⟨g, i, none⟩ = some v) (p : Addr) : (w.setCell ⟨g, i, none⟩ v).cell? p = w.cell? p := by
  by_cases e : p = ⟨g, i, none⟩
  · subst e
    rw [h]
    exact World.cell?_setCell_same' _ _ _ (by rw [h]; rfl)
  · exact World.cell?_setCell_other _ _ _ _ (fun h => e h.symm)

set_option maxRecDepth 100000 in
set_option maxHeartbeats 4000000 in
theorem appW_v (Bm b nn : Nat) (K : WL) (hkok : ∀ x ∈ K, i64ok x.ref) (hknd : K.Pairwise fun x y => x.ref ≠ y.ref) (hlen : K.length ≤ 1000000) (w : World) (hBm : Bm < w.heap.size) (hm : w.cell? ⟨Bm, 0, none⟩ = some (.map (some b))) (hown : WM w b nn K) :
    Calls Try.prog 60 #[.slice none 0 0, .func (.func 44) #[] #[.pointer (some ⟨Bm, 0, none⟩)]] w (ColW w K) := by
  have hmx : Try.prog.follows .mixedOrders = true := by kernel_rfl
  refine (callsIn_wide (n := 6)).1 ?_
  refine callsIn_of_wp_marks Try.func60 rfl trivial ?_ rfl
  simp only [Try.ntmps60, List.size_toArray, List.length_cons, List.length_nil, Nat.reduceAdd, Nat.reduceSub, Array.replicate_succ, Array.replicate_zero, List.push_toArray, List.append_toArray, List.nil_append, List.cons_append]
  gi_wp2
  obtain ⟨W0, hW0⟩ : ∃ W0, w.alloc (.cells #[.slice none 0 0] 34) = W0 := ⟨_, rfl⟩
  have hsz : W0.heap.size = w.heap.size + 1 := by rw [← hW0]; simp
  have hbo : Blk W0 w.heap.size 34 #[.slice none 0 0] := by rw [← hW0]; exact Blk.new w _ _
  have hb0 : Below w.heap.size w W0 := by rw [← hW0]; exact below_alloc _ _
  have hI0 : SeqI w 34 33 3 w.heap.size W0.heap.size (([] : WL).flatMap encW) ([] : WL).length W0 := ⟨⟨_, hbo, World.ownsRow_nil _ _ _ _⟩, hb0, Nat.le_refl _⟩
  rw [hW0]
  refine wpIn_rangeFunc_ownH rfl (by omega) (gf := 44) (lb := #[.pointer (some ⟨Bm, 0, none⟩)]) rfl trivial (enters_of Try.func44 (by kernel_rfl) rfl)
    (vals_stops _ (by omega) Bm b nn K hkok hknd W0 (by omega) ((hb0.cell (p := ⟨Bm, 0, none⟩) hBm).trans hm) (hown.grown (grown_of_below hb0 none) (by simp))) walksK_t walksK_b (Below.refl _ _) (fun _ => rfl)
    (fun (pre : WL) W => SeqI w 34 33 3 w.heap.size W0.heap.size (pre.flatMap encW) pre.length W)
    (fun _ _ _ => False)
    (seqI_own w _ _ 3 w.heap.size W0.heap.size (by omega) encW)
    (fun _ _ _ _ _ hs _ _ => hs)
    hI0
    (fun x a' W => ∃ Bt, Blk W Bt 33 #[.int .i64 x.ref, .int .i64 x.fr, .int .i64 x.to] ∧ a' = { tmps := #[.slice none 0 0, .func (.func 44) #[] #[.pointer (some ⟨Bm, 0, none⟩)], .pointer (some ⟨w.heap.size, 0, none⟩), undef, .slice none 0 0, .pointer (some ⟨Bt, 0, none⟩),
      .func (.func 44) #[] #[.pointer (some ⟨Bm, 0, none⟩)], wv x, undef, undef, undef, undef, undef], defers := [] }) ?ax ?assign ?body ?done ?stop
  case ax =>
    rintro x a' _ W W' row ⟨Bt, h2, h5⟩ hg hrow
    exact ⟨Bt, blk_own9 h2 hg hrow, h5⟩
  case assign =>
    rintro l pre x W K ⟨⟨v, hv, ho⟩, hb, hl⟩ hK
    unfold wv
    gi_wp2
    refine hK _ _ ((KeepsOthers.alloc W _).from _) (KeepsWalks.alloc _ _) ⟨⟨v, hv.alloc _, own_bel ho (below_alloc _ _)⟩, below_step hb (below_alloc _ _), by simp; omega⟩ ⟨W.heap.size, Blk.new _ _ _, rfl⟩
  case body =>
    rintro l pre x a' W hl hlr ⟨⟨v, hv, ho⟩, hb, hlo⟩ ⟨Bt, hbt, rfl⟩ hlt
    obtain ⟨g, cap, w2, hrun, c2, f2, s2, hI, hKO⟩ := seq_step watchT (news := encW x) (by omega) (Nat.le_refl _) hb hlo hv ho rfl (by simp [encW, Value.oneCell']) (by unfold maxLen; omega) (by omega)
    have HI := Lib.hid (show SeqI w 34 33 3 w.heap.size W0.heap.size ((pre ++ [x]).flatMap encW) (pre ++ [x]).length (w2.setCell ⟨w.heap.size, 0, none⟩ (.slice (some ⟨g, 0, none⟩) (pre.length + 1) cap)) by rw [List.flatMap_append, List.length_append]; simpa using hI)
    have HKO := Lib.hid hKO
    have HRUN := Lib.hid hrun
    have c1 := hv.cell 0
    have c3 := hbt.cell 0
    have c4 := hbt.cell 1
    have c5 := hbt.cell 2
    obtain ⟨m, hm9⟩ : ∃ m, pre.length = m := ⟨_, rfl⟩
    rw [hm9] at HI HKO HRUN
    unfold wv
    clear hI hKO hrun hbt hv ho hb hlo hI0 hbo hb0 hW0 hlr hsz hm9
    gi_wp2_with (gi_at_builtin; refine wpListIn_appR rfl _ _ _ rfl _ _ _ rfl rfl HRUN.out ?_; go_frame)
    exact ⟨HKO.out.from _, HKO.out.walks, HI.out⟩
  case done =>
    rintro D ys W hD hys ⟨⟨v, hv, ho⟩, hb, hlo⟩ hK
    have hc := hv.cell 0
    gi_wp2
    refine ⟨by simp, .inl ⟨_, _, rfl, run_takeDeferred hK, ?_⟩⟩
    have hbK : Below w.heap.size W (W.putObj D (.deferred none)) := belowK_b (w := w) (Nat.le_refl _) _ D _ _ (by omega) hK rfl rfl
    refine ⟨v, by simp [results, Try.results60, go_sem], v, ys, rfl, hys, ?_, hb.trans (hbK.mono (Nat.le_refl _))⟩
    have h9 := row_own9 (B := 0) ho (grownBy_putObj' W D (.deferred none)) (fun r e => by cases e; exact ⟨Nat.zero_le _, _, hK, rfl⟩)
    exact own_low9 h9 (by omega)
  case stop =>
    rintro D c pre W _ _ h _
    exact h.elim
def ColP (w : World) (K : PL) (e : Ending) (w' : World) : Prop := ∃ v ys, e = .returned v ∧ List.Perm ys K ∧ w'.ownsRow w.heap.size 45 2 v ys.length (ys.flatMap encP) ∧ Below w.heap.size w w'

set_option maxRecDepth 100000 in
set_option maxHeartbeats 4000000 in
theorem appP_v (Bm b nn : Nat) (K : PL) (hkok : ∀ x ∈ K, i64ok x.1 ∧ i64ok x.2) (hknd : K.Nodup) (hlen : K.length ≤ 1000000) (w : World) (hBm : Bm < w.heap.size) (hm : w.cell? ⟨Bm, 0, none⟩ = some (.map (some b))) (hown : PM w b nn K) :
    Calls Try.prog 62 #[.slice none 0 0, .func (.func 48) #[] #[.pointer (some ⟨Bm, 0, none⟩)]] w (ColP w K) := by
  have hmx : Try.prog.follows .mixedOrders = true := by kernel_rfl
  refine (callsIn_wide (n := 6)).1 ?_
  refine callsIn_of_wp_marks Try.func62 rfl trivial ?_ rfl
  simp only [Try.ntmps62, List.size_toArray, List.length_cons, List.length_nil, Nat.reduceAdd, Nat.reduceSub, Array.replicate_succ, Array.replicate_zero, List.push_toArray, List.append_toArray, List.nil_append, List.cons_append]
  gi_wp2
  obtain ⟨W0, hW0⟩ : ∃ W0, w.alloc (.cells #[.slice none 0 0] 42) = W0 := ⟨_, rfl⟩
  have hsz : W0.heap.size = w.heap.size + 1 := by rw [← hW0]; simp
  have hbo : Blk W0 w.heap.size 42 #[.slice none 0 0] := by rw [← hW0]; exact Blk.new w _ _
  have hb0 : Below w.heap.size w W0 := by rw [← hW0]; exact below_alloc _ _
  have hI0 : SeqI w 42 45 2 w.heap.size W0.heap.size (([] : PL).flatMap encP) ([] : PL).length W0 := ⟨⟨_, hbo, World.ownsRow_nil _ _ _ _⟩, hb0, Nat.le_refl _⟩
  rw [hW0]
  refine wpIn_rangeFunc_ownH rfl (by omega) (gf := 48) (lb := #[.pointer (some ⟨Bm, 0, none⟩)]) rfl trivial (enters_of Try.func48 (by kernel_rfl) rfl)
    (keysP_stops _ (by omega) Bm b nn K hkok hknd W0 (by omega) ((hb0.cell (p := ⟨Bm, 0, none⟩) hBm).trans hm) (hown.grown (grown_of_below hb0 none) (by simp))) walksK_t walksK_b (Below.refl _ _) (fun _ => rfl)
    (fun (pre : PL) W => SeqI w 42 45 2 w.heap.size W0.heap.size (pre.flatMap encP) pre.length W)
    (fun _ _ _ => False)
    (seqI_own w _ _ 2 w.heap.size W0.heap.size (by omega) encP)
    (fun _ _ _ _ _ hs _ _ => hs)
    hI0
    (fun x a' W => ∃ Bt, Blk W Bt 45 #[.int .i64 x.1, .int .i64 x.2] ∧ a' = { tmps := #[.slice none 0 0, .func (.func 48) #[] #[.pointer (some ⟨Bm, 0, none⟩)], .pointer (some ⟨w.heap.size, 0, none⟩), undef, .slice none 0 0, .pointer (some ⟨Bt, 0, none⟩),
      .func (.func 48) #[] #[.pointer (some ⟨Bm, 0, none⟩)], pv x, undef, undef, undef, undef, undef], defers := [] }) ?ax ?assign ?body ?done ?stop
  case ax =>
    rintro x a' _ W W' row ⟨Bt, h2, h5⟩ hg hrow
    exact ⟨Bt, blk_own9 h2 hg hrow, h5⟩
  case assign =>
    rintro l pre x W K ⟨⟨v, hv, ho⟩, hb, hl⟩ hK
    unfold pv
    gi_wp2
    refine hK _ _ ((KeepsOthers.alloc W _).from _) (KeepsWalks.alloc _ _) ⟨⟨v, hv.alloc _, own_bel ho (below_alloc _ _)⟩, below_step hb (below_alloc _ _), by simp; omega⟩ ⟨W.heap.size, Blk.new _ _ _, rfl⟩
  case body =>
    rintro l pre x a' W hl hlr ⟨⟨v, hv, ho⟩, hb, hlo⟩ ⟨Bt, hbt, rfl⟩ hlt
    obtain ⟨g, cap, w2, hrun, c2, f2, s2, hI, hKO⟩ := seq_step pairT (news := encP x) (by omega) (Nat.le_refl _) hb hlo hv ho rfl (by simp [encP, Value.oneCell']) (by unfold maxLen; omega) (by omega)
    have HI := Lib.hid (show SeqI w 42 45 2 w.heap.size W0.heap.size ((pre ++ [x]).flatMap encP) (pre ++ [x]).length (w2.setCell ⟨w.heap.size, 0, none⟩ (.slice (some ⟨g, 0, none⟩) (pre.length + 1) cap)) by rw [List.flatMap_append, List.length_append]; simpa using hI)
    have HKO := Lib.hid hKO
    have HRUN := Lib.hid hrun
    have c1 := hv.cell 0
    have c3 := hbt.cell 0
    have c4 := hbt.cell 1
    obtain ⟨m, hm9⟩ : ∃ m, pre.length = m := ⟨_, rfl⟩
    rw [hm9] at HI HKO HRUN
    unfold pv
    clear hI hKO hrun hbt hv ho hb hlo hI0 hbo hb0 hW0 hlr hsz hm9
    gi_wp2_with (gi_at_builtin; refine wpListIn_appR rfl _ _ _ rfl _ _ _ rfl rfl HRUN.out ?_; go_frame)
    exact ⟨HKO.out.from _, HKO.out.walks, HI.out⟩
  case done =>
    rintro D ys W hD hys ⟨⟨v, hv, ho⟩, hb, hlo⟩ hK
    have hc := hv.cell 0
    gi_wp2
    refine ⟨by simp, .inl ⟨_, _, rfl, run_takeDeferred hK, ?_⟩⟩
    have hbK : Below w.heap.size W (W.putObj D (.deferred none)) := belowK_b (w := w) (Nat.le_refl _) _ D _ _ (by omega) hK rfl rfl
    refine ⟨v, by simp [results, Try.results62, go_sem], v, ys, rfl, hys, ?_, hb.trans (hbK.mono (Nat.le_refl _))⟩
    have h9 := row_own9 (B := 0) ho (grownBy_putObj' W D (.deferred none)) (fun r e => by cases e; exact ⟨Nat.zero_le _, _, hK, rfl⟩)
    exact own_low9 h9 (by omega)
  case stop =>
    rintro D c pre W _ _ h _
    exact h.elim
end Go.Proofs.Ytpfikhamokjdjaa
