/- The law's all of layer 17: the walk. -/
import Derived.Test.YthmlpiiajlfmcaaMAllE
namespace Go.Proofs.Ythmlpiiajlfmcaa
open Go.RowKit Go.Shelf
attribute [local go_sem] Oper.semAt_some
set_option linter.unusedVariables false

def AllEnds (w0 w : World) (es : List (TE w0)) (e : Ending) (w' : World) : Prop :=
  ∃ A c, e = .returned (.tuple #[.slice A es.length c, .bool true]) ∧ w'.ownsRow w.heap.size 35 4 (.slice A es.length c) es.length (cellsL es) ∧ Below w.heap.size w w'
theorem BoxV.weak {w0 W : World} {n1 n2 Bo : Nat} {v : Value} {es : List (TE w0)} (h : BoxV w0 n1 n1 v es W) (hn : n1 ≤ n2) (hB : n1 ≤ Bo) : BoxV w0 n2 Bo v es W := by
  cases h with
  | none => exact .none
  | some h hp hg => exact .some h (by omega) (fun g e => by have := hg g e; omega)
theorem BoxV.keep {w0 W W' : World} {n1 Bo : Nat} {v : Value} {es : List (TE w0)} (h : BoxV w0 n1 Bo v es W) (hb : Below W.heap.size W W') : BoxV w0 n1 Bo v es W' := by
  cases h with
  | none => exact .none
  | some h hp hg => exact .some (h.keep hb) hp hg

theorem BoxV.fr2 {w0 W W' : World} {m n1 Bo : Nat} {v : Value} {es : List (TE w0)} (h : BoxV w0 m m v es W) (hf : KpC n1 Bo W W') (h1 : m ≤ n1) (h2 : m ≤ Bo) (h3 : w0.heap.size ≤ n1) (h4 : w0.heap.size ≤ Bo) : BoxV w0 m m v es W' := by
  cases h with
  | none => exact .none
  | some h hp hg => exact .some (h.fr hf (by omega) (fun g e => by have := hg g e; omega) (fun k e => by omega)) hp hg

set_option maxRecDepth 100000 in
set_option maxHeartbeats 4000000 in
theorem all_in (w0 : World) (v : Value) (es : List (TE w0)) (w : World) (hes : es.length ≤ 1000) (hbw : Below w0.heap.size w0 w) (hbox : BoxV w0 w.heap.size w.heap.size v es w) (hv : v.oneCell' = true) :
    Calls Try.prog 18 #[v] w (AllEnds w0 w es) := by
  have HEA := Lib.hid (fun W => beach_any v W hv)
  have heq : ∀ W fn a b, (binOp .eql 64 (.func fn a b) .nilFunc).run Try.prog W = .ok (.bool false) W := fun W fn a b => eql_func W _ fn a b Try.underlying64
  have hmx : Try.prog.follows .mixedOrders = true := by kernel_rfl
  refine (callsIn_wide (n := 6)).1 ?_
  refine callsIn_of_wp_marks Try.func18 rfl trivial ?_ rfl
  simp only [Try.ntmps18, List.size_toArray, List.length_cons, List.length_nil, Nat.reduceAdd, Nat.reduceSub, Array.replicate_succ, Array.replicate_zero, List.push_toArray, List.append_toArray, List.nil_append, List.cons_append]
  gi_wp2_with (first
    | (refine ⟨trivial, ?_⟩; gi_at_call 31; refine (callsIn_wide.2 (HEA.out _)).mono ?_; rintro e w' ⟨rfl, rfl⟩))
  have HEQ := Lib.hid heq
  clear heq HEA
  obtain ⟨W0, hW0⟩ : ∃ W0, (((w.alloc (.cells #[.slice none 0 0] 23)).alloc (.cells #[.bool false] 4)).alloc (.cells #[v] 26)).alloc (.cells #[.slice none 0 0] 23) = W0 := ⟨_, rfl⟩
  have hsz : W0.heap.size = w.heap.size + 4 := by rw [← hW0]; simp
  have hb0 : Below w.heap.size w W0 := by rw [← hW0]; exact below_step (below_step (below_step (below_alloc _ _) (below_alloc _ _)) (below_alloc _ _)) (below_alloc _ _)
  have hr1 : Blk W0 w.heap.size 23 #[.slice none 0 0] := by rw [← hW0]; exact (((Blk.new w _ _).alloc _).alloc _).alloc _
  have hr2 : Blk W0 (w.heap.size + 1) 4 #[.bool false] := by
    rw [← hW0]
    have := ((Blk.new (w.alloc (.cells #[.slice none 0 0] 23)) 4 #[.bool false]).alloc (.cells #[v] 26)).alloc (.cells #[.slice none 0 0] 23)
    simpa using this
  have hbb : Blk W0 (w.heap.size + 1 + 1) 26 #[v] := by
    rw [← hW0]
    have := (Blk.new ((w.alloc (.cells #[.slice none 0 0] 23)).alloc (.cells #[.bool false] 4)) 26 #[v]).alloc (.cells #[.slice none 0 0] 23)
    simpa using this
  have hbl : Blk W0 (w.heap.size + 1 + 1 + 1) 23 #[.slice none 0 0] := by
    rw [← hW0]
    have := Blk.new (((w.alloc (.cells #[.slice none 0 0] 23)).alloc (.cells #[.bool false] 4)).alloc (.cells #[v] 26)) 23 #[.slice none 0 0]
    simpa using this
  have hbx0 : BoxV w0 W0.heap.size (w.heap.size + 1 + 1 + 1) v es W0 := (hbox.keep hb0).weak (by omega) (by omega)
  have hw0 := hbw.size
  rw [hW0]
  refine wpIn_rangeFunc_ownH rfl (by omega) (gf := 39) (lb := #[.pointer (some ⟨w.heap.size + 1 + 1, 0, none⟩)]) rfl trivial (enters_of Try.func39 (by kernel_rfl) rfl)
    (each_stops _ (by omega) (w.heap.size + 1 + 1) W0.heap.size (w.heap.size + 1 + 1 + 1) w0 v es hes (by omega) (by omega) (by omega) (by omega) W0 (Nat.le_refl _) (hbb.cell 0) hbx0) kpC_t (kpC_b (Nat.le_refl _)) (Below.refl _ _) (fun _ => rfl)
    (fun pre W => I1 w0 W0 W0.heap.size (w.heap.size + 1 + 1 + 1) pre W)
    (fun _ pre _ => ¬ idxOk pre)
    (i1_own W0 W0.heap.size (w.heap.size + 1 + 1 + 1))
    (fun _ _ _ _ _ hs _ _ => hs)
    ⟨idxOk_nil, ⟨none, 0, hbl, World.ownsRow_nil _ _ _ _⟩, Fr.refl _ _⟩
    (fun x a' W => ∃ Bt, Tb W0.heap.size (w.heap.size + 1 + 1 + 1) Bt x.1 W ∧ a' = { tmps := #[v, undef, .pointer (some ⟨w.heap.size, 0, none⟩), .pointer (some ⟨w.heap.size + 1, 0, none⟩), .func (.func 39) #[] #[.pointer (some ⟨w.heap.size + 1 + 1, 0, none⟩)], .pointer (some ⟨w.heap.size + 1 + 1 + 1, 0, none⟩),
      .int .i64 (x.2 : Int), .pointer (some ⟨Bt, 0, none⟩), undef, undef, undef, v, .func (.func 39) #[] #[.pointer (some ⟨w.heap.size + 1 + 1, 0, none⟩)], .func (.func 39) #[] #[.pointer (some ⟨w.heap.size + 1 + 1, 0, none⟩)], .bool false, .func (.func 39) #[] #[.pointer (some ⟨w.heap.size + 1 + 1, 0, none⟩)],
      .int .i64 (x.2 : Int), x.1.agg, undef, undef, undef, undef, undef, undef, undef, undef, undef, undef, undef, undef, undef, undef, undef, undef, undef, undef, undef, undef, undef, undef, undef, undef, undef, undef, undef, undef, undef, undef, undef, undef, undef, undef, undef, undef, undef, undef, undef, undef, undef, undef], defers := [] }) ?ax ?assign ?body ?done ?stop
  case ax =>
    rintro x a' _ W W' row ⟨Bt, ⟨h1, h2, A, n, c, h3, h4⟩, h5⟩ hg hrow
    exact ⟨Bt, ⟨h1, blk_own h2 hg hrow, A, n, c, blk_own h3 hg hrow, h4⟩, h5⟩
  case assign =>
    rintro l pre x W K ⟨hi, ⟨A, c, hv1, ho1⟩, hk1⟩ hK
    unfold teEnc TE.agg
    gi_wp2
    refine hK _ _ ((KeepsOthers.alloc W _).from _) (Fr.alloc _ _ _) ⟨hi, ⟨A, c, hv1.alloc _, ho1.alloc _⟩, Fr.same hk1 (Fr.alloc _ _ _)⟩ ⟨W.heap.size, ⟨hk1.size, Blk.new _ _ _, A, _, c, hv1.alloc _, fun e9 => Nat.lt_irrefl _ (World.ownsRow.lt ho1 _ e9).2⟩, rfl⟩
  case body =>
    rintro l pre x a' W hl hlr ⟨hi, ⟨A, c, hv1, ho1⟩, hk1⟩ ⟨Bt, ⟨hBt, ht1, A', n', c', hv2, hne⟩, rfl⟩ hlt
    obtain ⟨e, xi⟩ := x
    obtain ⟨rfl, rfl, rfl⟩ : A' = A ∧ n' = pre.length ∧ c' = c := by
      unfold Blk at hv1 hv2
      rw [hv1] at hv2
      simpa using hv2.symm
    simp only at ht1 hlt ⊢
    have HI := Lib.hid hi
    obtain ⟨n, hn⟩ : ∃ n, pre.length = n := ⟨_, rfl⟩
    rw [hn] at hv1 ho1 hne hlt
    have hk2 := hk1.size
    have c5 : W.cell? ⟨w.heap.size + 1 + 1 + 1, 0, none⟩ = some (.slice A' n c') := hv1.cell 0
    have s5 := hv1.lt
    have f5 := hv1.frozen 0
    unfold TE.agg
    by_cases hx : xi = n
    · subst hx
      obtain ⟨g, cap', V4, hrun, hgl, hgt, hv4, ht4, hsome, hfz, hend⟩ := l1_step hn hi (by omega) hk2 hBt ht1 hv1 ho1 hne hk1 (by omega)
      have HRUN := Lib.hid hrun
      have HEND := Lib.hid hend
      have d1 : ((xi : Int) != (xi : Int)) = false := by simp
      have d2 : decide ((1000 : Int) < (xi : Int)) = false := by simp; omega
      obtain ⟨y0, z0⟩ := Option.isSome_iff_exists.1 (hsome 0 (by omega))
      obtain ⟨y1, z1⟩ := Option.isSome_iff_exists.1 (hsome 1 (by omega))
      obtain ⟨y2, z2⟩ := Option.isSome_iff_exists.1 (hsome 2 (by omega))
      obtain ⟨y3, z3⟩ := Option.isSome_iff_exists.1 (hsome 3 (by omega))
      rw [Nat.add_zero] at z0
      have fz0 := hfz (xi * 4)
      have fz1 := hfz (xi * 4 + 1)
      have fz2 := hfz (xi * 4 + 2)
      have fz3 := hfz (xi * 4 + 3)
      clear hrun hend hsome hfz hi hW0
      gi_wp2
      have hSd : Blk W.drew Bt 35 e.cells.toArray := ht1.keep (Below.refl _ _).drew
      have hSa : Blk (W.drew.alloc (.cells zero4.toArray 35)) Bt 35 e.cells.toArray := hSd.alloc _
      have HST : Hid (∀ V, Blk V Bt 35 e.cells.toArray → V.cell? ⟨Bt, 0, none⟩ = some (.int .i64 e.t.kind) ∧ V.cell? ⟨Bt, 1, none⟩ = some (.int .i64 e.t.int) ∧ V.cell? ⟨Bt, 2, none⟩ = some (.string ⟨e.t.name.toArray⟩) ∧ V.cell? ⟨Bt, 3, none⟩ = some (.slice e.A e.t.items.length e.c)) := fun V hb => ⟨hb.cell 0, hb.cell 1, hb.cell 2, hb.cell 3⟩
      have HNE := Lib.hid (show Bt ≠ w.heap.size + 1 + 1 + 1 by omega)
      have b4 : V4.cell? ⟨w.heap.size + 1 + 1 + 1, 0, none⟩ = some (.slice A' xi c') := hv4.cell 0
      have bf4 := hv4.frozen 0
      have b5 : (set4 V4 g (xi * 4) (.int .i64 e.t.kind) (.int .i64 e.t.int) (.string ⟨e.t.name.toArray⟩) (.slice e.A e.t.items.length e.c)).cell? ⟨w.heap.size + 1 + 1 + 1, 0, none⟩ = some (.slice A' xi c') := ((set4_fr V4 g (xi * 4) _ _ _ _).blk hv4 (fun e9 => hgl e9.symm)).cell 0
      have bf5 : (set4 V4 g (xi * 4) (.int .i64 e.t.kind) (.int .i64 e.t.int) (.string ⟨e.t.name.toArray⟩) (.slice e.A e.t.items.length e.c)).frozen? ⟨w.heap.size + 1 + 1 + 1, 0, none⟩ = false := ((set4_fr V4 g (xi * 4) _ _ _ _).blk hv4 (fun e9 => hgl e9.symm)).frozen 0
      unfold set4 at b5 bf5
      have q1 : (0 : Int) ≤ (xi : Int) := by omega
      have q2 : (xi : Int) < (xi : Int) + 1 := by omega
      have q3 : xi < xi + 1 := by omega
      -- REGION10
      refine region_inR hmx (by kernel_rfl) (fun V => Blk V Bt 35 e.cells.toArray) { tmps := #[v, undef, .pointer (some ⟨w.heap.size, 0, none⟩), .pointer (some ⟨w.heap.size + 1, 0, none⟩), .func (.func 39) #[] #[.pointer (some ⟨w.heap.size + 1 + 1, 0, none⟩)], .pointer (some ⟨w.heap.size + 1 + 1 + 1, 0, none⟩), .int .i64 (xi : Int), .pointer (some ⟨Bt, 0, none⟩), undef, undef, undef, v, .func (.func 39) #[] #[.pointer (some ⟨w.heap.size + 1 + 1, 0, none⟩)], .func (.func 39) #[] #[.pointer (some ⟨w.heap.size + 1 + 1, 0, none⟩)], .bool false, .func (.func 39) #[] #[.pointer (some ⟨w.heap.size + 1 + 1, 0, none⟩)], .int .i64 (xi : Int), .agg #[.int .i64 e.t.kind, .int .i64 e.t.int, .string ⟨e.t.name.toArray⟩, .slice e.A e.t.items.length e.c], .int .i64 (xi : Int), .slice A' xi c', .int .i64 (xi : Int), .bool false, .bool false, .int .i64 (xi : Int), .bool false, .bool false, undef, .slice A' xi c', .agg #[.int .i64 e.t.kind, .int .i64 e.t.int, .string ⟨e.t.name.toArray⟩, .slice e.A e.t.items.length e.c], .int .i64 (xi : Int), .slice (some ⟨W.heap.size, 0, none⟩) 1 1, .slice (some ⟨g, 0, none⟩) (xi + 1) cap', .pointer (some ⟨g, xi * 4, none⟩), undef, undef, undef, undef, undef, undef, undef, undef, undef, undef, undef, undef, undef, undef, undef, undef, undef, undef, undef, undef, undef, undef, undef, undef, undef, undef, undef], defers := [] } (fun V => I1 w0 W0 W0.heap.size (w.heap.size + 1 + 1 + 1) (pre ++ [(e, xi)]) V ∧ KeepsOthers W V ∧ KpC W0.heap.size (w.heap.size + 1 + 1 + 1) W V) ?_ ?_
      · skip
        (refine wpAnyH_take (i := 1) (v := ?_) rfl (by kernel_rfl) (by kernel_rfl) (by kernel_rfl) (fun _ _ _ h => by cases h.1) (Or.inl ⟨by kernel_rfl, ?_⟩) (by assumption) ?_; rotate_left; focus (intro V9 hS9; obtain ⟨j0, j1, j2, j3⟩ := HST.out V9 hS9; go_simp; (try (with_reducible rfl)); done))
        go_frame
        refine wpAnyH_ready (rs := [0, 3]) (by kernel_rfl) (by simp) ?_
        refine AllReadyH.cons rfl (fun K hK => ?_) (AllReadyH.cons rfl (fun K hK => ?_) AllReadyH.nil)
        · skip
          go_simp
          refine hK.out _ _ hSd (fun _ => ?_)
          clear hK K
          (refine wpAnyH_take (i := 2) (v := ?_) rfl (by kernel_rfl) (by kernel_rfl) (by kernel_rfl) (fun _ _ _ h => by cases h.1) (Or.inl ⟨by kernel_rfl, ?_⟩) (by assumption) ?_; rotate_left; focus (intro _ _; go_simp; (try (with_reducible rfl)); done))
          go_frame
          refine wpAnyH_ready (rs := [3]) (by kernel_rfl) (by simp) ?_
          refine AllReadyH.cons rfl (fun K hK => ?_) AllReadyH.nil
          go_simp
          refine hK.out _ _ hSa (fun _ => ?_)
          clear hK K
          refine wpAnyH_ready (rs := [4]) (by kernel_rfl) (by simp) ?_
          refine AllReadyH.cons rfl (fun K hK => ?_) AllReadyH.nil
          refine step_app (by kernel_rfl) (.tmp 27) (.tmp 30) 23 rfl _ _ _ rfl rfl HRUN.out ?_
          refine hK.out _ _ ht4 (fun _ => ?_)
          clear hK K
          go_frame
          (refine wpAnyH_take (i := 5) (v := ?_) rfl (by kernel_rfl) (by kernel_rfl) (by kernel_rfl) (fun _ _ _ h => by cases h.1) (Or.inl ⟨by kernel_rfl, ?_⟩) (by assumption) ?_; rotate_left; focus (intro _ _; go_simp; (try (with_reducible rfl)); done))
          go_frame
          refine wpAnyH_ready (rs := [6, 7]) (by kernel_rfl) (by simp) ?_
          refine AllReadyH.cons rfl (fun K hK => ?_) (AllReadyH.cons rfl (fun K hK => ?_) AllReadyH.nil)
          · skip
            go_simp
            refine hK.out _ _ ((set4_fr V4 g (xi * 4) (.int .i64 e.t.kind) (.int .i64 e.t.int) (.string ⟨e.t.name.toArray⟩) (.slice e.A e.t.items.length e.c)).blk ht4 (fun e9 => hgt e9.symm)) (fun _ => ?_)
            clear hK K
            refine wpAnyH_ready (rs := [7]) (by kernel_rfl) (by simp) ?_
            refine AllReadyH.cons rfl (fun K hK => ?_) AllReadyH.nil
            go_simp
            refine hK.out _ _ (((set4_fr V4 g (xi * 4) (.int .i64 e.t.kind) (.int .i64 e.t.int) (.string ⟨e.t.name.toArray⟩) (.slice e.A e.t.items.length e.c)).blk ht4 (fun e9 => hgt e9.symm)).far (p := ⟨w.heap.size + 1 + 1 + 1, 0, none⟩) (fun e9 => absurd e9 HNE.out) _) (fun _ => ?_)
            clear hK K
            refine wpAnyH_done (by kernel_rfl) ⟨rfl, rfl, HEND.out _ (.inl rfl)⟩ _
          · skip
            go_simp
            refine hK.out _ _ (ht4.far (p := ⟨w.heap.size + 1 + 1 + 1, 0, none⟩) (fun e9 => absurd e9 HNE.out) _) (fun _ => ?_)
            clear hK K
            refine wpAnyH_ready (rs := [6]) (by kernel_rfl) (by simp) ?_
            refine AllReadyH.cons rfl (fun K hK => ?_) AllReadyH.nil
            go_simp
            refine hK.out _ _ ((set4_fr (V4.setCell ⟨w.heap.size + 1 + 1 + 1, 0, none⟩ (.slice (some ⟨g, 0, none⟩) (xi + 1) cap')) g (xi * 4) (.int .i64 e.t.kind) (.int .i64 e.t.int) (.string ⟨e.t.name.toArray⟩) (.slice e.A e.t.items.length e.c)).blk (ht4.far (p := ⟨w.heap.size + 1 + 1 + 1, 0, none⟩) (fun e9 => absurd e9 HNE.out) _) (fun e9 => hgt e9.symm)) (fun _ => ?_)
            clear hK K
            refine wpAnyH_done (by kernel_rfl) ⟨rfl, rfl, HEND.out _ (.inr rfl)⟩ _
        · skip
          go_simp
          refine hK.out _ _ hSa (fun _ => ?_)
          clear hK K
          refine wpAnyH_ready (rs := [0]) (by kernel_rfl) (by simp) ?_
          refine AllReadyH.cons rfl (fun K hK => ?_) AllReadyH.nil
          go_simp
          refine hK.out _ _ hSa (fun _ => ?_)
          clear hK K
          (refine wpAnyH_take (i := 2) (v := ?_) rfl (by kernel_rfl) (by kernel_rfl) (by kernel_rfl) (fun _ _ _ h => by cases h.1) (Or.inl ⟨by kernel_rfl, ?_⟩) (by assumption) ?_; rotate_left; focus (intro _ _; go_simp; (try (with_reducible rfl)); done))
          go_frame
          refine wpAnyH_ready (rs := [4]) (by kernel_rfl) (by simp) ?_
          refine AllReadyH.cons rfl (fun K hK => ?_) AllReadyH.nil
          refine step_app (by kernel_rfl) (.tmp 27) (.tmp 30) 23 rfl _ _ _ rfl rfl HRUN.out ?_
          refine hK.out _ _ ht4 (fun _ => ?_)
          clear hK K
          go_frame
          (refine wpAnyH_take (i := 5) (v := ?_) rfl (by kernel_rfl) (by kernel_rfl) (by kernel_rfl) (fun _ _ _ h => by cases h.1) (Or.inl ⟨by kernel_rfl, ?_⟩) (by assumption) ?_; rotate_left; focus (intro _ _; go_simp; (try (with_reducible rfl)); done))
          go_frame
          refine wpAnyH_ready (rs := [6, 7]) (by kernel_rfl) (by simp) ?_
          refine AllReadyH.cons rfl (fun K hK => ?_) (AllReadyH.cons rfl (fun K hK => ?_) AllReadyH.nil)
          · skip
            go_simp
            refine hK.out _ _ ((set4_fr V4 g (xi * 4) (.int .i64 e.t.kind) (.int .i64 e.t.int) (.string ⟨e.t.name.toArray⟩) (.slice e.A e.t.items.length e.c)).blk ht4 (fun e9 => hgt e9.symm)) (fun _ => ?_)
            clear hK K
            refine wpAnyH_ready (rs := [7]) (by kernel_rfl) (by simp) ?_
            refine AllReadyH.cons rfl (fun K hK => ?_) AllReadyH.nil
            go_simp
            refine hK.out _ _ (((set4_fr V4 g (xi * 4) (.int .i64 e.t.kind) (.int .i64 e.t.int) (.string ⟨e.t.name.toArray⟩) (.slice e.A e.t.items.length e.c)).blk ht4 (fun e9 => hgt e9.symm)).far (p := ⟨w.heap.size + 1 + 1 + 1, 0, none⟩) (fun e9 => absurd e9 HNE.out) _) (fun _ => ?_)
            clear hK K
            refine wpAnyH_done (by kernel_rfl) ⟨rfl, rfl, HEND.out _ (.inl rfl)⟩ _
          · skip
            go_simp
            refine hK.out _ _ (ht4.far (p := ⟨w.heap.size + 1 + 1 + 1, 0, none⟩) (fun e9 => absurd e9 HNE.out) _) (fun _ => ?_)
            clear hK K
            refine wpAnyH_ready (rs := [6]) (by kernel_rfl) (by simp) ?_
            refine AllReadyH.cons rfl (fun K hK => ?_) AllReadyH.nil
            go_simp
            refine hK.out _ _ ((set4_fr (V4.setCell ⟨w.heap.size + 1 + 1 + 1, 0, none⟩ (.slice (some ⟨g, 0, none⟩) (xi + 1) cap')) g (xi * 4) (.int .i64 e.t.kind) (.int .i64 e.t.int) (.string ⟨e.t.name.toArray⟩) (.slice e.A e.t.items.length e.c)).blk (ht4.far (p := ⟨w.heap.size + 1 + 1 + 1, 0, none⟩) (fun e9 => absurd e9 HNE.out) _) (fun e9 => hgt e9.symm)) (fun _ => ?_)
            clear hK K
            refine wpAnyH_done (by kernel_rfl) ⟨rfl, rfl, HEND.out _ (.inr rfl)⟩ _
      · rintro V ⟨h1, h2, h3⟩
        gi_wp2
        exact ⟨h2.from _, h3, h1⟩
      -- ENDREGION10
    · have d1 : ((xi : Int) != (n : Int)) = true := by rw [bne_iff_ne]; omega
      have r1 := (hk1.blk hr1 (by omega)).cell 0
      have rf1 := (hk1.blk hr1 (by omega)).frozen 0
      have r2 := (hk1.blk hr2 (by omega)).cell 0
      have rf2 := (hk1.blk hr2 (by omega)).frozen 0
      have HNO : Hid (¬ idxOk (pre ++ [(e, xi)])) := fun h9 => hx (by have := idxOk_last h9; simp at this; omega)
      clear hW0
      gi_wp2
      exact ⟨((KeepsOthers.setCell W _ _).trans (KeepsOthers.setCell _ _ _)).from _, HNO.out⟩
  case done =>
    rintro D ys W hD rfl ⟨hi, ⟨A, c, hv1, ho1⟩, hk1⟩ hK
    have hlz : es.zipIdx.length = es.length := by simp
    rw [hlz] at hv1 ho1
    rw [zip_fst] at ho1
    have hk2 := hk1.size
    clear hW0 hi hbl
    gi_wp2
    -- LOOP2
    obtain ⟨W2, hW2⟩ : ∃ W2, W.alloc (.cells #[.int .i64 0] 3) = W2 := ⟨_, rfl⟩
    have hsz2 : W2.heap.size = W.heap.size + 1 := by rw [← hW2]; simp
    have hb2 : Below W.heap.size W W2 := by rw [← hW2]; exact below_alloc _ _
    have hbn2 : Blk W2 W.heap.size 3 #[.int .i64 0] := by rw [← hW2]; exact Blk.new _ _ _
    have hv2 := hv1.keep hb2
    have ho2 : W2.ownsRow W0.heap.size 35 4 (.slice A es.length c) es.length (cellsL es) := ho1.kept (grown_of_below hb2 none) (by cases (Value.slice A es.length c).ownBlock <;> simp)
    have hr12 := (hk1.blk hr1 (by omega)).keep hb2
    have hr22 := (hk1.blk hr2 (by omega)).keep hb2
    have hbb2 := (hk1.blk hbb (by omega)).keep hb2
    have hbx2 : BoxV w0 W2.heap.size W.heap.size v es W2 := (((hbox.keep hb0).fr2 hk1 (by omega) (by omega) (by omega) (by omega)).keep hb2).weak (by omega) (by omega)
    have hvl := hv1.lt
    have hogb : ∀ g, (Value.slice A es.length c).ownBlock = some g → g < W.heap.size := fun g hg => (World.ownsRow.lt ho1 g hg).2
    have hbw2 : Below w.heap.size w W2 := (hb0.trans (hk1.below hb0.size (fun k hk => by omega))).trans (hb2.mono (by omega))
    have hK2 : W2.heap[D]? = some (.deferred (some [])) := (hb2.block D (Array.getElem?_eq_some_iff.1 hK).1).trans hK
    have hDl := (Array.getElem?_eq_some_iff.1 hK).1
    rw [hW2]
    clear hW2 hK
    refine wpIn_rangeFunc_ownH rfl (by omega) (gf := 39) (lb := #[.pointer (some ⟨w.heap.size + 1 + 1, 0, none⟩)]) rfl trivial (enters_of Try.func39 (by kernel_rfl) rfl)
      (each_stops _ (by omega) (w.heap.size + 1 + 1) W2.heap.size W.heap.size w0 v es hes (by omega) (by omega) (by omega) (by omega) W2 (Nat.le_refl _) (hbb2.cell 0) hbx2) kpC_t (kpC_b (Nat.le_refl _)) (Below.refl _ _) (fun _ => rfl)
      (fun pre W' => pre.length ≤ 2 ∧ I2 w0 W2 W2.heap.size W.heap.size pre W')
      (fun c pre W' => ¬ isPre es pre ∨ ((c = .exit 2 ∧ pre.length = 3) ∧ I2 w0 W2 W2.heap.size W.heap.size pre W'))
      (i2_own W2 W2.heap.size W.heap.size (fun pre => pre.length ≤ 2))
      (fun cc s X X' row hs hg hrow => hs.imp id fun h9 => i2_own W2 W2.heap.size W.heap.size (fun pre => cc = .exit 2 ∧ pre.length = 3) s X X' row h9 hg hrow)
      ⟨by simp, hbn2, Fr.refl _ _⟩
      (fun x a' W' => ∃ Bt, (W2.heap.size ≤ Bt ∧ Blk W' Bt 35 x.1.cells.toArray) ∧ a' = { tmps := #[v, undef, .pointer (some ⟨w.heap.size, 0, none⟩), .pointer (some ⟨w.heap.size + 1, 0, none⟩), .func (.func 39) #[] #[.pointer (some ⟨w.heap.size + 1 + 1, 0, none⟩)], .pointer (some ⟨w.heap.size + 1 + 1 + 1, 0, none⟩), undef, undef, .pointer (some ⟨W.heap.size, 0, none⟩), .int .i64 (x.2 : Int), .pointer (some ⟨Bt, 0, none⟩), v, .func (.func 39) #[] #[.pointer (some ⟨w.heap.size + 1 + 1, 0, none⟩)], .func (.func 39) #[] #[.pointer (some ⟨w.heap.size + 1 + 1, 0, none⟩)], .bool false, .func (.func 39) #[] #[.pointer (some ⟨w.heap.size + 1 + 1, 0, none⟩)], undef, undef, undef, undef, undef, undef, undef, undef, undef, undef, undef, undef, undef, undef, undef, undef, undef, .func (.func 39) #[] #[.pointer (some ⟨w.heap.size + 1 + 1, 0, none⟩)], .int .i64 (x.2 : Int), x.1.agg, undef, undef, undef, undef, undef, undef, undef, undef, undef, undef, undef, undef, undef, undef, undef, undef, undef, undef, undef, undef, undef, undef, undef, undef], defers := [] }) ?ax2 ?assign2 ?body2 ?done2 ?stop2
    case ax2 =>
      rintro x a' _ X X' row ⟨Bt, ⟨h1, h2⟩, h5⟩ hg hrow
      exact ⟨Bt, ⟨h1, blk_own h2 hg hrow⟩, h5⟩
    case assign2 =>
      rintro l pre x X K ⟨hp, hc, hk⟩ hKK
      unfold teEnc TE.agg
      gi_wp2
      exact hKK _ _ ((KeepsOthers.alloc X _).from _) (Fr.alloc _ _ _) ⟨hp, hc.alloc _, Fr.same hk (Fr.alloc _ _ _)⟩ ⟨X.heap.size, ⟨hk.size, Blk.new _ _ _⟩, rfl⟩
    case body2 =>
      rintro l pre x a' X hl hlr ⟨hp5, hc5, hk5⟩ ⟨Bt, ⟨hBt, ht5⟩, rfl⟩ hlt
      obtain ⟨e, xi⟩ := x
      simp only at ht5 hlt ⊢
      obtain ⟨n, hn⟩ : ∃ n, pre.length = n := ⟨_, rfl⟩
      rw [hn] at hc5 hp5
      have hk5s := hk5.size
      have HOGB := Lib.hid hogb
      have hv5 := hk5.blk hv2 (by omega)
      have ho5 : X.ownsRow W0.heap.size 35 4 (.slice A es.length c) es.length (cellsL es) := own_fr ho2 hk5 (fun g hg => by have := HOGB.out g hg; omega)
      have hbw5 : Below w0.heap.size w0 X := (hbw.trans (hbw2.mono (by omega))).trans (hk5.below (by have := hbw2.size; omega) (fun k hk => by omega))
      obtain ⟨len, hlen⟩ : ∃ len, es.length = len := ⟨_, rfl⟩
      have HKO : Hid (∀ V, Below X.heap.size X V → KeepsOthers X V) := fun V hb => ⟨hb.size, fun k o hk _ => (hb.block k (Array.getElem?_eq_some_iff.1 hk).1).trans hk⟩
      have HV5 := Lib.hid hv5
      have HC5 := Lib.hid hc5
      have HHN := Lib.hid hn
      have HK5 := Lib.hid hk5
      have hr15 := hk5.blk hr12 (by omega)
      have hr25 := hk5.blk hr22 (by omega)
      have HR1 := Lib.hid hr15
      have HR2 := Lib.hid hr25
      have hBdn : Below X.heap.size X X.drew := (Below.refl _ _).drew
      unfold TE.agg
      by_cases hxl : xi < len
      · have hxe : xi < es.length := by omega
        obtain ⟨g, tl, rfl, _, _, hnc, hcm, _⟩ := own_open ho5 (by omega)
        have HS : Hid (∀ V, Below X.heap.size X V → V.cell? ⟨w.heap.size + 1 + 1 + 1, 0, none⟩ = some (.slice (some ⟨g, 0, none⟩) len c) ∧ V.cell? ⟨Bt, 0, none⟩ = some (.int .i64 e.t.kind) ∧ V.cell? ⟨Bt, 1, none⟩ = some (.int .i64 e.t.int) ∧ V.cell? ⟨Bt, 2, none⟩ = some (.string ⟨e.t.name.toArray⟩) ∧ V.cell? ⟨Bt, 3, none⟩ = some (.slice e.A e.t.items.length e.c) ∧
            V.cell? ⟨g, xi * 4, none⟩ = some (.int .i64 es[xi].t.kind) ∧ V.cell? ⟨g, xi * 4 + 1, none⟩ = some (.int .i64 es[xi].t.int) ∧ V.cell? ⟨g, xi * 4 + 2, none⟩ = some (.string ⟨es[xi].t.name.toArray⟩) ∧ V.cell? ⟨g, xi * 4 + 3, none⟩ = some (.slice es[xi].A es[xi].t.items.length es[xi].c)) := fun V hb => by
          have t9 := ht5.keep hb
          have o9 : V.ownsRow W0.heap.size 35 4 (.slice (some ⟨g, 0, none⟩) es.length c) es.length (cellsL es) := ho5.kept (grown_of_below hb none) (.inr (by simp [Value.ownBlock]))
          obtain ⟨z0, z1, z2, z3⟩ := own_cell o9 hxe
          exact ⟨by rw [← hlen]; exact (hv5.keep hb).cell 0, t9.cell 0, t9.cell 1, t9.cell 2, t9.cell 3, z0, z1, z2, z3⟩
        have HSM := Lib.hid (fun V (hb : Below X.heap.size X V) => tsame_any es[xi].t e.t es[xi].A es[xi].c e.A e.c w0 V (below_step hbw5 hb) es[xi].ok e.ok)
        have HPR := Lib.hid (fun (h9 : isPre es (pre ++ [(e, xi)])) => show (es[xi].t.cmp e.t == 0) = true from by
          obtain ⟨_, h8⟩ := isPre_last h9
          simp only at h8
          rw [← h8]
          exact cmp_self e.t)
        have d1 : decide (len ≤ xi) = false := by simp; omega
        have q1 : (0 : Int) ≤ (xi : Int) := by omega
        have q2 : (xi : Int) < (len : Int) := by omega
        generalize es[xi] = ex at *
        generalize (ex.t.cmp e.t == 0) = r at *
        clear hbx2 hbox hbx0 hv5 ho5 hv2 ho2 ho1 hv1
        rw [hlen] at hlt
        cases r with
        | false =>
          gi_wp2
          refine region_inR hmx (by kernel_rfl) (fun V => Below X.heap.size X V) { tmps := #[v, undef, .pointer (some ⟨w.heap.size, 0, none⟩), .pointer (some ⟨w.heap.size + 1, 0, none⟩), .func (.func 39) #[] #[.pointer (some ⟨w.heap.size + 1 + 1, 0, none⟩)], .pointer (some ⟨w.heap.size + 1 + 1 + 1, 0, none⟩), undef, undef, .pointer (some ⟨W.heap.size, 0, none⟩), .int .i64 (xi : Int), .pointer (some ⟨Bt, 0, none⟩), v, .func (.func 39) #[] #[.pointer (some ⟨w.heap.size + 1 + 1, 0, none⟩)], .func (.func 39) #[] #[.pointer (some ⟨w.heap.size + 1 + 1, 0, none⟩)], .bool false, .func (.func 39) #[] #[.pointer (some ⟨w.heap.size + 1 + 1, 0, none⟩)], undef, undef, undef, undef, undef, undef, undef, undef, undef, undef, undef, undef, undef, undef, undef, undef, undef, .func (.func 39) #[] #[.pointer (some ⟨w.heap.size + 1 + 1, 0, none⟩)], .int .i64 (xi : Int), .agg #[.int .i64 e.t.kind, .int .i64 e.t.int, .string ⟨e.t.name.toArray⟩, .slice e.A e.t.items.length e.c], .int .i64 (xi : Int), .slice (some ⟨g, 0, none⟩) len c, .int .i64 (len : Int), .bool false, .bool false, .slice (some ⟨g, 0, none⟩) len c, .int .i64 (xi : Int), .pointer (some ⟨g, xi * 4, none⟩), .agg #[.int .i64 ex.t.kind, .int .i64 ex.t.int, .string ⟨ex.t.name.toArray⟩, .slice ex.A ex.t.items.length ex.c], .agg #[.int .i64 e.t.kind, .int .i64 e.t.int, .string ⟨e.t.name.toArray⟩, .slice e.A e.t.items.length e.c], .bool false, .bool true, .bool true, undef, undef, undef, undef, undef, undef, undef, undef, undef, undef, undef], defers := [] } (fun V => Below X.heap.size X V) ?_ ?_
          · skip
            (refine wpAnyH_take (i := 0) (v := ?_) rfl (by kernel_rfl) (by kernel_rfl) (by kernel_rfl) (fun _ _ _ h => by cases h.1) (Or.inl ⟨by kernel_rfl, ?_⟩) (by assumption) ?_; rotate_left; focus (intro _ _; go_simp; (try (with_reducible rfl)); done))
            simp only [Act.put, List.getElem_toArray, List.getElem_cons_zero, List.setIfInBounds_toArray, List.set_cons_succ, List.set_cons_zero]
            (refine wpAnyH_take (i := 1) (v := ?_) rfl (by kernel_rfl) (by kernel_rfl) (by kernel_rfl) (fun _ _ _ h => by cases h.1) (Or.inl ⟨by kernel_rfl, ?_⟩) (by assumption) ?_; rotate_left; focus (intro V9 hS9; obtain ⟨j0, j1, j2, j3, j4, j5, j6, j7, j8⟩ := HS.out V9 hS9; go_simp; (try (with_reducible rfl)); done))
            simp only [Act.put, List.getElem_toArray, List.getElem_cons_succ, List.getElem_cons_zero, List.setIfInBounds_toArray, List.set_cons_succ, List.set_cons_zero]
            (refine wpAnyH_take (i := 2) (v := ?_) rfl (by kernel_rfl) (by kernel_rfl) (by kernel_rfl) (fun _ _ _ h => by cases h.1) (Or.inl ⟨by kernel_rfl, ?_⟩) (by assumption) ?_; rotate_left; focus (intro _ _; go_simp; (try (with_reducible rfl)); done))
            simp only [Act.put, List.getElem_toArray, List.getElem_cons_succ, List.getElem_cons_zero, List.setIfInBounds_toArray, List.set_cons_succ, List.set_cons_zero]
            (refine wpAnyH_take (i := 3) (v := ?_) rfl (by kernel_rfl) (by kernel_rfl) (by kernel_rfl) (fun _ _ _ h => by cases h.1) (Or.inl ⟨by kernel_rfl, ?_⟩) (by assumption) ?_; rotate_left; focus (intro _ _; go_simp; (try (with_reducible rfl)); done))
            simp only [Act.put, List.getElem_toArray, List.getElem_cons_succ, List.getElem_cons_zero, List.setIfInBounds_toArray, List.set_cons_succ, List.set_cons_zero]
            (refine wpAnyH_take (i := 4) (v := ?_) rfl (by kernel_rfl) (by kernel_rfl) (by kernel_rfl) (fun _ _ _ h => by cases h.1) (Or.inl ⟨by kernel_rfl, ?_⟩) (by assumption) ?_; rotate_left; focus (intro _ _; go_simp; (try (with_reducible rfl)); done))
            simp only [Act.put, List.getElem_toArray, List.getElem_cons_succ, List.getElem_cons_zero, List.setIfInBounds_toArray, List.set_cons_succ, List.set_cons_zero]
            (refine wpAnyH_take (i := 5) (v := ?_) rfl (by kernel_rfl) (by kernel_rfl) (by kernel_rfl) (fun _ _ _ h => by cases h.1) (Or.inl ⟨by kernel_rfl, ?_⟩) (by assumption) ?_; rotate_left; focus (intro V9 hS9; obtain ⟨j0, j1, j2, j3, j4, j5, j6, j7, j8⟩ := HS.out V9 hS9; go_simp; (try (with_reducible rfl)); done))
            simp only [Act.put, List.getElem_toArray, List.getElem_cons_succ, List.getElem_cons_zero, List.setIfInBounds_toArray, List.set_cons_succ, List.set_cons_zero]
            (refine wpAnyH_take (i := 6) (v := ?_) rfl (by kernel_rfl) (by kernel_rfl) (by kernel_rfl) (fun _ _ _ h => by cases h.1) (Or.inl ⟨by kernel_rfl, ?_⟩) (by assumption) ?_; rotate_left; focus (intro _ _; go_simp; (try (with_reducible rfl)); done))
            simp only [Act.put, List.getElem_toArray, List.getElem_cons_succ, List.getElem_cons_zero, List.setIfInBounds_toArray, List.set_cons_succ, List.set_cons_zero]
            (refine wpAnyH_take (i := 7) (v := ?_) rfl (by kernel_rfl) (by kernel_rfl) (by kernel_rfl) (fun _ _ _ h => by cases h.1) (Or.inl ⟨by kernel_rfl, ?_⟩) (by assumption) ?_; rotate_left; focus (intro _ _; go_simp; (try (with_reducible rfl)); done))
            simp only [Act.put, List.getElem_toArray, List.getElem_cons_succ, List.getElem_cons_zero, List.setIfInBounds_toArray, List.set_cons_succ, List.set_cons_zero]
            (refine wpAnyH_take (i := 8) (v := ?_) rfl (by kernel_rfl) (by kernel_rfl) (by kernel_rfl) (fun _ _ _ h => by cases h.1) (Or.inl ⟨by kernel_rfl, ?_⟩) (by assumption) ?_; rotate_left; focus (intro V9 hS9; obtain ⟨j0, j1, j2, j3, j4, j5, j6, j7, j8⟩ := HS.out V9 hS9; go_simp; (try (with_reducible rfl)); done))
            simp only [Act.put, List.getElem_toArray, List.getElem_cons_succ, List.getElem_cons_zero, List.setIfInBounds_toArray, List.set_cons_succ, List.set_cons_zero]
            (refine wpAnyH_take (i := 9) (v := ?_) rfl (by kernel_rfl) (by kernel_rfl) (by kernel_rfl) (fun _ _ _ h => by cases h.1) (Or.inl ⟨by kernel_rfl, ?_⟩) (by assumption) ?_; rotate_left; focus (intro V9 hS9; obtain ⟨j0, j1, j2, j3, j4, j5, j6, j7, j8⟩ := HS.out V9 hS9; go_simp; (try (with_reducible rfl)); done))
            simp only [Act.put, List.getElem_toArray, List.getElem_cons_succ, List.getElem_cons_zero, List.setIfInBounds_toArray, List.set_cons_succ, List.set_cons_zero]
            refine wpAnyH_ready (rs := [10]) (by kernel_rfl) (by simp) ?_
            refine AllReadyH.cons rfl (fun K hK => ?_) AllReadyH.nil
            go_simp
            go_wp2_with (go_at_call 17; refine (HSM.out _ hBdn).mono ?_; rintro r9 V9 ⟨rfl, hb9⟩)
            refine hK.out _ _ (below_step hBdn hb9) (fun _ => ?_)
            clear hK K
            (refine wpAnyH_take (i := 11) (v := ?_) rfl (by kernel_rfl) (by kernel_rfl) (by kernel_rfl) (fun _ _ _ h => by cases h.1) (Or.inl ⟨by kernel_rfl, ?_⟩) (by assumption) ?_; rotate_left; focus (intro _ _; go_simp; (try (with_reducible rfl)); done))
            simp only [Act.put, List.getElem_toArray, List.getElem_cons_succ, List.getElem_cons_zero, List.setIfInBounds_toArray, List.set_cons_succ, List.set_cons_zero]
            (refine wpAnyH_take (i := 12) (v := ?_) rfl (by kernel_rfl) (by kernel_rfl) (by kernel_rfl) (fun _ _ _ h => by cases h.1) (Or.inl ⟨by kernel_rfl, ?_⟩) (by assumption) ?_; rotate_left; focus (intro _ _; go_simp; (try (with_reducible rfl)); done))
            simp only [Act.put, List.getElem_toArray, List.getElem_cons_succ, List.getElem_cons_zero, List.setIfInBounds_toArray, List.set_cons_succ, List.set_cons_zero]
            refine wpAnyH_done (by kernel_rfl) ⟨rfl, rfl, below_step hBdn hb9⟩ _
          · intro V hb
            have l0 := (HV5.out.keep hb).cell 0
            have r1 := (HR1.out.keep hb).cell 0
            have rf1 := (HR1.out.keep hb).frozen 0
            have r2 := (HR2.out.keep hb).cell 0
            have rf2 := (HR2.out.keep hb).frozen 0
            gi_wp2
            exact ⟨((HKO.out V hb).trans ((KeepsOthers.setCell V _ _).trans (KeepsOthers.setCell _ _ _))).from _, .inl (fun h9 => by cases HPR.out h9)⟩
        | true =>
          gi_wp2
          refine region_inR hmx (by kernel_rfl) (fun V => Below X.heap.size X V) { tmps := #[v, undef, .pointer (some ⟨w.heap.size, 0, none⟩), .pointer (some ⟨w.heap.size + 1, 0, none⟩), .func (.func 39) #[] #[.pointer (some ⟨w.heap.size + 1 + 1, 0, none⟩)], .pointer (some ⟨w.heap.size + 1 + 1 + 1, 0, none⟩), undef, undef, .pointer (some ⟨W.heap.size, 0, none⟩), .int .i64 (xi : Int), .pointer (some ⟨Bt, 0, none⟩), v, .func (.func 39) #[] #[.pointer (some ⟨w.heap.size + 1 + 1, 0, none⟩)], .func (.func 39) #[] #[.pointer (some ⟨w.heap.size + 1 + 1, 0, none⟩)], .bool false, .func (.func 39) #[] #[.pointer (some ⟨w.heap.size + 1 + 1, 0, none⟩)], undef, undef, undef, undef, undef, undef, undef, undef, undef, undef, undef, undef, undef, undef, undef, undef, undef, .func (.func 39) #[] #[.pointer (some ⟨w.heap.size + 1 + 1, 0, none⟩)], .int .i64 (xi : Int), .agg #[.int .i64 e.t.kind, .int .i64 e.t.int, .string ⟨e.t.name.toArray⟩, .slice e.A e.t.items.length e.c], .int .i64 (xi : Int), .slice (some ⟨g, 0, none⟩) len c, .int .i64 (len : Int), .bool false, .bool false, .slice (some ⟨g, 0, none⟩) len c, .int .i64 (xi : Int), .pointer (some ⟨g, xi * 4, none⟩), .agg #[.int .i64 ex.t.kind, .int .i64 ex.t.int, .string ⟨ex.t.name.toArray⟩, .slice ex.A ex.t.items.length ex.c], .agg #[.int .i64 e.t.kind, .int .i64 e.t.int, .string ⟨e.t.name.toArray⟩, .slice e.A e.t.items.length e.c], .bool true, .bool false, .bool false, undef, undef, undef, undef, undef, undef, undef, undef, undef, undef, undef], defers := [] } (fun V => Below X.heap.size X V) ?_ ?_
          · skip
            (refine wpAnyH_take (i := 0) (v := ?_) rfl (by kernel_rfl) (by kernel_rfl) (by kernel_rfl) (fun _ _ _ h => by cases h.1) (Or.inl ⟨by kernel_rfl, ?_⟩) (by assumption) ?_; rotate_left; focus (intro _ _; go_simp; (try (with_reducible rfl)); done))
            simp only [Act.put, List.getElem_toArray, List.getElem_cons_zero, List.setIfInBounds_toArray, List.set_cons_succ, List.set_cons_zero]
            (refine wpAnyH_take (i := 1) (v := ?_) rfl (by kernel_rfl) (by kernel_rfl) (by kernel_rfl) (fun _ _ _ h => by cases h.1) (Or.inl ⟨by kernel_rfl, ?_⟩) (by assumption) ?_; rotate_left; focus (intro V9 hS9; obtain ⟨j0, j1, j2, j3, j4, j5, j6, j7, j8⟩ := HS.out V9 hS9; go_simp; (try (with_reducible rfl)); done))
            simp only [Act.put, List.getElem_toArray, List.getElem_cons_succ, List.getElem_cons_zero, List.setIfInBounds_toArray, List.set_cons_succ, List.set_cons_zero]
            (refine wpAnyH_take (i := 2) (v := ?_) rfl (by kernel_rfl) (by kernel_rfl) (by kernel_rfl) (fun _ _ _ h => by cases h.1) (Or.inl ⟨by kernel_rfl, ?_⟩) (by assumption) ?_; rotate_left; focus (intro _ _; go_simp; (try (with_reducible rfl)); done))
            simp only [Act.put, List.getElem_toArray, List.getElem_cons_succ, List.getElem_cons_zero, List.setIfInBounds_toArray, List.set_cons_succ, List.set_cons_zero]
            (refine wpAnyH_take (i := 3) (v := ?_) rfl (by kernel_rfl) (by kernel_rfl) (by kernel_rfl) (fun _ _ _ h => by cases h.1) (Or.inl ⟨by kernel_rfl, ?_⟩) (by assumption) ?_; rotate_left; focus (intro _ _; go_simp; (try (with_reducible rfl)); done))
            simp only [Act.put, List.getElem_toArray, List.getElem_cons_succ, List.getElem_cons_zero, List.setIfInBounds_toArray, List.set_cons_succ, List.set_cons_zero]
            (refine wpAnyH_take (i := 4) (v := ?_) rfl (by kernel_rfl) (by kernel_rfl) (by kernel_rfl) (fun _ _ _ h => by cases h.1) (Or.inl ⟨by kernel_rfl, ?_⟩) (by assumption) ?_; rotate_left; focus (intro _ _; go_simp; (try (with_reducible rfl)); done))
            simp only [Act.put, List.getElem_toArray, List.getElem_cons_succ, List.getElem_cons_zero, List.setIfInBounds_toArray, List.set_cons_succ, List.set_cons_zero]
            (refine wpAnyH_take (i := 5) (v := ?_) rfl (by kernel_rfl) (by kernel_rfl) (by kernel_rfl) (fun _ _ _ h => by cases h.1) (Or.inl ⟨by kernel_rfl, ?_⟩) (by assumption) ?_; rotate_left; focus (intro V9 hS9; obtain ⟨j0, j1, j2, j3, j4, j5, j6, j7, j8⟩ := HS.out V9 hS9; go_simp; (try (with_reducible rfl)); done))
            simp only [Act.put, List.getElem_toArray, List.getElem_cons_succ, List.getElem_cons_zero, List.setIfInBounds_toArray, List.set_cons_succ, List.set_cons_zero]
            (refine wpAnyH_take (i := 6) (v := ?_) rfl (by kernel_rfl) (by kernel_rfl) (by kernel_rfl) (fun _ _ _ h => by cases h.1) (Or.inl ⟨by kernel_rfl, ?_⟩) (by assumption) ?_; rotate_left; focus (intro _ _; go_simp; (try (with_reducible rfl)); done))
            simp only [Act.put, List.getElem_toArray, List.getElem_cons_succ, List.getElem_cons_zero, List.setIfInBounds_toArray, List.set_cons_succ, List.set_cons_zero]
            (refine wpAnyH_take (i := 7) (v := ?_) rfl (by kernel_rfl) (by kernel_rfl) (by kernel_rfl) (fun _ _ _ h => by cases h.1) (Or.inl ⟨by kernel_rfl, ?_⟩) (by assumption) ?_; rotate_left; focus (intro _ _; go_simp; (try (with_reducible rfl)); done))
            simp only [Act.put, List.getElem_toArray, List.getElem_cons_succ, List.getElem_cons_zero, List.setIfInBounds_toArray, List.set_cons_succ, List.set_cons_zero]
            (refine wpAnyH_take (i := 8) (v := ?_) rfl (by kernel_rfl) (by kernel_rfl) (by kernel_rfl) (fun _ _ _ h => by cases h.1) (Or.inl ⟨by kernel_rfl, ?_⟩) (by assumption) ?_; rotate_left; focus (intro V9 hS9; obtain ⟨j0, j1, j2, j3, j4, j5, j6, j7, j8⟩ := HS.out V9 hS9; go_simp; (try (with_reducible rfl)); done))
            simp only [Act.put, List.getElem_toArray, List.getElem_cons_succ, List.getElem_cons_zero, List.setIfInBounds_toArray, List.set_cons_succ, List.set_cons_zero]
            (refine wpAnyH_take (i := 9) (v := ?_) rfl (by kernel_rfl) (by kernel_rfl) (by kernel_rfl) (fun _ _ _ h => by cases h.1) (Or.inl ⟨by kernel_rfl, ?_⟩) (by assumption) ?_; rotate_left; focus (intro V9 hS9; obtain ⟨j0, j1, j2, j3, j4, j5, j6, j7, j8⟩ := HS.out V9 hS9; go_simp; (try (with_reducible rfl)); done))
            simp only [Act.put, List.getElem_toArray, List.getElem_cons_succ, List.getElem_cons_zero, List.setIfInBounds_toArray, List.set_cons_succ, List.set_cons_zero]
            refine wpAnyH_ready (rs := [10]) (by kernel_rfl) (by simp) ?_
            refine AllReadyH.cons rfl (fun K hK => ?_) AllReadyH.nil
            go_simp
            go_wp2_with (go_at_call 17; refine (HSM.out _ hBdn).mono ?_; rintro r9 V9 ⟨rfl, hb9⟩)
            refine hK.out _ _ (below_step hBdn hb9) (fun _ => ?_)
            clear hK K
            (refine wpAnyH_take (i := 11) (v := ?_) rfl (by kernel_rfl) (by kernel_rfl) (by kernel_rfl) (fun _ _ _ h => by cases h.1) (Or.inl ⟨by kernel_rfl, ?_⟩) (by assumption) ?_; rotate_left; focus (intro _ _; go_simp; (try (with_reducible rfl)); done))
            simp only [Act.put, List.getElem_toArray, List.getElem_cons_succ, List.getElem_cons_zero, List.setIfInBounds_toArray, List.set_cons_succ, List.set_cons_zero]
            (refine wpAnyH_take (i := 12) (v := ?_) rfl (by kernel_rfl) (by kernel_rfl) (by kernel_rfl) (fun _ _ _ h => by cases h.1) (Or.inl ⟨by kernel_rfl, ?_⟩) (by assumption) ?_; rotate_left; focus (intro _ _; go_simp; (try (with_reducible rfl)); done))
            simp only [Act.put, List.getElem_toArray, List.getElem_cons_succ, List.getElem_cons_zero, List.setIfInBounds_toArray, List.set_cons_succ, List.set_cons_zero]
            refine wpAnyH_done (by kernel_rfl) ⟨rfl, rfl, below_step hBdn hb9⟩ _
          · intro V hb
            have c8 := (HC5.out.keep hb)
            have c80 : V.cell? ⟨W.heap.size, 0, none⟩ = some (.int .i64 (n : Int)) := c8.cell 0
            have c8f := c8.frozen 0
            have HFIN : Hid (KeepsFrom W2.heap.size X (V.setCell ⟨W.heap.size, 0, none⟩ (.int .i64 ((n : Int) + 1))) ∧ KpC W2.heap.size W.heap.size X (V.setCell ⟨W.heap.size, 0, none⟩ (.int .i64 ((n : Int) + 1))) ∧ I2 w0 W2 W2.heap.size W.heap.size (pre ++ [(e, xi)]) (V.setCell ⟨W.heap.size, 0, none⟩ (.int .i64 ((n : Int) + 1)))) := by
              have hfs : KpC W2.heap.size W.heap.size X (V.setCell ⟨W.heap.size, 0, none⟩ (.int .i64 ((n : Int) + 1))) := (Fr.of_below hb _).same (Fr.setCell _ _ (p := ⟨W.heap.size, 0, none⟩) (fun _ => .inl rfl) _)
              refine ⟨((HKO.out V hb).trans (KeepsOthers.setCell V _ _)).from _, hfs, ?_, Fr.same HK5.out hfs⟩
              rw [List.length_append, HHN.out]
              exact c8.set_ 0 _
            by_cases h2 : n = 2
            · subst h2
              gi_wp2
              exact ⟨HFIN.out.1, .inr ⟨⟨rfl, by rw [List.length_append, HHN.out]; rfl⟩, HFIN.out.2.2⟩⟩
            · have d2 : decide ((2 : Int) < (n : Int) + 1) = false := by simp; omega
              gi_wp2
              exact ⟨HFIN.out.1, HFIN.out.2.1, by rw [List.length_append, HHN.out]; simp; omega, HFIN.out.2.2⟩
      · skip
        have HS : Hid (∀ V, Below X.heap.size X V → V.cell? ⟨w.heap.size + 1 + 1 + 1, 0, none⟩ = some (.slice A len c)) := fun V hb => by rw [← hlen]; exact (hv5.keep hb).cell 0
        have d1 : decide (len ≤ xi) = true := by simp; omega
        have HNO : Hid (¬ isPre es (pre ++ [(e, xi)])) := fun h9 => by obtain ⟨h8, _⟩ := isPre_last h9; simp only at h8; omega
        clear hbx2 hbox hbx0 hv5 ho5 hv2 ho2 ho1 hv1
        rw [hlen] at hlt
        gi_wp2
        refine region_inR hmx (by kernel_rfl) (fun V => Below X.heap.size X V) { tmps := #[v, undef, .pointer (some ⟨w.heap.size, 0, none⟩), .pointer (some ⟨w.heap.size + 1, 0, none⟩), .func (.func 39) #[] #[.pointer (some ⟨w.heap.size + 1 + 1, 0, none⟩)], .pointer (some ⟨w.heap.size + 1 + 1 + 1, 0, none⟩), undef, undef, .pointer (some ⟨W.heap.size, 0, none⟩), .int .i64 (xi : Int), .pointer (some ⟨Bt, 0, none⟩), v, .func (.func 39) #[] #[.pointer (some ⟨w.heap.size + 1 + 1, 0, none⟩)], .func (.func 39) #[] #[.pointer (some ⟨w.heap.size + 1 + 1, 0, none⟩)], .bool false, .func (.func 39) #[] #[.pointer (some ⟨w.heap.size + 1 + 1, 0, none⟩)], undef, undef, undef, undef, undef, undef, undef, undef, undef, undef, undef, undef, undef, undef, undef, undef, undef, .func (.func 39) #[] #[.pointer (some ⟨w.heap.size + 1 + 1, 0, none⟩)], .int .i64 (xi : Int), .agg #[.int .i64 e.t.kind, .int .i64 e.t.int, .string ⟨e.t.name.toArray⟩, .slice e.A e.t.items.length e.c], .int .i64 (xi : Int), .slice A len c, .int .i64 (len : Int), .bool true, .bool true, undef, undef, undef, undef, undef, undef, undef, .bool true, undef, undef, undef, undef, undef, undef, undef, undef, undef, undef, undef], defers := [] } (fun V => Below X.heap.size X V) ?_ ?_
        · skip
          (refine wpAnyH_take (i := 0) (v := ?_) rfl (by kernel_rfl) (by kernel_rfl) (by kernel_rfl) (fun _ _ _ h => by cases h.1) (Or.inl ⟨by kernel_rfl, ?_⟩) (by assumption) ?_; rotate_left; focus (intro _ _; go_simp; (try (with_reducible rfl)); done))
          simp only [Act.put, List.getElem_toArray, List.getElem_cons_zero, List.setIfInBounds_toArray, List.set_cons_succ, List.set_cons_zero]
          (refine wpAnyH_take (i := 1) (v := ?_) rfl (by kernel_rfl) (by kernel_rfl) (by kernel_rfl) (fun _ _ _ h => by cases h.1) (Or.inl ⟨by kernel_rfl, ?_⟩) (by assumption) ?_; rotate_left; focus (intro V9 hS9; obtain j0 := HS.out V9 hS9; go_simp; (try (with_reducible rfl)); done))
          simp only [Act.put, List.getElem_toArray, List.getElem_cons_succ, List.getElem_cons_zero, List.setIfInBounds_toArray, List.set_cons_succ, List.set_cons_zero]
          (refine wpAnyH_take (i := 2) (v := ?_) rfl (by kernel_rfl) (by kernel_rfl) (by kernel_rfl) (fun _ _ _ h => by cases h.1) (Or.inl ⟨by kernel_rfl, ?_⟩) (by assumption) ?_; rotate_left; focus (intro _ _; go_simp; (try (with_reducible rfl)); done))
          simp only [Act.put, List.getElem_toArray, List.getElem_cons_succ, List.getElem_cons_zero, List.setIfInBounds_toArray, List.set_cons_succ, List.set_cons_zero]
          (refine wpAnyH_take (i := 3) (v := ?_) rfl (by kernel_rfl) (by kernel_rfl) (by kernel_rfl) (fun _ _ _ h => by cases h.1) (Or.inl ⟨by kernel_rfl, ?_⟩) (by assumption) ?_; rotate_left; focus (intro _ _; go_simp; (try (with_reducible rfl)); done))
          simp only [Act.put, List.getElem_toArray, List.getElem_cons_succ, List.getElem_cons_zero, List.setIfInBounds_toArray, List.set_cons_succ, List.set_cons_zero]
          (refine wpAnyH_take (i := 4) (v := ?_) rfl (by kernel_rfl) (by kernel_rfl) (by kernel_rfl) (fun _ _ _ h => by cases h.1) (Or.inl ⟨by kernel_rfl, ?_⟩) (by assumption) ?_; rotate_left; focus (intro _ _; go_simp; (try (with_reducible rfl)); done))
          simp only [Act.put, List.getElem_toArray, List.getElem_cons_succ, List.getElem_cons_zero, List.setIfInBounds_toArray, List.set_cons_succ, List.set_cons_zero]
          (refine wpAnyH_take (i := 5) (v := ?_) rfl (by kernel_rfl) (by kernel_rfl) (by kernel_rfl) (fun _ _ _ h => by cases h.1) (Or.inr ⟨by kernel_rfl, ?_⟩) (by assumption) ?_; rotate_left; focus (exact rfl))
          simp only [Act.put, List.getElem_toArray, List.getElem_cons_succ, List.getElem_cons_zero, List.setIfInBounds_toArray, List.set_cons_succ, List.set_cons_zero]
          (refine wpAnyH_take (i := 6) (v := ?_) rfl (by kernel_rfl) (by kernel_rfl) (by kernel_rfl) (fun _ _ _ h => by cases h.1) (Or.inr ⟨by kernel_rfl, ?_⟩) (by assumption) ?_; rotate_left; focus (exact rfl))
          simp only [Act.put, List.getElem_toArray, List.getElem_cons_succ, List.getElem_cons_zero, List.setIfInBounds_toArray, List.set_cons_succ, List.set_cons_zero]
          (refine wpAnyH_take (i := 7) (v := ?_) rfl (by kernel_rfl) (by kernel_rfl) (by kernel_rfl) (fun _ _ _ h => by cases h.1) (Or.inr ⟨by kernel_rfl, ?_⟩) (by assumption) ?_; rotate_left; focus (exact rfl))
          simp only [Act.put, List.getElem_toArray, List.getElem_cons_succ, List.getElem_cons_zero, List.setIfInBounds_toArray, List.set_cons_succ, List.set_cons_zero]
          (refine wpAnyH_take (i := 8) (v := ?_) rfl (by kernel_rfl) (by kernel_rfl) (by kernel_rfl) (fun _ _ _ h => by cases h.1) (Or.inr ⟨by kernel_rfl, ?_⟩) (by assumption) ?_; rotate_left; focus (exact rfl))
          simp only [Act.put, List.getElem_toArray, List.getElem_cons_succ, List.getElem_cons_zero, List.setIfInBounds_toArray, List.set_cons_succ, List.set_cons_zero]
          (refine wpAnyH_take (i := 9) (v := ?_) rfl (by kernel_rfl) (by kernel_rfl) (by kernel_rfl) (fun _ _ _ h => by cases h.1) (Or.inr ⟨by kernel_rfl, ?_⟩) (by assumption) ?_; rotate_left; focus (exact rfl))
          simp only [Act.put, List.getElem_toArray, List.getElem_cons_succ, List.getElem_cons_zero, List.setIfInBounds_toArray, List.set_cons_succ, List.set_cons_zero]
          (refine wpAnyH_take (i := 10) (v := ?_) rfl (by kernel_rfl) (by kernel_rfl) (by kernel_rfl) (fun _ _ _ h => by cases h.1) (Or.inr ⟨by kernel_rfl, ?_⟩) (by assumption) ?_; rotate_left; focus (exact rfl))
          simp only [Act.put, List.getElem_toArray, List.getElem_cons_succ, List.getElem_cons_zero, List.setIfInBounds_toArray, List.set_cons_succ, List.set_cons_zero]
          (refine wpAnyH_take (i := 11) (v := ?_) rfl (by kernel_rfl) (by kernel_rfl) (by kernel_rfl) (fun _ _ _ h => by cases h.1) (Or.inr ⟨by kernel_rfl, ?_⟩) (by assumption) ?_; rotate_left; focus (exact rfl))
          simp only [Act.put, List.getElem_toArray, List.getElem_cons_succ, List.getElem_cons_zero, List.setIfInBounds_toArray, List.set_cons_succ, List.set_cons_zero]
          (refine wpAnyH_take (i := 12) (v := ?_) rfl (by kernel_rfl) (by kernel_rfl) (by kernel_rfl) (fun _ _ _ h => by cases h.1) (Or.inl ⟨by kernel_rfl, ?_⟩) (by assumption) ?_; rotate_left; focus (intro _ _; go_simp; (try (with_reducible rfl)); done))
          simp only [Act.put, List.getElem_toArray, List.getElem_cons_succ, List.getElem_cons_zero, List.setIfInBounds_toArray, List.set_cons_succ, List.set_cons_zero]
          refine wpAnyH_done (by kernel_rfl) ⟨rfl, rfl, hBdn⟩ _
        · intro V hb
          have l0 := (HV5.out.keep hb).cell 0
          have r1 := (HR1.out.keep hb).cell 0
          have rf1 := (HR1.out.keep hb).frozen 0
          have r2 := (HR2.out.keep hb).cell 0
          have rf2 := (HR2.out.keep hb).frozen 0
          gi_wp2
          exact ⟨((HKO.out V hb).trans ((KeepsOthers.setCell V _ _).trans (KeepsOthers.setCell _ _ _))).from _, .inl HNO.out⟩
    case done2 =>
      rintro D2 ys X hD2 rfl ⟨hp6, hc6, hk6⟩ hK6
      rw [hlz] at hc6 hp6
      have hv6 := hk6.blk hv2 (by omega)
      have ho6 : X.ownsRow W0.heap.size 35 4 (.slice A es.length c) es.length (cellsL es) := own_fr ho2 hk6 (fun g hg => by have := hogb g hg; omega)
      have l0 := hv6.cell 0
      have c60 := hc6.cell 0
      have hr16 := hk6.blk hr12 (by omega)
      have hr26 := hk6.blk hr22 (by omega)
      have r1 := hr16.cell 0
      have rf1 := hr16.frozen 0
      have r2 := hr26.cell 0
      have rf2 := hr26.frozen 0
      have hbw6 : Below w.heap.size w X := hbw2.trans (hk6.below hbw2.size (fun k hk => by omega))
      have hK6' : X.heap[D]? = some (.deferred (some [])) := (hk6.block D (by omega) (by omega)).trans hK2
      clear hbx2 hbox hbx0 hv2 ho2 ho1 hv1
      gi_wp2
      gi_region_o
      all_goals
        gi_wp2
        obtain ⟨V8, V9, e8, e9, c91, c92, o9, b9⟩ := all_end (A := A) (c := c) (es := es) hsz hr16 hr26 ho6 hbw6 hK6' hK6 (by omega) (by omega) (by omega) rfl
        refine ⟨by simp, .inl ⟨_, _, rfl, e8, ⟨by simp, .inl ⟨_, _, rfl, e9, ?_⟩⟩⟩⟩
        refine ⟨.tuple #[.slice A es.length c, .bool true], ?_, A, c, rfl, o9, b9⟩
        simp [results, Try.results18, go_sem, c91, c92]
    case stop2 =>
      rintro D2 cc pre X hD2 ⟨k, hkl, rfl⟩ h9 hK6
      rcases h9 with h9 | ⟨⟨rfl, h3⟩, hc6, hk6⟩
      · exact absurd ⟨k, rfl⟩ h9
      · skip
        rw [h3] at hc6
        have h33 : 3 ≤ es.length := by simp at h3; omega
        have hv6 := hk6.blk hv2 (by omega)
        have ho6 : X.ownsRow W0.heap.size 35 4 (.slice A es.length c) es.length (cellsL es) := own_fr ho2 hk6 (fun g hg => by have := hogb g hg; omega)
        have l0 := hv6.cell 0
        have c60 := hc6.cell 0
        have hr16 := hk6.blk hr12 (by omega)
        have hr26 := hk6.blk hr22 (by omega)
        have r1 := hr16.cell 0
        have rf1 := hr16.frozen 0
        have r2 := hr26.cell 0
        have rf2 := hr26.frozen 0
        have hbw6 : Below w.heap.size w X := hbw2.trans (hk6.below hbw2.size (fun k hk => by omega))
        have hK6' : X.heap[D]? = some (.deferred (some [])) := (hk6.block D (by omega) (by omega)).trans hK2
        clear hbx2 hbox hbx0 hv2 ho2 ho1 hv1
        gi_wp2
        gi_region_o
        all_goals
          first
          | (exfalso; omega)
          | (gi_wp2
             obtain ⟨V8, V9, e8, e9, c91, c92, o9, b9⟩ := all_end (A := A) (c := c) (es := es) hsz hr16 hr26 ho6 hbw6 hK6' hK6 (by omega) (by omega) (by omega) rfl
             refine ⟨by simp, .inl ⟨_, _, rfl, e8, ⟨by simp, .inl ⟨_, _, rfl, e9, ?_⟩⟩⟩⟩
             refine ⟨.tuple #[.slice A es.length c, .bool true], ?_, A, c, rfl, o9, b9⟩
             simp [results, Try.results18, go_sem, c91, c92])
    -- ENDLOOP2
  case stop =>
    rintro D c pre W _ ⟨k, _, rfl⟩ h _
    exact absurd (idxOk_zip es k) h
end Go.Proofs.Ythmlpiiajlfmcaa
