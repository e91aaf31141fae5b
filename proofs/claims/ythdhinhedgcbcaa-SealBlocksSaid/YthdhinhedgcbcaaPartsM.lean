/- seal.Parts: the walk. -/
import Derived.Test.YthdhinhedgcbcaaPartsK
import Derived.Test.YthdhinhedgcbcaaPut
namespace Go.Proofs.Ythdhinhedgcbcaa
open Go.RowKit Go.Shelf
attribute [local go_sem] Oper.semAt_some
set_option linter.unusedVariables false

set_option maxHeartbeats 400000 in
theorem chunk_any (A : Option Addr) (len cap r : Nat) (w : World) (hr1 : 1 ≤ r) :
    Calls Try.prog 25 #[.slice A len cap, .int .i64 (r : Int)] w fun e w' =>
      e = .returned (.func (.func 27) #[] #[.pointer (some ⟨w.heap.size, 0, none⟩), .pointer (some ⟨w.heap.size + 1, 0, none⟩)]) ∧
      w' = (w.alloc (.cells #[.slice A len cap] 23)).alloc (.cells #[.int .i64 (r : Int)] 3) := by
  have hd : decide ((r : Int) < 1) = false := by simp; omega
  go_enter Try.func25, Try.ntmps25
  go_wp2
  go_ret
  exact ⟨rfl, rfl⟩

/-- Bytes in pieces of r. -/
def chunks (r : Nat) (l : List UInt8) : List (List UInt8) := upto (fun j => (l.drop (j * r)).take r) ((l.length + r - 1) / r)
theorem upto_map {α β : Type} (g : α → β) (f : Nat → α) (k : Nat) : (upto f k).map g = upto (fun j => g (f j)) k := by simp [upto]

theorem chunk_stops {r : Nat} (n : Nat) (hn : 1 ≤ n) (Bs Bn n1 Bo : Nat) (w : World) (A : Option Addr) (bs : List UInt8) (len cap : Nat) (hrd : Rd w A bs ∧ r ≤ 100000) (hbl : bs.length = len) (hlc : len ≤ cap) (hcm : cap ≤ 9223372036854775807) (hlen : len ≤ 1000000) (hr1 : 1 ≤ r)
    (hBs : Bs < n1) (hBn : Bn < n1) (hos : Bs ≠ Bo) (hon : Bn ≠ Bo) (w0 : World) (hn1 : n1 ≤ w0.heap.size) (cs : w0.cell? ⟨Bs, 0, none⟩ = some (.slice A len cap)) (cn : w0.cell? ⟨Bn, 0, none⟩ = some (.int .i64 (r : Int))) :
    SeqStopsK Fence.wide n Try.prog 27 #[.pointer (some ⟨Bs, 0, none⟩), .pointer (some ⟨Bn, 0, none⟩)] (pcEnc w) (KpC n1 Bo) (fun ys => ys = upto (pcAt hrd) ((len + r - 1) / r)) (fun pre => ∃ k, k ≤ (len + r - 1) / r ∧ pre = upto (pcAt hrd) k) ((len + r - 1) / r) w0 :=
  fun l J Jx W hW hJ _ hY h0 =>
    chunk1_in n hn l Bs Bn n1 Bo w A bs len cap hrd hbl hlc hcm hlen hr1 hBs hBn hos hon J Jx _ hJ hY W (Nat.le_trans hn1 hW.size) ((hW.cell (p := ⟨Bs, 0, none⟩) (by show Bs < _; omega)).trans cs) ((hW.cell (p := ⟨Bn, 0, none⟩) (by show Bn < _; omega)).trans cn) h0

theorem pieces_le {n r : Nat} (hr : 1 ≤ r) : (n + r - 1) / r ≤ n := by
  rcases Nat.lt_or_ge n ((n + r - 1) / r) with h | h
  · have h1 := pieces_lt hr h
    have h2 : n * 1 ≤ n * r := Nat.mul_le_mul_left _ hr
    omega
  · exact h
theorem own_slice {W : World} {base e size n : Nat} {v : Value} {xs : List Value} (h : W.ownsRow base e size v n xs) : ∃ A c, v = .slice A n c := by
  rcases h.2 with ⟨rfl, rfl⟩ | ⟨g, cap, cur, rfl, _⟩
  · exact ⟨none, 0, rfl⟩
  · exact ⟨_, _, rfl⟩

theorem stepIn_app {F : Fence} {n : Nat} {P : Program} {W w' : World} {ops : Array Oper} {o : Oper} {a : Act} {K : Act → World → Prop} {Q : Exit → Act → World → Prop} {E : Prop} (hw : Region.wanted o (yielded ops a.tmps) = true) (s x : Operand) (t : TypeId)
    (ho : o.op = .call { callee := .builtin .append, args := #[s, x], argTypes := #[t, t] }) (v u v' : Value) (hs : a.eval s = v) (hx : a.eval x = u) (hrun : (Builtin.append_ #[t, t] o.type #[v, u]).run P W = .ok v' w') (h : K (a.put o.dst v') w') :
    if Region.wanted o (yielded ops a.tmps) = true then Oper.wpIn F n P o a W K Q else E := by
  rw [if_pos hw]
  unfold Oper.wpIn
  refine ⟨?_, ?_⟩
  · simp [Oper.about, ho, resolve, Target.leads, Sem.run_pure]
  · rw [Oper.semAt_plain F _ _ (by rw [ho]; intro c hc'; cases hc')]
    simp [execOp, ho, resolve, invoke, builtin, hs, hx, hrun, Result.andThen]
    exact h

theorem cell_same {w : World} {g i : Nat} {v : Value} (h : w.cell? ⟨g, i, none⟩ = some v) (p : Addr) : (w.setCell ⟨g, i, none⟩ v).cell? p = w.cell? p := by
  by_cases e : p = ⟨g, i, none⟩
  · subst e
    rw [h]
    exact World.cell?_setCell_same' _ _ _ (by rw [h]; rfl)
  · exact World.cell?_setCell_other _ _ _ _ (fun h => e h.symm)
theorem cell_putObj {W : World} {D : Nat} {o o' : Obj} (h : W.heap[D]? = some o) (ho : o.isCells = false) (ho' : o'.isCells = false) (p : Addr) : (W.putObj D o').cell? p = W.cell? p := by
  by_cases e : p.block = D
  · unfold World.cell?
    rw [e, World.putObj_heap_same (Array.getElem?_eq_some_iff.1 h).1, h]
    have hn : ∀ o : Obj, o.isCells = false → (match some o with | some (.cells c _ _) => if p.spot.isSome then none else c[p.off]? | _ => none) = none := fun o h => by cases o <;> first | rfl | cases h
    exact (hn o' ho').trans (hn o ho).symm
  · exact World.cell?_of_block (World.putObj_heap_other e)
theorem rdl_of_own {W : World} {base m cv : Nat} {Av : Option Addr} {vs : List Value} {ls : List (List UInt8)} (ho : W.ownsRow base 23 1 (.slice Av m cv) m vs) (hr : RowsV W vs ls) (hl : ls.length = m) : RdL W Av ls := by
  rcases Nat.eq_zero_or_pos m with h0 | h0
  · exact .inl (List.eq_nil_of_length_eq_zero (by omega))
  · obtain ⟨g, cap, hv, _, _⟩ := ho.form h0
    obtain ⟨rfl, _, rfl⟩ := Value.slice.inj hv
    refine .inr ⟨g, 0, rfl, fun j hj => ?_⟩
    have hj2 : j < vs.length := by rw [hr.1]; exact hj
    obtain ⟨A, c, e, hrd, _⟩ := hr.2 j hj2 hj
    refine ⟨A, c, ?_, hrd⟩
    rw [Nat.zero_add, ho.cellAt j (by omega), List.getElem?_eq_getElem hj2, e]

def PartsEnds (w : World) (ls : List (List UInt8)) (e : Ending) (w' : World) : Prop :=
  ∃ A m c, e = .returned (.slice A m c) ∧ ls.length = m ∧ RdL w' A ls ∧ Below w.heap.size w w'

set_option maxRecDepth 100000 in
set_option maxHeartbeats 4000000 in
theorem sparts_in (size : Int) (r : Nat) (A : Option Addr) (len cap : Nat) (bs : List UInt8) (w : World) (hrm : room size = (r : Int)) (hr1 : 1 ≤ r) (hr2 : r ≤ 100000) (hbl : bs.length = len) (hlc : len ≤ cap) (hcm : cap ≤ 9223372036854775807) (hlen : len ≤ 1000000) (hrd : Rd w A bs) :
    Calls Try.prog 15 #[.int .i64 size, .slice A len cap] w (PartsEnds w (chunks r bs)) := by
  have HRM := Lib.hid (fun W => room_any size W)
  rw [hrm] at HRM
  have HCH := Lib.hid (fun W => chunk_any A len cap r W hr1)
  have HBL := Lib.hid hbl
  have hr0 : ((r : Int) == 0) = false := by simp; omega
  clear hrm hbl
  have hmx : Try.prog.follows .mixedOrders = true := by kernel_rfl
  refine (callsIn_wide (n := 6)).1 ?_
  refine callsIn_of_wp_marks Try.func15 rfl trivial ?_ rfl
  simp only [Try.ntmps15, List.size_toArray, List.length_cons, List.length_nil, Nat.reduceAdd, Nat.reduceSub, Array.replicate_succ, Array.replicate_zero, List.push_toArray, List.append_toArray, List.nil_append, List.cons_append]
  gi_wp2_with (first
    | (refine ⟨trivial, ?_⟩; gi_at_call 17; refine (callsIn_wide.2 (HRM.out _)).mono ?_; rintro e w' ⟨rfl, rfl⟩)
    | (refine ⟨trivial, ?_⟩; gi_at_call 25; refine (callsIn_wide.2 (HCH.out _)).mono ?_; rintro e w' ⟨rfl, rfl⟩))
  have hrd2 : Rd w A bs ∧ r ≤ 100000 := ⟨hrd, hr2⟩
  obtain ⟨W0, hW0⟩ : ∃ W0, ((w.alloc (.cells #[.slice none 0 0] 42)).alloc (.cells #[.slice A len cap] 23)).alloc (.cells #[.int .i64 (r : Int)] 3) = W0 := ⟨_, rfl⟩
  have hsz : W0.heap.size = w.heap.size + 3 := by rw [← hW0]; simp
  have hbo : Blk W0 w.heap.size 42 #[.slice none 0 0] := by rw [← hW0]; exact ((Blk.new w _ _).alloc _).alloc _
  have hbs : Blk W0 (w.heap.size + 1) 23 #[.slice A len cap] := by
    rw [← hW0]
    have := (Blk.new (w.alloc (.cells #[.slice none 0 0] 42)) 23 #[.slice A len cap]).alloc (.cells #[.int .i64 (r : Int)] 3)
    simpa using this
  have hbn : Blk W0 (w.heap.size + 1 + 1) 3 #[.int .i64 (r : Int)] := by
    rw [← hW0]
    have := Blk.new ((w.alloc (.cells #[.slice none 0 0] 42)).alloc (.cells #[.slice A len cap] 23)) 3 #[.int .i64 (r : Int)]
    simpa using this
  have hB0 : Below w.heap.size w W0 := by rw [← hW0]; exact below_step (below_step (below_alloc _ _) (below_alloc _ _)) (below_alloc _ _)
  have hI0 : PI w w.heap.size W0.heap.size ([].map (fun x : Pc w => x.1.2)) W0 := ⟨⟨_, [], hbo, World.ownsRow_nil _ _ _ _, rfl, fun j h _ => by simp at h⟩, hB0, Nat.le_refl _⟩
  rw [hW0]
  have hN : (len + r - 1) / r ≤ len := pieces_le hr1
  refine wpIn_rangeFunc_ownG rfl (by omega) (gf := 27) (lb := #[.pointer (some ⟨w.heap.size + 1, 0, none⟩), .pointer (some ⟨w.heap.size + 1 + 1, 0, none⟩)]) rfl trivial (enters_of Try.func27 (by kernel_rfl) rfl)
    (chunk_stops _ (by omega) (w.heap.size + 1) (w.heap.size + 1 + 1) W0.heap.size w.heap.size w A bs len cap hrd2 HBL.out hlc hcm hlen hr1 (by omega) (by omega) (by omega) (by omega) W0 (Nat.le_refl _) (hbs.cell 0) (hbn.cell 0)) kpC_t (kpC_b (Nat.le_refl _)) (Below.refl _ _) (fun _ => rfl)
    (fun (pre : List (Pc w)) W => PI w w.heap.size W0.heap.size (pre.map (fun x => x.1.2)) W)
    (fun _ _ _ => False)
    (pi_own w w.heap.size W0.heap.size W0.heap.size (by omega) (fun pre : List (Pc w) => pre.map (fun x => x.1.2)))
    (fun _ _ _ _ _ hs _ _ => hs)
    hI0
    (fun x => { tmps := #[.int .i64 size, .slice A len cap, undef, undef, .pointer (some ⟨w.heap.size, 0, none⟩), .slice x.1.1 x.1.2.length x.1.2.length, .int .i64 size, .int .i64 (r : Int), .bool false, .slice A len cap, .int .i64 size, .int .i64 (r : Int),
      .func (.func 27) #[] #[.pointer (some ⟨w.heap.size + 1, 0, none⟩), .pointer (some ⟨w.heap.size + 1 + 1, 0, none⟩)], .slice x.1.1 x.1.2.length x.1.2.length, undef, undef, undef, undef, undef, undef], defers := [] }) ?assign ?body ?done ?stop
  case assign =>
    intro l x W K hK
    unfold pcEnc
    gi_wp2
    exact hK
  case body =>
    rintro l pre ⟨⟨A1, y⟩, hrd1, hly⟩ W ⟨⟨v, vs, hv, ho, hrs⟩, hB, hn1⟩ hlt
    have hly2 : y.length ≤ 100000 := hly
    obtain ⟨n, hnn⟩ : ∃ n, (pre.map (fun x : Pc w => x.1.2)).length = n := ⟨_, rfl⟩
    have hnp : pre.length = n := by rw [← hnn]; simp
    rw [hnn] at ho
    have HNN := Lib.hid hnn
    have hn7 : n ≤ 1000000 := by omega
    have HC := Lib.hid (clone_any A1 y y.length y.length W.drew rfl (by omega) ((hrd1.below hB).below (Below.refl _ _).drew))
    have hc := hv.cell 0
    have hW0s : w.heap.size < W0.heap.size := by omega
    have HPI := Lib.hid (fun (pre2 : List (Pc w)) W' (h : PI w w.heap.size W0.heap.size (pre.map (fun x : Pc w => x.1.2) ++ [y]) W') => show PI w w.heap.size W0.heap.size ((pre ++ [(⟨(A1, y), hrd1, hly⟩ : Pc w)]).map (fun x : Pc w => x.1.2)) W' by rw [List.map_append]; exact h)
    clear hnn hnp hI0 hbo hbs hbn hW0 hsz
    gi_wp2
    refine wpIn_region_any (by assumption) ?_
    change wpAnyIn _ _ _ _ _ _ _ _ _ (World.drew _)
    refine wpAnyIn_ready (rs := [0, 1]) (by kernel_rfl) (by simp) ?_
    refine AllReadyIn.cons rfl (fun K' hK' => ?_) (AllReadyIn.cons rfl (fun K' hK' => ?_) AllReadyIn.nil)
    · skip
      go_simp
      refine hK' _ _ ?_
      clear hK' K'
      refine wpAnyIn_ready (rs := [1]) (by kernel_rfl) (by simp) ?_
      refine AllReadyIn.cons rfl (fun K' hK' => ?_) AllReadyIn.nil
      go_simp
      refine hK' _ _ ?_
      clear hK' K'
      refine wpAnyIn_ready (rs := [2]) (by kernel_rfl) (by simp) ?_
      refine AllReadyIn.cons rfl (fun K' hK' => ?_) AllReadyIn.nil
      go_simp
      gi_wp2_with (refine ⟨trivial, ?_⟩; gi_at_call 22; refine (CallsIn.inRound l (callsIn_wide.2 HC.out)).mono ?_; rintro e w1 ⟨v1, rfl, hown1, hb1⟩; obtain ⟨B1, cB1, hv1, _, _, _⟩ := own_rd hown1; subst hv1; obtain ⟨g, cap2, w2, hrun, c1, s1, c2, f2, s2, hPI, hKO, hKp⟩ := pi_step (w := w) hW0s (Nat.le_refl _) hv ho HNN.out hrs hB hn1 (below_step (Below.refl _ _).drew hb1) (row_of_own hown1) hn7)
      refine wpAnyIn_ready (rs := [3]) (by kernel_rfl) (by simp) ?_
      refine AllReadyIn.cons rfl (fun K' hK' => ?_) AllReadyIn.nil
      go_simp
      refine hK' _ _ ?_
      clear hK' K'
      refine wpAnyIn_ready (rs := [4]) (by kernel_rfl) (by simp) ?_
      refine AllReadyIn.cons rfl (fun K' hK' => ?_) AllReadyIn.nil
      refine stepIn_app (by kernel_rfl) (.tmp 14) (.tmp 17) 42 rfl _ _ _ rfl rfl hrun ?_
      refine hK' _ _ ?_
      clear hK' K'
      go_frame
      refine wpAnyIn_ready (rs := [5]) (by kernel_rfl) (by simp) ?_
      refine AllReadyIn.cons rfl (fun K' hK' => ?_) AllReadyIn.nil
      go_simp
      refine hK' _ _ ?_
      clear hK' K'
      refine wpAnyIn_done (by kernel_rfl) ?_ _
      gi_wp2
      exact ⟨hKO.from _, hKp, HPI.out [] _ hPI⟩
    · skip
      go_simp
      refine hK' _ _ ?_
      clear hK' K'
      refine wpAnyIn_ready (rs := [0, 2]) (by kernel_rfl) (by simp) ?_
      refine AllReadyIn.cons rfl (fun K' hK' => ?_) (AllReadyIn.cons rfl (fun K' hK' => ?_) AllReadyIn.nil)
      · skip
        go_simp
        refine hK' _ _ ?_
        clear hK' K'
        refine wpAnyIn_ready (rs := [2]) (by kernel_rfl) (by simp) ?_
        refine AllReadyIn.cons rfl (fun K' hK' => ?_) AllReadyIn.nil
        go_simp
        gi_wp2_with (refine ⟨trivial, ?_⟩; gi_at_call 22; refine (CallsIn.inRound l (callsIn_wide.2 HC.out)).mono ?_; rintro e w1 ⟨v1, rfl, hown1, hb1⟩; obtain ⟨B1, cB1, hv1, _, _, _⟩ := own_rd hown1; subst hv1; obtain ⟨g, cap2, w2, hrun, c1, s1, c2, f2, s2, hPI, hKO, hKp⟩ := pi_step (w := w) hW0s (Nat.le_refl _) hv ho HNN.out hrs hB hn1 (below_step (Below.refl _ _).drew hb1) (row_of_own hown1) hn7)
        refine wpAnyIn_ready (rs := [3]) (by kernel_rfl) (by simp) ?_
        refine AllReadyIn.cons rfl (fun K' hK' => ?_) AllReadyIn.nil
        go_simp
        refine hK' _ _ ?_
        clear hK' K'
        refine wpAnyIn_ready (rs := [4]) (by kernel_rfl) (by simp) ?_
        refine AllReadyIn.cons rfl (fun K' hK' => ?_) AllReadyIn.nil
        refine stepIn_app (by kernel_rfl) (.tmp 14) (.tmp 17) 42 rfl _ _ _ rfl rfl hrun ?_
        refine hK' _ _ ?_
        clear hK' K'
        go_frame
        refine wpAnyIn_ready (rs := [5]) (by kernel_rfl) (by simp) ?_
        refine AllReadyIn.cons rfl (fun K' hK' => ?_) AllReadyIn.nil
        go_simp
        refine hK' _ _ ?_
        clear hK' K'
        refine wpAnyIn_done (by kernel_rfl) ?_ _
        gi_wp2
        exact ⟨hKO.from _, hKp, HPI.out [] _ hPI⟩
      · skip
        go_simp
        gi_wp2_with (refine ⟨trivial, ?_⟩; gi_at_call 22; refine (CallsIn.inRound l (callsIn_wide.2 HC.out)).mono ?_; rintro e w1 ⟨v1, rfl, hown1, hb1⟩; obtain ⟨B1, cB1, hv1, _, _, _⟩ := own_rd hown1; subst hv1; obtain ⟨g, cap2, w2, hrun, c1, s1, c2, f2, s2, hPI, hKO, hKp⟩ := pi_step (w := w) hW0s (Nat.le_refl _) hv ho HNN.out hrs hB hn1 (below_step (Below.refl _ _).drew hb1) (row_of_own hown1) hn7)
        refine wpAnyIn_ready (rs := [0, 3]) (by kernel_rfl) (by simp) ?_
        refine AllReadyIn.cons rfl (fun K' hK' => ?_) (AllReadyIn.cons rfl (fun K' hK' => ?_) AllReadyIn.nil)
        · skip
          go_simp
          refine hK' _ _ ?_
          clear hK' K'
          refine wpAnyIn_ready (rs := [3]) (by kernel_rfl) (by simp) ?_
          refine AllReadyIn.cons rfl (fun K' hK' => ?_) AllReadyIn.nil
          go_simp
          refine hK' _ _ ?_
          clear hK' K'
          refine wpAnyIn_ready (rs := [4]) (by kernel_rfl) (by simp) ?_
          refine AllReadyIn.cons rfl (fun K' hK' => ?_) AllReadyIn.nil
          refine stepIn_app (by kernel_rfl) (.tmp 14) (.tmp 17) 42 rfl _ _ _ rfl rfl hrun ?_
          refine hK' _ _ ?_
          clear hK' K'
          go_frame
          refine wpAnyIn_ready (rs := [5]) (by kernel_rfl) (by simp) ?_
          refine AllReadyIn.cons rfl (fun K' hK' => ?_) AllReadyIn.nil
          go_simp
          refine hK' _ _ ?_
          clear hK' K'
          refine wpAnyIn_done (by kernel_rfl) ?_ _
          gi_wp2
          exact ⟨hKO.from _, hKp, HPI.out [] _ hPI⟩
        · skip
          go_simp
          refine hK' _ _ ?_
          clear hK' K'
          refine wpAnyIn_ready (rs := [0]) (by kernel_rfl) (by simp) ?_
          refine AllReadyIn.cons rfl (fun K' hK' => ?_) AllReadyIn.nil
          go_simp
          refine hK' _ _ ?_
          clear hK' K'
          refine wpAnyIn_ready (rs := [4]) (by kernel_rfl) (by simp) ?_
          refine AllReadyIn.cons rfl (fun K' hK' => ?_) AllReadyIn.nil
          refine stepIn_app (by kernel_rfl) (.tmp 14) (.tmp 17) 42 rfl _ _ _ rfl rfl hrun ?_
          refine hK' _ _ ?_
          clear hK' K'
          go_frame
          refine wpAnyIn_ready (rs := [5]) (by kernel_rfl) (by simp) ?_
          refine AllReadyIn.cons rfl (fun K' hK' => ?_) AllReadyIn.nil
          go_simp
          refine hK' _ _ ?_
          clear hK' K'
          refine wpAnyIn_done (by kernel_rfl) ?_ _
          gi_wp2
          exact ⟨hKO.from _, hKp, HPI.out [] _ hPI⟩
  case done =>
    rintro D ys W hD rfl ⟨⟨v, vs, hv, ho, hrs⟩, hB, hn1⟩ hK
    obtain ⟨Av, cv, rfl⟩ := own_slice ho
    have hc := hv.cell 0
    have hf := hv.frozen 0
    gi_wp2
    have hls : (upto (pcAt hrd2) ((len + r - 1) / r)).map (fun x : Pc w => x.1.2) = chunks r bs := by rw [upto_map]; unfold chunks; rw [HBL.out]; rfl
    rw [hls] at hv ho hrs
    have hm : (upto (pcAt hrd2) ((len + r - 1) / r)).length = (chunks r bs).length := by rw [← hls]; simp
    rw [hm]
    obtain ⟨m, hm2⟩ : ∃ m, (chunks r bs).length = m := ⟨_, rfl⟩
    rw [hm2] at hv ho ⊢
    have hv2 := hv.set_ 0 (.slice Av m cv)
    have hK2 := (KeepsOthers.setCell W ⟨w.heap.size, 0, none⟩ (.slice Av m cv)).same D _ hK rfl
    refine ⟨by simp, .inl ⟨_, _, rfl, run_takeDeferred hK2, ?_⟩⟩
    have hc3 := cell_kept (hv2.cell 0) (grownBy_putObj' _ D (.deferred none)) (fun r e => by cases e; exact ⟨_, hK2, rfl⟩)
    have hcs : ∀ p : Addr, ((W.setCell ⟨w.heap.size, 0, none⟩ (.slice Av m cv)).putObj D (.deferred none)).cell? p = W.cell? p := fun p => (cell_putObj hK2 rfl rfl p).trans (cell_same (hv.cell 0) p)
    refine ⟨.slice Av m cv, ?_, Av, m, cv, rfl, hm2, (rdl_of_own ho hrs hm2).keep fun p _ => hcs p, (hB.setCell (p := ⟨w.heap.size, 0, none⟩) (Nat.le_refl _) _).trans (belowK_b (w := w) (Nat.le_refl _) _ D _ _ (by omega) hK2 rfl rfl)⟩
    simp [results, Try.results15, go_sem, hc3]
  case stop =>
    rintro D c pre W _ _ h _
    exact h.elim

set_option maxHeartbeats 400000 in
theorem sparts_no (size : Int) (A : Option Addr) (len cap : Nat) (w : World) (hrm : room size = 0) :
    Calls Try.prog 15 #[.int .i64 size, .slice A len cap] w (PartsEnds w []) := by
  have HRM := Lib.hid (fun W => room_any size W)
  rw [hrm] at HRM
  clear hrm
  go_enter Try.func15, Try.ntmps15
  go_wp2_with (go_at_call 17; refine (HRM.out _).mono ?_; rintro e w' ⟨rfl, rfl⟩)
  exact bodyPost_ret (v := .slice none 0 0) (by simp [results, Try.results15, go_sem]) rfl ⟨none, 0, 0, rfl, rfl, .inl rfl, below_alloc _ _⟩

/-- Parts, as a function. -/
def partsP (size : Int) (l : List UInt8) : List (List UInt8) := if room size = 0 then [] else chunks (room size).toNat l
theorem room_bd (size : Int) : 0 ≤ room size ∧ room size ≤ 4081 := by
  unfold room
  split
  · omega
  · split <;> omega
theorem sparts_any (size : Int) (A : Option Addr) (len cap : Nat) (bs : List UInt8) (w : World) (hbl : bs.length = len) (hlc : len ≤ cap) (hcm : cap ≤ 9223372036854775807) (hlen : len ≤ 1000000) (hrd : Rd w A bs) :
    Calls Try.prog 15 #[.int .i64 size, .slice A len cap] w (PartsEnds w (partsP size bs)) := by
  have hb := room_bd size
  by_cases h : room size = 0
  · rw [show partsP size bs = [] by unfold partsP; rw [if_pos h]]
    exact sparts_no size A len cap w h
  · rw [show partsP size bs = chunks (room size).toNat bs by unfold partsP; rw [if_neg h]]
    exact sparts_in size (room size).toNat A len cap bs w (by omega) (by omega) (by omega) hbl hlc hcm hlen hrd
theorem chunks_len (r : Nat) (l : List UInt8) : (chunks r l).length = (l.length + r - 1) / r := by unfold chunks; rw [upto_length]
end Go.Proofs.Ythdhinhedgcbcaa
