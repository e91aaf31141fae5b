/- Links (layer 18): the iterators over the two maps: maps.Values of the watches, maps.Keys of the links. -/
import Derived.Test.YtpfikhamokjdjaaLkH
import Derived.RangeFuncNested
import Derived.RangeFuncBound
import Derived.RangeFuncCalls
import Derived.RangeFuncLeaves
import Derived.RangeFuncGives
import Derived.Shelf.Abstract
import Derived.Shelf.RegionOpen
import Derived.OwnWalkIn
import Derived.TacticsInMore
import Derived.LoopNIn
import Derived.LoopIn
import Derived.Sort.MapsRangeIn
namespace Go.Proofs.Ytpfikhamokjdjaa
open Go.RowKit Go.Maps Go.WideMaps Go.Shelf
attribute [local go_sem] Oper.semAt_some
set_option linter.unusedVariables false

section
variable {α : Type} {key : α → Lit} {val : α → DataW Unit} {L rem done : List α} {x : α}
theorem getG_mem (hk : ∀ x, WideAt.IsKeyLit (key x)) (hnd : (L.map key).Nodup) (hx : x ∈ L) : getG key L (key x) = some x := by
  unfold getG
  induction L with
  | nil => cases hx
  | cons y r ih =>
    rw [List.map_cons, List.nodup_cons] at hnd
    rw [List.find?_cons]
    rcases List.mem_cons.1 hx with rfl | h9
    · rw [WideAt.sameKey_self (hk x)]
    · have : (key y).sameKey (key x) = false := by
        cases h : (key y).sameKey (key x) with
        | false => rfl
        | true => exact absurd (List.mem_map.2 ⟨x, h9, (WideAt.sameKey_eq h).symm⟩) hnd.1
      rw [this]
      exact ih hnd.2 h9
theorem delG_perm2 (hk : ∀ x, WideAt.IsKeyLit (key x)) (hnd : (L.map key).Nodup) (h : (rem ++ done).Perm L) (hx : x ∈ rem) : (delG key rem (key x) ++ (done ++ [x])).Perm L := by
  have h0 : ((rem ++ done).map key).Nodup := (h.map key).nodup_iff.2 hnd
  have hrem : (rem.map key).Nodup := by rw [List.map_append] at h0; exact (List.nodup_append.1 h0).1
  have h1 := delG_perm hk hrem hx
  refine List.Perm.trans ?_ h
  refine List.Perm.trans ?_ (h1.symm.append_right done)
  rw [List.cons_append, ← List.append_assoc]
  exact (List.perm_append_comm (l₁ := delG key rem (key x) ++ done) (l₂ := [x]))
end
section
variable {F : Fence} {nF : Nat} {P : Program} {ops : Array Oper} {Q : Exit → Act → World → Prop} {rest : List Oper} {o : Oper} {a : Act} {w : World}
theorem wpListIn_nextG {α : Type} {key : α → Lit} {val : α → DataW Unit} {L rem : List α} {R : Value → Option (DataW Unit × List MemPlace)} (kv vv : α → Value) (hg : o.guard = none) (it : Operand) (hop : o.op = Op.next it false) (k : TypeId) (K : Keyed P k) (b r nn : Nat) (cnt : Nat)
    (hit : a.eval it = .pointer (some ⟨r, 0, none⟩)) (h : w.ranges P k R b r nn (datG key val L) (hasG key rem) cnt) (hk : ∀ x, WideAt.IsKeyLit (key x)) (hget : ∀ x ∈ rem, getG key L (key x) = some x)
    (hkv : ∀ x ∈ rem, keyOf P k (kv x) = some (key x)) (hvv : ∀ x ∈ rem, ∀ v ps, R v = some (val x, ps) → v = vv x)
    (hDone : rem = [] → wpListIn F nF P ops Q rest (a.put o.dst (.tuple #[.bool false])) w)
    (hMore : ∀ (x : α) (w' : World) (cnt' : Nat), x ∈ rem → w'.ranges P k R b r nn (datG key val L) (hasG key (delG key rem (key x))) cnt' → cnt' < cnt →
      w.grownBy w' (some r) → w'.heap.size = w.heap.size → (Instr.entry (.pointer (some ⟨r, 0, none⟩))).run P w' = .ok (.tuple #[kv x, vv x]) w' → wpListIn F nF P ops Q rest (a.put o.dst (.tuple #[.bool true, kv x, vv x])) w') :
    wpListIn F nF P ops Q (o :: rest) a w := by
  refine wpListIn_plain hg fun K' hK' => ?_
  unfold Oper.wpIn
  refine ⟨by simp [Oper.about, hop], ?_⟩
  rw [Oper.semAt_plain F _ _ (by rw [hop]; intro c hc'; cases hc')]
  rcases h.next K o.type with ⟨h0, hl, hrun⟩ | ⟨key9, v, kl, y, w', cnt', hkey, hlk, hv, hat, hrun, hrg, hlt, hgr, hsz, hen⟩
  · simp [execOp, hop, hit, hrun, Result.andThen]
    refine hK' _ _ (hDone ?_)
    refine List.eq_nil_iff_forall_not_mem.2 fun p hp => ?_
    have h1 := hl (key p)
    unfold hasG at h1
    rw [List.any_eq_false] at h1
    exact h1 p hp (WideAt.sameKey_self (hk p))
  · have hlk9 := hlk
    unfold hasG at hlk9
    obtain ⟨p, hp, hs⟩ := List.any_eq_true.1 hlk9
    have e := WideAt.sameKey_eq hs
    subst e
    have ekey := K.inj hkey (hkv p hp)
    subst ekey
    have ey := hat (.lit (.bool true))
    rw [at_datG, hget p hp] at ey
    have ey2 : y.1 = val p := ey.symm
    obtain ⟨y1, y2⟩ := y
    simp only at ey2
    subst ey2
    have ev := hvv p hp v y2 hv
    subst ev
    rw [strikeG] at hrg
    simp [execOp, hop, hit, hrun, Result.andThen]
    exact hK' _ _ (hMore p w' cnt' hp hrg hlt hgr hsz hen)
end

theorem keyW_is (x : WV) : WideAt.IsKeyLit (keyW x) := trivial
theorem knd_map {K : WL} (h : K.Pairwise fun x y => x.ref ≠ y.ref) : (K.map keyW).Nodup := by
  rw [List.Nodup, List.pairwise_map]
  exact h.imp fun hne e => hne (by unfold keyW at e; injection e)
theorem pnd_map {L : PL} (hnd : L.Nodup) (hok : ∀ q ∈ L, i64ok q.1 ∧ i64ok q.2) : (L.map keyP).Nodup := by
  rw [List.Nodup, List.pairwise_map]
  refine List.Pairwise.imp_of_mem ?_ hnd
  intro x y hx hy hne e
  obtain ⟨x1, x2⟩ := hok x hx
  obtain ⟨y1, y2⟩ := hok y hy
  exact hne (keyP_inj x1 x2 y1 y2 e)

set_option maxRecDepth 100000 in
set_option maxHeartbeats 2000000 in
theorem vals_in (n : Nat) (hn : 1 ≤ n) (l Bm b nn : Nat) (K : WL) (hkok : ∀ x ∈ K, i64ok x.ref) (hknd : K.Pairwise fun x y => x.ref ≠ y.ref) (J Jx : List WV → World → Prop)
    (hY : ∀ pre x W, J pre W → pre.length < K.length → YieldAt Fence.wide (n - 1) Try.prog l #[wv x] W fun e W' => (e = .returned (.bool true) ∧ J (pre ++ [x]) W' ∧ KeepsWalks W W') ∨ (e = .returned (.bool false) ∧ Jx (pre ++ [x]) W'))
    (W : World) (hJ : AbidesFrom W.heap.size J) (hm : W.cell? ⟨Bm, 0, none⟩ = some (.map (some b))) (hown : WM W b nn K) (h0 : J [] W) :
    CallsIn Fence.wide n Try.prog 44 #[.func (.yield l) #[] #[], .pointer (some ⟨Bm, 0, none⟩)] W fun e W' => (∃ v, e = .returned v) ∧ ((∃ ys : WL, ys.Perm K ∧ J ys W') ∨ (∃ pre : WL, True ∧ Jx pre W')) := by
  have HJ := Lib.hid hJ
  have HY := Lib.hid hY
  have H0 := Lib.hid h0
  have HKO := Lib.hid hkok
  have HKN := Lib.hid (knd_map hknd)
  clear hJ hY h0 hkok hknd
  refine callsIn_of_wp Try.func44 rfl trivial ?_ rfl
  simp only [Try.ntmps44, List.size_toArray, List.length_cons, List.length_nil, Nat.reduceAdd, Nat.reduceSub, Array.replicate_succ, Array.replicate_zero, List.push_toArray, List.append_toArray, List.nil_append, List.cons_append]
  gi_wp2_with (first
    | (gi_at_range; refine wpListIn_range_own _ rfl _ 54 rfl 2 33 ki64 Try.underlying54 wR b nn _ rfl hown ?_; intro x0 hrg0 hg0 hs0)
    | gi_in)
  go_frame
  have HR0 : Hid (x0.ranges (H := Unit) Try.prog 2 wR b W.heap.size nn (datG keyW wD K) (hasG keyW K) (Maps.size (datG keyW wD K))) := by
    have e : Maps.has (datG keyW wD K) = hasG keyW K := funext fun k => has_datG
    have h9 := hrg0
    rw [e] at h9
    exact h9
  have HG0 := Lib.hid hg0
  clear hrg0 hg0
  gi_loopw [4] (fun _ wr => ∃ (rem done : WL) (cnt : Nat), wr.ranges (H := Unit) Try.prog 2 wR b W.heap.size nn (datG keyW wD K) (hasG keyW rem) cnt ∧ (rem ++ done).Perm K ∧ J done wr) (fun _ wr => wr.rangeLeft b W.heap.size)
  case atStart => exact ⟨K, [], _, HR0.out, by simp, HJ.out [] W x0 none H0.out HG0.out (fun r e => by cases e)⟩
  case round =>
    obtain ⟨rem, done, cnt, hrg, hpm, hJs⟩ := hrel
    have HPM := Lib.hid hpm
    have HJS := Lib.hid hJs
    have HRG := Lib.hid hrg
    have HSUB : Hid (∀ x ∈ rem, x ∈ K) := fun p hp => hpm.mem_iff.1 (List.mem_append_left _ hp)
    clear hpm hJs HR0 HG0
    gi_wp2_with (first
      | (gi_at_next; refine wpListIn_nextG (key := keyW) (val := wD) (L := K) (rem := rem) (fun x => .int .i64 x.ref) wv rfl _ rfl 2 ki64 b W.heap.size nn _ rfl hrg keyW_is (fun x hx => getG_mem keyW_is HKN.out (HSUB.out x hx)) (fun x hx => keyI64 (HKO.out x (HSUB.out x hx))) (fun x _ v ps h9 => (wR_inv h9).1) ?_ ?_)
      | gi_in)
    · intro hrem
      subst hrem
      gi_wp2
      go_end0
      exact ⟨⟨_, rfl⟩, .inl ⟨done, by simpa using HPM.out, HJS.out⟩⟩
    · intro x w2 cnt2 hx hrg2 hlt hg2 hs2 hen
      have hJ2 : J done w2 := HJ.out done wr w2 (some W.heap.size) HJS.out hg2 (fun r e => by cases e; exact ⟨Nat.le_refl _, HRG.out.iter_walk⟩)
      have hJ3 : J done (w2.alloc (.cells #[.int .i64 x.ref, .int .i64 x.fr, .int .i64 x.to] 33)) := HJ.out done w2 _ none hJ2 (World.grownBy_alloc w2 _ none) (fun r e => by cases e)
      have hlen : done.length < K.length := by
        have h1 := HPM.out.length_eq
        have h2 := List.length_pos_of_mem hx
        rw [List.length_append] at h1
        omega
      obtain ⟨fn, tmps, assign, body, hy, hR⟩ := HY.out done x _ hJ3 hlen
      have HNX := Lib.hid (delG_perm2 keyW_is HKN.out HPM.out hx)
      have HR2 := Lib.hid hrg2
      have HLT := Lib.hid hlt
      unfold wv at hen hy ⊢
      clear hs2 hJ2 hJ3 hlen hrg2 hlt hg2 hrg hx
      gi_wp2
      refine hR.mono ?_
      rintro e W3 (⟨rfl, hJ3, hk3⟩ | ⟨rfl, hJx3⟩)
      · have hrg3 := (World.ranges.of_walks HR2.out (KeepsWalks.alloc w2 (.cells #[.int .i64 x.ref, .int .i64 x.fr, .int .i64 x.to] 33))).of_walks hk3
        have HR3 := Lib.hid hrg3
        have HJ3 := Lib.hid hJ3
        clear hR hk3 hrg3 hJ3 hy hen
        gi_wp2
        go_roundw
        case rel => exact ⟨_, _, cnt2, HR3.out, HNX.out, HJ3.out⟩
        case measure => rw [HR3.out.left_eq, HRG.out.left_eq]; exact HLT.out
      · have HJX := Lib.hid hJx3
        clear hR hJx3 hy hen
        gi_wp2
        refine bodyPost_ret (results_none rfl _ _ _) rfl ?_
        exact ⟨⟨_, rfl⟩, .inr ⟨_, trivial, HJX.out⟩⟩
set_option maxRecDepth 100000 in
set_option maxHeartbeats 2000000 in
theorem keysP_in (n : Nat) (hn : 1 ≤ n) (l Bm b nn : Nat) (K : PL) (hkok : ∀ x ∈ K, i64ok x.1 ∧ i64ok x.2) (hknd : K.Nodup) (J Jx : PL → World → Prop)
    (hY : ∀ pre x W, J pre W → pre.length < K.length → YieldAt Fence.wide (n - 1) Try.prog l #[pv x] W fun e W' => (e = .returned (.bool true) ∧ J (pre ++ [x]) W' ∧ KeepsWalks W W') ∨ (e = .returned (.bool false) ∧ Jx (pre ++ [x]) W'))
    (W : World) (hJ : AbidesFrom W.heap.size J) (hm : W.cell? ⟨Bm, 0, none⟩ = some (.map (some b))) (hown : PM W b nn K) (h0 : J [] W) :
    CallsIn Fence.wide n Try.prog 48 #[.func (.yield l) #[] #[], .pointer (some ⟨Bm, 0, none⟩)] W fun e W' => (∃ v, e = .returned v) ∧ ((∃ ys : PL, ys.Perm K ∧ J ys W') ∨ (∃ pre : PL, True ∧ Jx pre W')) := by
  have HJ := Lib.hid hJ
  have HY := Lib.hid hY
  have H0 := Lib.hid h0
  have HKO := Lib.hid hkok
  have HKN := Lib.hid (pnd_map hknd hkok)
  clear hJ hY h0 hkok hknd
  refine callsIn_of_wp Try.func48 rfl trivial ?_ rfl
  simp only [Try.ntmps48, List.size_toArray, List.length_cons, List.length_nil, Nat.reduceAdd, Nat.reduceSub, Array.replicate_succ, Array.replicate_zero, List.push_toArray, List.append_toArray, List.nil_append, List.cons_append]
  gi_wp2_with (first
    | (gi_at_range; refine wpListIn_range_own _ rfl _ 53 rfl 45 4 kp Try.underlying53 (plainElem Try.prog 4) b nn _ rfl hown ?_; intro x0 hrg0 hg0 hs0)
    | gi_in)
  go_frame
  have HR0 : Hid (x0.ranges (H := Unit) Try.prog 45 (plainElem Try.prog 4) b W.heap.size nn (datG keyP (fun _ => .lit (.bool true)) K) (hasG keyP K) (Maps.size (datG keyP (fun _ => .lit (.bool true)) K))) := by
    have e : Maps.has (datG keyP (fun _ => .lit (.bool true)) K) = hasG keyP K := funext fun k => has_datG
    have h9 := hrg0
    rw [e] at h9
    exact h9
  have HG0 := Lib.hid hg0
  clear hrg0 hg0
  gi_loopw [3] (fun _ wr => ∃ (rem done : PL) (cnt : Nat), wr.ranges (H := Unit) Try.prog 45 (plainElem Try.prog 4) b W.heap.size nn (datG keyP (fun _ => .lit (.bool true)) K) (hasG keyP rem) cnt ∧ (rem ++ done).Perm K ∧ J done wr) (fun _ wr => wr.rangeLeft b W.heap.size)
  case atStart => exact ⟨K, [], _, HR0.out, by simp, HJ.out [] W x0 none H0.out HG0.out (fun r e => by cases e)⟩
  case round =>
    obtain ⟨rem, done, cnt, hrg, hpm, hJs⟩ := hrel
    have HPM := Lib.hid hpm
    have HJS := Lib.hid hJs
    have HRG := Lib.hid hrg
    have HSUB : Hid (∀ x ∈ rem, x ∈ K) := fun p hp => hpm.mem_iff.1 (List.mem_append_left _ hp)
    clear hpm hJs HR0 HG0
    gi_wp2_with (first
      | (gi_at_next; refine wpListIn_nextG (key := keyP) (val := fun _ => .lit (.bool true)) (L := K) (rem := rem) pv (fun _ => .bool true) rfl _ rfl 45 kp b W.heap.size nn _ rfl hrg keyP_is (fun x hx => getG_mem keyP_is HKN.out (HSUB.out x hx)) (fun x hx => keyOfP (HKO.out x (HSUB.out x hx)).1 (HKO.out x (HSUB.out x hx)).2) (fun x _ v ps h9 => bool_inv Try.underlying4 h9) ?_ ?_)
      | gi_in)
    · intro hrem
      subst hrem
      gi_wp2
      go_end0
      exact ⟨⟨_, rfl⟩, .inl ⟨done, by simpa using HPM.out, HJS.out⟩⟩
    · intro xa xb w2 cnt2 hx hrg2 hlt hg2 hs2 hen
      have hJ2 : J done w2 := HJ.out done wr w2 (some W.heap.size) HJS.out hg2 (fun r e => by cases e; exact ⟨Nat.le_refl _, HRG.out.iter_walk⟩)
      have hJ3 : J done (w2.alloc (.cells #[.int .i64 xa, .int .i64 xb] 45)) := HJ.out done w2 _ none hJ2 (World.grownBy_alloc w2 _ none) (fun r e => by cases e)
      have hlen : done.length < K.length := by
        have h1 := HPM.out.length_eq
        have h2 := List.length_pos_of_mem hx
        rw [List.length_append] at h1
        omega
      obtain ⟨fn, tmps, assign, body, hy, hR⟩ := HY.out done (xa, xb) _ hJ3 hlen
      have HNX := Lib.hid (delG_perm2 keyP_is HKN.out HPM.out hx)
      have HR2 := Lib.hid hrg2
      have HLT := Lib.hid hlt
      unfold pv at hen hy ⊢
      clear hs2 hJ2 hJ3 hlen hrg2 hlt hg2 hrg hx
      gi_wp2
      refine hR.mono ?_
      rintro e W3 (⟨rfl, hJ3, hk3⟩ | ⟨rfl, hJx3⟩)
      · have hrg3 := (World.ranges.of_walks HR2.out (KeepsWalks.alloc w2 (.cells #[.int .i64 xa, .int .i64 xb] 45))).of_walks hk3
        have HR3 := Lib.hid hrg3
        have HJ3 := Lib.hid hJ3
        clear hR hk3 hrg3 hJ3 hy hen
        gi_wp2
        go_roundw
        case rel => exact ⟨_, _, cnt2, HR3.out, HNX.out, HJ3.out⟩
        case measure => rw [HR3.out.left_eq, HRG.out.left_eq]; exact HLT.out
      · have HJX := Lib.hid hJx3
        clear hR hJx3 hy hen
        gi_wp2
        refine bodyPost_ret (results_none rfl _ _ _) rfl ?_
        exact ⟨⟨_, rfl⟩, .inr ⟨_, trivial, HJX.out⟩⟩
end Go.Proofs.Ytpfikhamokjdjaa
