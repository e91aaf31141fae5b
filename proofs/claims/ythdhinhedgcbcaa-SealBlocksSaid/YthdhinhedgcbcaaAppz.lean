/- append of zeros onto a row of bytes of the call's own. No program is named here. -/
import Derived.Test.YthdhinhedgcbcaaBase
import Derived.Lib.AppendZerosOnto
namespace Go.Proofs.Ythdhinhedgcbcaa
open Go.RowKit
set_option linter.unusedVariables false

theorem zerosL (k : Nat) : (Builtin.zeroCells (Value.int .u8 0).cells k).toList = (List.replicate k (0 : UInt8)).map bv := by
  apply List.ext_getElem
  · simp [Builtin.zeroCells, Value.cells]
  · intro j h1 h2
    simp [Builtin.zeroCells, Value.cells, bv, Nat.mod_one]

theorem run_appz_own {P : Program} {t tn e : TypeId} (T : ElT P t e (.int .u8 0) 1 1) (htn : P.underlying tn = some (.int .i64)) (w : World) (ty : TypeId) (base : Nat) (v : Value) (n k : Nat) (l : List UInt8) (hown : w.ownsRow base e 1 v n (l.map bv)) (h0 : 0 < n) (hk : n + k ≤ 65536) (hbase : base ≤ w.heap.size) :
    ∃ v' w', (Builtin.append_ #[t, tn] ty #[v, .int .i64 (k : Int)]).run P w = .ok v' w' ∧ w'.ownsRow base e 1 v' (n + k) ((l ++ List.replicate k 0).map bv) ∧ w.grownBy w' v.ownBlock ∧ (v'.ownBlock = v.ownBlock ∨ v'.ownBlock = some w.heap.size) := by
  obtain ⟨i, hi, hz, hsz, hby⟩ := info_parts T.info
  have hl : l.length = n := by have := hown.1; simpa using this
  rcases hown.2 with ⟨_, hn0⟩ | ⟨g, cap, cur, rfl, hbg, hg, hnc, hcm, hcs, htake⟩
  · omega
  have hw : IntKind.i64.wrap (k : Int) = k := by rw [IntKind.wrap_i64]; omega
  have hneg : ¬ ((k : Int) < 0) := by omega
  have h48i : ¬ (281474976710656 < (k : Int) * (i.bytes : Int)) := by rw [hby]; omega
  rw [Nat.mul_one] at hcs htake
  by_cases hr : n + k ≤ cap
  · rcases Nat.eq_zero_or_pos k with rfl | hk0
    · refine ⟨_, w, ?_, by simpa using hown, grown_refl _ _, .inl rfl⟩
      simp [Builtin.append_, run_underlying T.ht, run_underlying htn, sizeOf, typeInfo, hi, asInt, asIntOf, storeCells, hnc, show IntKind.i64.wrap 0 = 0 from rfl]
    · have hst := run_storeCells_at P g n e ((List.replicate k (0 : UInt8)).map bv) 0 cur w hg (by simp; omega) (bvs_one _)
      obtain ⟨h1, h2, h3⟩ := grown_setRow (w := w) (g := g) (cs := cur) (t := e) hg (cur.toList.take (n + 0) ++ (List.replicate k (0 : UInt8)).map bv ++ cur.toList.drop (n + 0 + ((List.replicate k (0 : UInt8)).map bv).length)).toArray
      refine ⟨.slice (some ⟨g, 0, none⟩) (n + k) cap, _, ?_, ⟨by simp [hl], .inr ⟨g, cap, _, rfl, hbg, h1, hr, hcm, ?_, ?_⟩⟩, h2, .inl rfl⟩
      · have e1 := zerosL k
        simp [Builtin.append_, run_underlying T.ht, run_underlying htn, sizeOf, typeInfo, zeroValue, hi, hz, hsz, asInt, asIntOf, hw, hneg, h48i, hr, Addr.add_lit, e1, show ¬ k = 0 by omega]
        simp at hst
        rw [hst]
        simp
      · simp; omega
      · rw [Nat.add_zero, htake]
        simp only [Nat.mul_one, List.toList_toArray]
        rw [List.take_append_of_le_length (by simp; omega), List.take_of_length_le (by simp; omega), List.map_append]
  · have hk0 : 0 < k := by omega
    have hold := run_firstCells_some (P := P) w.drew i.size n ⟨g, 0, none⟩ n cap (l.map bv) (by simp [hl, hsz]) (fun j v hv => hown.cells (g := g) rfl j v hv)
    have h := Lib.run_append_grow_zeros (P := P) w t tn ty e i (.int .u8 0) .i64 .i64 T.ht htn hi hz (some ⟨g, 0, none⟩) n cap (l.map bv) hold k hk0 (by omega) (by omega) (by omega) (by rw [hby]; omega) (by rw [hby]; exact growslice_fits (by omega) (by omega))
    have hge := grownCap_ge w (n + k) cap e
    have e2 : (l.map bv).toArray ++ Builtin.zeroCells (Value.int .u8 0).cells k = ((l ++ List.replicate k 0).map bv).toArray := by
      apply Array.toList_inj.1
      rw [Array.toList_append, zerosL k]
      simp
    rw [e2] at h
    refine ⟨_, _, h, ⟨by simp [hl], .inr ⟨w.heap.size, _, _, rfl, hbase, heap_alloc_new w.drew _, hge, grownCap_le_maxLen w (n + k) cap e (by unfold maxLen; omega), ?_, ?_⟩⟩, ⟨rfl, rfl, rfl, by simp, fun j hj _ => heap_alloc_old w.drew _ hj⟩, .inr rfl⟩
    · have hz1 := zerosL (grownCap w (n + k) cap e - (n + k))
      have hz2 : (Builtin.zeroCells (Value.int .u8 0).cells (grownCap w (n + k) cap e - (n + k))).size = grownCap w (n + k) cap e - (n + k) := by
        rw [← Array.length_toList, hz1]; simp
      rw [Array.size_append, hz2]
      simp [hl]
      omega
    · rw [Array.toList_append]
      simp only [Nat.mul_one]
      rw [List.take_append_of_le_length (by simp [hl]), List.take_of_length_le (by simp [hl])]

/-- .. at the operation. -/
theorem wpList_appz {P : Program} {w : World} {ops : Array Oper} {rest : List Oper} {o : Oper} {a : Act} {Q : Exit → Act → World → Prop} {t tn e : TypeId} (T : ElT P t e (.int .u8 0) 1 1) (htn : P.underlying tn = some (.int .i64)) (hgd : o.guard = none) (s x : Operand)
    (ho : o.op = .call { callee := .builtin .append, args := #[s, x], argTypes := #[t, tn] }) (base : Nat) (v : Value) (n k : Nat) (l : List UInt8) (hs : a.eval s = v) (hx : a.eval x = .int .i64 (k : Int)) (hown : w.ownsRow base e 1 v n (l.map bv)) (h0 : 0 < n) (hk : n + k ≤ 65536) (hbase : base ≤ w.heap.size)
    (h : ∀ v' w', w'.ownsRow base e 1 v' (n + k) ((l ++ List.replicate k 0).map bv) → w.grownBy w' v.ownBlock → (v'.ownBlock = v.ownBlock ∨ v'.ownBlock = some w.heap.size) → wpList P ops Q rest (a.put o.dst v') w') :
    wpList P ops Q (o :: rest) a w := by
  refine wpList_plain hgd fun K hK => ?_
  obtain ⟨v', w', hr, h2, h3, h4⟩ := run_appz_own (P := P) T htn w o.type base v n k l hown h0 hk hbase
  unfold Oper.wp execOp
  simp only [ho, resolve, invoke, builtin, Sem.run_bind, Sem.run_pure, Result.andThen_ok, List.map_toArray, List.map_cons, List.map_nil, hs, hx, hr]
  exact hK _ _ (h v' w' h2 h3 h4)
end Go.Proofs.Ythdhinhedgcbcaa
