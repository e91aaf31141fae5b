/- Frames: only blocks of a set have turned; clearing bytes; rows of ints. No program is named here. -/
import Derived.Test.YthhindnjnijglaaBase
namespace Go.Proofs.Ythhindnjnijglaa
open Go.RowKit
set_option linter.unusedVariables false

/-- Of what was there only blocks of F may have turned. -/
structure Fr (F : Nat → Prop) (w w' : World) : Prop where
  os : w'.os = w.os
  tape : w'.tape = w.tape
  output : w'.output = w.output
  size : w.heap.size ≤ w'.heap.size
  block : ∀ k, k < w.heap.size → ¬ F k → w'.heap[k]? = w.heap[k]?

section
variable {F G : Nat → Prop} {w w' w'' : World}
theorem Fr.refl (F : Nat → Prop) (w : World) : Fr F w w := ⟨rfl, rfl, rfl, Nat.le_refl _, fun _ _ _ => rfl⟩
theorem Fr.trans (h : Fr F w w') (k : Fr G w' w'') (hG : ∀ i, i < w.heap.size → G i → F i) : Fr F w w'' :=
  ⟨k.os.trans h.os, k.tape.trans h.tape, k.output.trans h.output, Nat.le_trans h.size k.size, fun i hi hn => (k.block i (Nat.lt_of_lt_of_le hi h.size) (fun g => hn (hG i hi g))).trans (h.block i hi hn)⟩
theorem Fr.same (h : Fr F w w') (k : Fr F w' w'') : Fr F w w'' := h.trans k fun _ _ g => g
theorem Fr.weak (h : Fr F w w') (hG : ∀ i, i < w.heap.size → F i → G i) : Fr G w w' := ⟨h.os, h.tape, h.output, h.size, fun i hi hn => h.block i hi (fun f => hn (hG i hi f))⟩
theorem Fr.of_below (h : Below w.heap.size w w') (F : Nat → Prop) : Fr F w w' := ⟨h.os, h.tape, h.output, h.size, fun i hi _ => h.block i hi⟩
theorem Fr.of_grown {row : Option Nat} (h : w.grownBy w' row) (hr : ∀ k, row = some k → k < w.heap.size → F k) : Fr F w w' :=
  ⟨h.os, h.tape, h.output, h.size, fun i hi hn => h.block i hi (fun e => hn (hr i e.symm hi))⟩
theorem Fr.below {B : Nat} (h : Fr F w w') (hB : B ≤ w.heap.size) (hF : ∀ k, F k → B ≤ k) : Below B w w' :=
  ⟨h.os, h.tape, h.output, h.size, fun i hi => h.block i (by omega) (fun f => by have := hF i f; omega)⟩
theorem Fr.setCell (F : Nat → Prop) (w : World) {p : Addr} (hp : p.block < w.heap.size → F p.block) (u : Value) : Fr F w (w.setCell p u) :=
  ⟨rfl, rfl, rfl, by simp [World.setCell], fun i hi hn => Below.heap_setCell w p u i (fun e => hn (by subst e; exact hp hi))⟩
theorem Fr.alloc (F : Nat → Prop) (w : World) (o : Obj) : Fr F w (w.alloc o) := Fr.of_below (below_alloc w o) F
theorem Fr.drew (h : Fr F w w') : Fr F w w'.drew := ⟨h.os, h.tape, h.output, h.size, h.block⟩
theorem Fr.drewN (h : Fr F w w') (n : Nat) : Fr F w (w'.drewN n) := ⟨h.os, h.tape, h.output, h.size, h.block⟩
theorem Fr.blk {g t : Nat} {cs : Array Value} (h : Fr F w w') (hb : Blk w g t cs) (hn : ¬ F g) : Blk w' g t cs := (h.block g hb.lt hn).trans hb
theorem Fr.rd {A : Option Addr} {l : List UInt8} (h : Fr F w w') (hr : Rd w A l) (hn : ∀ b off, A = some ⟨b, off, none⟩ → 0 < l.length → ¬ F b) : Rd w' A l := by
  rcases hr with rfl | ⟨b, off, h1, h2⟩
  · exact .inl rfl
  · refine .inr ⟨b, off, h1, fun j hj => ?_⟩
    have hlt := World.block_lt_of_cell? w ⟨b, off + j, none⟩ (h2 j hj)
    exact (World.cell?_of_block (h.block b hlt (hn b off h1 (by omega)))).trans (h2 j hj)
end

theorem grown_drewN {w w' : World} {row : Option Nat} (h : w.grownBy w' row) (n : Nat) : w.grownBy (w'.drewN n) row := ⟨h.os, h.tape, h.output, h.size, h.block⟩

/-- copy of bytes into a part of a block whose head is known, at the operation. -/
theorem wpList_cpy2 {P : Program} {w : World} {ops : Array Oper} {rest : List Oper} {o : Oper} {a : Act} {Q : Exit → Act → World → Prop} {t e : TypeId} {z : Value} {bytes : Nat} (T : ElT P t e z 1 bytes) (hgd : o.guard = none) (d s : Operand)
    (ho : o.op = .call { callee := .builtin .copy, args := #[d, s], argTypes := #[t, t] }) (g off dLen dCap : Nat) (A : Option Addr) (sLen sCap : Nat) (hd : a.eval d = .slice (some ⟨g, off, none⟩) dLen dCap) (hs : a.eval s = .slice A sLen sCap)
    (l : List UInt8) (tl : List Value) (hg : Blk w g e (l.map bv ++ tl).toArray) (m : List UInt8) (hm : m.length = sLen) (hr : Rd w A m) (hle : sLen ≤ dLen) (hfit : off + dLen ≤ l.length)
    (h : ∀ w', Blk w' g e ((spliceB l off m).map bv ++ tl).toArray → w.grownBy w' (some g) → w'.heap.size = w.heap.size → wpList P ops Q rest (a.put o.dst (goInt sLen)) w') :
    wpList P ops Q (o :: rest) a w := by
  have hsz : (P.info? e).map (·.size) = some 1 := by
    obtain ⟨i, hi, _, hsz, _⟩ := info_parts T.info
    simp [hi, hsz]
  rcases Nat.eq_zero_or_pos sLen with h0 | h0
  · subst h0
    obtain rfl : m = [] := List.eq_nil_of_length_eq_zero hm
    refine wpList_copy_nothing hgd d s t t ho e T.ht hsz _ _ dLen dCap 0 sCap hd hs (by simp) ?_
    exact h w (by simpa [spliceB] using hg) (grown_refl _ _) rfl
  · obtain ⟨b, so, rfl, _, hc⟩ := hr.cells (by omega)
    have e2 : ((l.map bv ++ tl).toArray.toList.take off ++ (m.map bv ++ (l.map bv ++ tl).toArray.toList.drop (off + (m.map bv).length))).toArray = ((spliceB l off m).map bv ++ tl).toArray := by
      have h1 : (l.map bv ++ tl).take off = (l.map bv).take off := List.take_append_of_le_length (by simp; omega)
      have h2 : (l.map bv ++ tl).drop (off + m.length) = (l.map bv).drop (off + m.length) ++ tl := List.drop_append_of_le_length (by simp; omega)
      simp only [List.length_map]
      rw [h1, h2]
      simp [spliceB, List.map_take, List.map_drop]
    refine wpList_copy_own hgd d s t t ho e T.ht hsz g off dLen dCap ⟨b, so, none⟩ sLen sCap hd hs (l.map bv ++ tl).toArray e hg (m.map bv) (by rw [List.length_map, hm]; exact (Nat.min_eq_left hle).symm) hc (by simp; omega) (bvs_one m) ?_
    rw [e2]
    obtain ⟨h1, h2, h3⟩ := grown_setRow hg ((spliceB l off m).map bv ++ tl).toArray
    have h4 := h _ h1 h2 h3
    simpa [hm] using h4

/-- clear of bytes, at the operation. -/
theorem wpList_clr {P : Program} {w : World} {ops : Array Oper} {rest : List Oper} {o : Oper} {a : Act} {Q : Exit → Act → World → Prop} {t e : TypeId} {bytes : Nat} (T : ElT P t e (.int .u8 0) 1 bytes) (hgd : o.guard = none) (d : Operand)
    (ho : o.op = .call { callee := .builtin .clear, args := #[d], argTypes := #[t] }) (g off n c : Nat) (hd : a.eval d = .slice (some ⟨g, off, none⟩) n c)
    (l : List UInt8) (tl : List Value) (hg : Blk w g e (l.map bv ++ tl).toArray) (hfit : off + n ≤ l.length)
    (h : ∀ w', Blk w' g e ((spliceB l off (List.replicate n 0)).map bv ++ tl).toArray → w.grownBy w' (some g) → w'.heap.size = w.heap.size → wpList P ops Q rest (a.put o.dst (.tuple #[])) w') :
    wpList P ops Q (o :: rest) a w := by
  obtain ⟨i, hi, hz, hsz, hby⟩ := info_parts T.info
  refine wpList_plain hgd fun K hK => ?_
  have hrun : ∀ ty, ∃ w', (Builtin.clear_ #[t] ty #[.slice (some ⟨g, off, none⟩) n c]).run P w = .ok (.tuple #[]) w' ∧ Blk w' g e ((spliceB l off (List.replicate n 0)).map bv ++ tl).toArray ∧ w.grownBy w' (some g) ∧ w'.heap.size = w.heap.size := by
    intro ty
    rcases Nat.eq_zero_or_pos n with h0 | h0
    · subst h0
      exact ⟨w, by simp [Builtin.clear_, run_underlying T.ht], by simpa [spliceB] using hg, grown_refl _ _, rfl⟩
    · have e1 : (Builtin.zeroCells (Value.int .u8 0).cells n).toList = (List.replicate n (0 : UInt8)).map bv := by
        apply List.ext_getElem
        · simp [Builtin.zeroCells, Value.cells]
        · intro j h1 h2
          simp [Builtin.zeroCells, Value.cells, bv, Nat.mod_one]
      have hst := run_storeCells_at P g off e ((List.replicate n (0 : UInt8)).map bv) 0 (l.map bv ++ tl).toArray w hg (by simp; omega) (bvs_one _)
      obtain ⟨h1, h2, h3⟩ := grown_setRow hg ((spliceB l off (List.replicate n 0)).map bv ++ tl).toArray
      refine ⟨_, ?_, h1, h2, h3⟩
      have e2 : ((l.map bv ++ tl).toArray.toList.take (off + 0) ++ (List.replicate n (0 : UInt8)).map bv ++ (l.map bv ++ tl).toArray.toList.drop (off + 0 + ((List.replicate n (0 : UInt8)).map bv).length)).toArray = ((spliceB l off (List.replicate n 0)).map bv ++ tl).toArray := by
        have h4 : (l.map bv ++ tl).take off = (l.map bv).take off := List.take_append_of_le_length (by simp; omega)
        have h5 : (l.map bv ++ tl).drop (off + n) = (l.map bv).drop (off + n) ++ tl := List.drop_append_of_le_length (by simp; omega)
        simp only [List.length_map, List.length_replicate, Nat.add_zero]
        rw [h4, h5]
        simp [spliceB, List.map_take, List.map_drop]
      rw [e2] at hst
      obtain ⟨n', rfl⟩ : ∃ n', n = n' + 1 := ⟨n - 1, by omega⟩
      simp [Builtin.clear_, run_underlying T.ht, zeroValue, typeInfo, hi, hz]
      rw [e1, hst]
      rfl
  obtain ⟨w', hr, h2, h3, h4⟩ := hrun o.type
  unfold Oper.wp execOp
  simp only [ho, resolve, invoke, builtin, Sem.run_bind, Sem.run_pure, Result.andThen_ok, List.map_toArray, List.map_cons, List.map_nil, hd, hr]
  exact hK _ _ (h w' h2 h3 h4)

/-- clear of no byte, at the operation. -/
theorem wpList_clr0 {P : Program} {w : World} {ops : Array Oper} {rest : List Oper} {o : Oper} {a : Act} {Q : Exit → Act → World → Prop} {t e : TypeId} {z : Value} {bytes : Nat} (T : ElT P t e z 1 bytes) (hgd : o.guard = none) (d : Operand)
    (ho : o.op = .call { callee := .builtin .clear, args := #[d], argTypes := #[t] }) (X : Option Addr) (c : Nat) (hd : a.eval d = .slice X 0 c)
    (h : wpList P ops Q rest (a.put o.dst (.tuple #[])) w) : wpList P ops Q (o :: rest) a w := by
  refine wpList_plain hgd fun K hK => ?_
  have hrun : ∀ ty, (Builtin.clear_ #[t] ty #[.slice X 0 c]).run P w = .ok (.tuple #[]) w := by
    intro ty
    cases X <;> simp [Builtin.clear_, run_underlying T.ht]
  unfold Oper.wp execOp
  simp only [ho, resolve, invoke, builtin, Sem.run_bind, Sem.run_pure, Result.andThen_ok, List.map_toArray, List.map_cons, List.map_nil, hd, hrun]
  exact hK _ _ h
end Go.Proofs.Ythhindnjnijglaa
