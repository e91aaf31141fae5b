/- Arith (layer 14): the plain law of Do; the tables of functions. Written by argenp.py. -/
import Derived.Test.YtbpnlpjbjmojfaaGreatArO
namespace Go.Proofs.YtbpnlpjbjmojfaaGreat
open Go.RowKit Go.Maps Go.WideMaps
set_option linter.unusedVariables false

/-- The value of an operation of one operand. -/
def oneP (n : List UInt8) (t : TV) : TV × List UInt8 :=
  if n = [45] then (if t.kind = 1 then numP (-t.int) else (tZ, sAri)) else
  if n = [110, 111, 116] then (if (lgP t).2 = true then (truT (!(lgP t).1), []) else (tZ, sArg)) else
  if n = [105, 115, 95, 105, 110, 116, 101, 103, 101, 114] then (truT (([1] : List Int).contains t.kind), []) else
  if n = [105, 115, 95, 97, 116, 111, 109] then (truT (([2] : List Int).contains t.kind), []) else
  if n = [105, 115, 95, 112, 105, 100] then (truT (([5] : List Int).contains t.kind), []) else
  if n = [105, 115, 95, 114, 101, 102, 101, 114, 101, 110, 99, 101] then (truT (([3] : List Int).contains t.kind), []) else
  if n = [105, 115, 95, 102, 117, 110, 99, 116, 105, 111, 110] then (truT (([4] : List Int).contains t.kind), []) else
  if n = [105, 115, 95, 116, 117, 112, 108, 101] then (truT (([6] : List Int).contains t.kind), []) else
  if n = [105, 115, 95, 108, 105, 115, 116] then (truT (([7, 8] : List Int).contains t.kind), []) else
  if n = [104, 100] then (if t.kind = 8 then (t.items.getD 0 tZ, []) else (tZ, sArg)) else
  if n = [116, 108] then (if t.kind = 8 then (t.items.getD 1 tZ, []) else (tZ, sArg)) else
  if n = [116, 117, 112, 108, 101, 95, 115, 105, 122, 101] then (if t.kind = 6 then (tI (t.items.length : Nat), []) else (tZ, sArg)) else
  if n = [116, 117, 112, 108, 101, 95, 116, 111, 95, 108, 105, 115, 116] then (if t.kind = 6 then fitP (lstT t.items) else (tZ, sArg)) else
  if n = [108, 101, 110, 103, 116, 104] then ((elsT t).elim (tZ, sArg) (fun l => (tI (l.length : Nat), []))) else
  if n = [108, 105, 115, 116, 95, 116, 111, 95, 116, 117, 112, 108, 101] then ((elsT t).elim (tZ, sArg) (fun l => (tT l, []))) else
  if n = [114, 101, 118, 101, 114, 115, 101] then ((elsT t).elim (tZ, sArg) (fun l => (lstT l.reverse, []))) else (tZ, sUnd)
/-- .. of two. -/
def twoP (n : List UInt8) (t1 t2 : TV) : TV × List UInt8 :=
  if n = [43] then (if t1.kind = 1 ∧ t2.kind = 1 then numP (t1.int + t2.int) else (tZ, sAri)) else
  if n = [45] then (if t1.kind = 1 ∧ t2.kind = 1 then numP (t1.int - t2.int) else (tZ, sAri)) else
  if n = [42] then (if t1.kind = 1 ∧ t2.kind = 1 then numP (t1.int * t2.int) else (tZ, sAri)) else
  if n = [100, 105, 118] then (if t1.kind = 1 ∧ t2.kind = 1 then (if t2.int = 0 then (tZ, sAri) else numP (t1.int.tdiv t2.int)) else (tZ, sAri)) else
  if n = [114, 101, 109] then (if t1.kind = 1 ∧ t2.kind = 1 then (if t2.int = 0 then (tZ, sAri) else numP (t1.int.tmod t2.int)) else (tZ, sAri)) else
  if n = [61, 61] then (truT (t1.cmp t2 == 0), []) else
  if n = [47, 61] then (truT (t1.cmp t2 != 0), []) else
  if n = [60] then (truT (decide (t1.cmp t2 < 0)), []) else
  if n = [62] then (truT (decide (0 < t1.cmp t2)), []) else
  if n = [61, 60] then (truT (decide (t1.cmp t2 ≤ 0)), []) else
  if n = [62, 61] then (truT (decide (0 ≤ t1.cmp t2)), []) else
  if n = [97, 110, 100] then (if (lgP t1).2 = true ∧ (lgP t2).2 = true then (truT ((lgP t1).1 && (lgP t2).1), []) else (tZ, sArg)) else
  if n = [111, 114] then (if (lgP t1).2 = true ∧ (lgP t2).2 = true then (truT ((lgP t1).1 || (lgP t2).1), []) else (tZ, sArg)) else
  if n = [99, 111, 110, 115] then fitP (tC t1 t2) else
  if n = [101, 108, 101, 109, 101, 110, 116] then (if t1.kind = 1 ∧ t2.kind = 6 ∧ 1 ≤ t1.int ∧ t1.int ≤ (t2.items.length : Nat) then (t2.items.getD (t1.int - 1).toNat tZ, []) else (tZ, sArg)) else
  if n = [97, 112, 112, 101, 110, 100] then ((elsT t1).elim (tZ, sArg) (fun l => fitP (lstE l t2))) else (tZ, sUnd)
/-- Do. -/
def doP (n : List UInt8) (l : List TV) : TV × List UInt8 :=
  if n = [123, 125] then fitP (tT l) else
    match l with
    | [t] => oneP n t
    | [t1, t2] => twoP n t1 t2
    | _ => (tZ, sUnd)
def onesN : List (List UInt8) := [[45], [110, 111, 116], [105, 115, 95, 105, 110, 116, 101, 103, 101, 114], [105, 115, 95, 97, 116, 111, 109], [105, 115, 95, 112, 105, 100], [105, 115, 95, 114, 101, 102, 101, 114, 101, 110, 99, 101], [105, 115, 95, 102, 117, 110, 99, 116, 105, 111, 110], [105, 115, 95, 116, 117, 112, 108, 101], [105, 115, 95, 108, 105, 115, 116], [104, 100], [116, 108], [116, 117, 112, 108, 101, 95, 115, 105, 122, 101], [116, 117, 112, 108, 101, 95, 116, 111, 95, 108, 105, 115, 116], [108, 101, 110, 103, 116, 104], [108, 105, 115, 116, 95, 116, 111, 95, 116, 117, 112, 108, 101], [114, 101, 118, 101, 114, 115, 101]]
def twosN : List (List UInt8) := [[43], [45], [42], [100, 105, 118], [114, 101, 109], [61, 61], [47, 61], [60], [62], [61, 60], [62, 61], [97, 110, 100], [111, 114], [99, 111, 110, 115], [101, 108, 101, 109, 101, 110, 116], [97, 112, 112, 101, 110, 100]]
theorem oneP_no {n : List UInt8} {t : TV} (h : n ∉ onesN) : oneP n t = (tZ, sUnd) := by
  unfold onesN at h
  simp only [List.mem_cons, List.mem_nil_iff, or_false, not_or] at h
  unfold oneP
  simp only [h, if_false]
theorem twoP_no {n : List UInt8} {t1 t2 : TV} (h : n ∉ twosN) : twoP n t1 t2 = (tZ, sUnd) := by
  unfold twosN at h
  simp only [List.mem_cons, List.mem_nil_iff, or_false, not_or] at h
  unfold twoP
  simp only [h, if_false]
/-- What the operations ask of a term. -/
structure GoodT (t : TV) : Prop where
  int : -1152921504606846976 ≤ t.int ∧ t.int ≤ 1152921504606846976
  cons : t.kind = 8 → t.items.length = 2
  parts : t.parts ≤ 1000000
theorem GoodT.len {t : TV} (h : GoodT t) : t.items.length ≤ 1000000 := by
  have := h.parts
  have h2 := len_parts t.items
  rw [t.parts_eq] at this
  omega
section
variable {W V V' : World} {u u1 u2 : Value} {t t1 t2 : TV}
/-- The function value v serves an operation of one operand, as long as nothing but the block b turns. -/
def Srv1 (b : Nat) (V : World) (v : Value) (n : List UInt8) : Prop := ∃ fid caps, v = .func (.func fid) #[] caps ∧ (∀ args w, (callFunc fid args).run Tryz.prog w = .ok (.enter fid args) w) ∧
  ∀ V' X u t, Fr (fun k => k = b) V V' → (∀ k, X k → k < V'.heap.size) → TEx X V' u t → GoodT t → Calls Tryz.prog fid (#[u] ++ caps) V' (R2 X V' (oneP n t))
/-- .. of two operands. -/
def Srv2 (b : Nat) (V : World) (v : Value) (n : List UInt8) : Prop := ∃ fid caps, v = .func (.func fid) #[] caps ∧ (∀ args w, (callFunc fid args).run Tryz.prog w = .ok (.enter fid args) w) ∧
  ∀ V' X u1 t1 u2 t2, Fr (fun k => k = b) V V' → (∀ k, X k → k < V'.heap.size) → TEx X V' u1 t1 → TEx X V' u2 t2 → GoodT t1 → GoodT t2 → Calls Tryz.prog fid (#[u1, u2] ++ caps) V' (R2 X V' (twoP n t1 t2))
theorem srv1_fr {b : Nat} {v : Value} {n : List UInt8} (h : Srv1 b V v n) (hf : Fr (fun k => k = b) V V') : Srv1 b V' v n := by
  obtain ⟨fid, caps, e, eg, hc⟩ := h
  exact ⟨fid, caps, e, eg, fun V2 X u t hf2 => hc V2 X u t (hf.same hf2)⟩
theorem srv2_fr {b : Nat} {v : Value} {n : List UInt8} (h : Srv2 b V v n) (hf : Fr (fun k => k = b) V V') : Srv2 b V' v n := by
  obtain ⟨fid, caps, e, eg, hc⟩ := h
  exact ⟨fid, caps, e, eg, fun V2 X u1 t1 u2 t2 hf2 => hc V2 X u1 t1 u2 t2 (hf.same hf2)⟩
/-- The block b holds a table of these names; each value serves its name. -/
def TabS (P : Program) (k : TypeId) (Sv : Nat → World → Value → List UInt8 → Prop) (V : World) (b : Nat) (ns : List (List UInt8)) : Prop := ∃ l : FTab, Tab P k V b l ∧ l.map (·.1) = ns ∧ ∀ q ∈ l, Sv b V q.2 q.1
/-- What a kind of service asks. -/
def Mono (Sv : Nat → World → Value → List UInt8 → Prop) : Prop := ∀ b V V' v n, Fr (fun k => k = b) V V' → Sv b V v n → Sv b V' v n
theorem mono1 : Mono Srv1 := fun _ _ _ _ _ hf h => srv1_fr h hf
theorem mono2 : Mono Srv2 := fun _ _ _ _ _ hf h => srv2_fr h hf
theorem TabS.keep {P : Program} {k : TypeId} {Sv : Nat → World → Value → List UInt8 → Prop} {b : Nat} {ns : List (List UInt8)} (h : TabS P k Sv V b ns) (hm : Mono Sv) (hb : Below V.heap.size V V') : TabS P k Sv V' b ns := by
  obtain ⟨l, h1, h2, h3⟩ := h
  exact ⟨l, h1.keep hb, h2, fun q hq => hm _ _ _ _ _ (Fr.of_below hb _) (h3 q hq)⟩
theorem tabS_made (P : Program) (k : TypeId) (Sv : Nat → World → Value → List UInt8 → Prop) (W : World) : TabS P k Sv (W.alloc (.map #[] 0)) W.heap.size [] := ⟨[], tab_made _ _ _, rfl, by simp⟩
theorem TabS.find {P : Program} {k : TypeId} {Sv : Nat → World → Value → List UInt8 → Prop} {b : Nat} {ns : List (List UInt8)} (h : TabS P k Sv V b ns) {t e : TypeId} (K : Keyed P k) (ht : P.underlying t = some (.map k e)) {z : Value} (hz : (zeroValue e).run P V = .ok z V) {s : List UInt8} (hkey : keyOf P k (.string ⟨s.toArray⟩) = some (.string s)) :
    ∃ v, (Instr.lookup t (.map (some b)) (.string ⟨s.toArray⟩) true).run P V = .ok (.tuple #[v, .bool (decide (s ∈ ns))]) V ∧ (s ∈ ns → Sv b V v s) := by
  obtain ⟨l, h1, h2, h3⟩ := h
  have hlk := tab_look h1 K ht hz hkey
  cases hf : findT l s with
  | none =>
    have hn : s ∉ ns := by
      rw [← h2]
      intro hin
      obtain ⟨q, hq, rfl⟩ := List.mem_map.1 hin
      unfold findT at hf
      rw [Option.map_eq_none_iff, List.find?_eq_none] at hf
      exact hf q (by simpa using hq) (by simp)
    rw [hf] at hlk
    exact ⟨z, by rw [hlk]; simp [hn], fun h => absurd h hn⟩
  | some v =>
    unfold findT at hf
    obtain ⟨q, hq, rfl⟩ := Option.map_eq_some_iff.1 hf
    have hm := List.mem_of_find?_eq_some hq
    have hs : q.1 = s := by simpa using List.find?_some hq
    have hin : s ∈ ns := by rw [← h2, ← hs]; exact List.mem_map.2 ⟨q, by simpa using hm, rfl⟩
    have hf2 : findT l s = some q.2 := by unfold findT; rw [hq]; rfl
    rw [hf2] at hlk
    exact ⟨q.2, by rw [hlk]; simp [hin], fun _ => by rw [← hs]; exact h3 q (by simpa using hm)⟩
theorem wpList_insS {P : Program} {k e ty t : TypeId} {Sv : Nat → World → Value → List UInt8 → Prop} {b : Nat} {ns : List (List UInt8)} {w : World} {ops : Array Oper} {rest : List Oper} {dst : Option Nat} {pos : String} {after : Array Edge} {a : Act} {Q : Exit → Act → World → Prop} {m x v : Operand}
    (hm : Mono Sv) (K : Keyed P k) (ht : P.underlying t = some (.map k e)) (HT : Hid (TabS P k Sv w b ns)) (hlen : ns.length < 1000) (s : List UInt8) (val : Value) (hem : a.eval m = .map (some b)) (hex : a.eval x = .string ⟨s.toArray⟩) (hev : a.eval v = val) (hkey : keyOf P k (.string ⟨s.toArray⟩) = some (.string s)) (hS : Hid (Sv b w val s))
    (hK : ∀ w', Hid (TabS P k Sv w' b (ns ++ [s])) → Hid (Fr (fun k => k = b) w w') → wpList P ops Q rest (a.put dst undef) w') :
    wpList P ops Q ({ dst := dst, op := Op.insert t m x v, type := ty, pos := pos, after := after, guard := none } :: rest) a w := by
  obtain ⟨l, h1, h2, h3⟩ := HT.out
  have hll : l.length < 1000 := by rw [← h2, List.length_map] at hlen; exact hlen
  refine wpList_ins rfl m x v rfl K ht b l hem h1 (by unfold maxLen; omega) s val hex hev hkey fun w' hT hg => ?_
  have hf : Fr (fun k => k = b) w w' := Fr.of_grown hg (fun k hk _ => (Option.some.inj hk).symm)
  refine hK w' ⟨l ++ [(s, val)], hT, by simp [h2], fun q hq => ?_⟩ hf
  rcases List.mem_append.1 hq with hq | hq
  · exact hm _ _ _ _ _ hf (h3 q hq)
  · obtain rfl : q = (s, val) := by simpa using hq
    exact hm _ _ _ _ _ hf hS.out
theorem keyN {s : List UInt8} (h : s.length ≤ maxLen) : keyOf Tryz.prog 9 (.string ⟨s.toArray⟩) = some (.string s) := by
  have := keyOf_string_mk Tryz.underlying9 (s := ⟨s.toArray⟩) (by simpa [ByteArray.size] using h)
  simpa using this
theorem ksA : Keyed Tryz.prog 9 := string_keyed Tryz.underlying9

theorem srv1_neg {b : Nat} (V : World) : Srv1 b V (.func (.func 33) #[] #[]) [45] := ⟨_, _, rfl, (ent_of Tryz.func33 (by kernel_rfl) (by kernel_rfl)), fun V2 X u t hf hX h hG => by
  have e : oneP [45] t = (if t.kind = 1 then numP (-t.int) else (tZ, sAri)) := by simp [oneP]
  rw [e]
  exact ones1_v hX h hG.int⟩
theorem srv1_not {b : Nat} (V : World) : Srv1 b V (.func (.func 35) #[] #[]) [110, 111, 116] := ⟨_, _, rfl, (ent_of Tryz.func35 (by kernel_rfl) (by kernel_rfl)), fun V2 X u t hf hX h hG => by
  have e : oneP [110, 111, 116] t = (if (lgP t).2 = true then (truT (!(lgP t).1), []) else (tZ, sArg)) := by simp [oneP]
  rw [e]
  exact ones2_v hX h⟩
theorem srv1_is_integer {b : Nat} {g ga : Nat} (hg : Blk V g 89 #[.slice (some ⟨ga, 0, none⟩) 1 1]) (ha : Blk V ga 3 #[.int .i64 1]) (hgb : g ≠ b) (hab : ga ≠ b) : Srv1 b V (.func (.func 86) #[] #[.pointer (some ⟨g, 0, none⟩)]) [105, 115, 95, 105, 110, 116, 101, 103, 101, 114] := ⟨_, _, rfl, (ent_of Tryz.func86 (by kernel_rfl) (by kernel_rfl)), fun V2 X u t hf hX h hG => by
  have e : oneP [105, 115, 95, 105, 110, 116, 101, 103, 101, 114] t = (truT (([1] : List Int).contains t.kind), []) := by simp [oneP]
  rw [e]
  refine kind1_v hX h _ (hf.blk hg hgb) fun V3 hb => ?_
  have hB := (hf.blk ha hab).keep hb
  refine (Tryz.slices_Contains_int ga 0 1 1 [1] t.kind V3 (by simp) (by omega) (fun j hj => ?_)).mono ?_
  · rw [Nat.zero_add, hB.cell]
    obtain rfl : j = 0 := by simp at hj; omega
    rfl
  · rintro e w' ⟨rfl, rfl⟩
    exact ⟨rfl, Below.refl _ _⟩⟩
theorem srv1_is_atom {b : Nat} {g ga : Nat} (hg : Blk V g 89 #[.slice (some ⟨ga, 0, none⟩) 1 1]) (ha : Blk V ga 3 #[.int .i64 2]) (hgb : g ≠ b) (hab : ga ≠ b) : Srv1 b V (.func (.func 86) #[] #[.pointer (some ⟨g, 0, none⟩)]) [105, 115, 95, 97, 116, 111, 109] := ⟨_, _, rfl, (ent_of Tryz.func86 (by kernel_rfl) (by kernel_rfl)), fun V2 X u t hf hX h hG => by
  have e : oneP [105, 115, 95, 97, 116, 111, 109] t = (truT (([2] : List Int).contains t.kind), []) := by simp [oneP]
  rw [e]
  refine kind1_v hX h _ (hf.blk hg hgb) fun V3 hb => ?_
  have hB := (hf.blk ha hab).keep hb
  refine (Tryz.slices_Contains_int ga 0 1 1 [2] t.kind V3 (by simp) (by omega) (fun j hj => ?_)).mono ?_
  · rw [Nat.zero_add, hB.cell]
    obtain rfl : j = 0 := by simp at hj; omega
    rfl
  · rintro e w' ⟨rfl, rfl⟩
    exact ⟨rfl, Below.refl _ _⟩⟩
theorem srv1_is_pid {b : Nat} {g ga : Nat} (hg : Blk V g 89 #[.slice (some ⟨ga, 0, none⟩) 1 1]) (ha : Blk V ga 3 #[.int .i64 5]) (hgb : g ≠ b) (hab : ga ≠ b) : Srv1 b V (.func (.func 86) #[] #[.pointer (some ⟨g, 0, none⟩)]) [105, 115, 95, 112, 105, 100] := ⟨_, _, rfl, (ent_of Tryz.func86 (by kernel_rfl) (by kernel_rfl)), fun V2 X u t hf hX h hG => by
  have e : oneP [105, 115, 95, 112, 105, 100] t = (truT (([5] : List Int).contains t.kind), []) := by simp [oneP]
  rw [e]
  refine kind1_v hX h _ (hf.blk hg hgb) fun V3 hb => ?_
  have hB := (hf.blk ha hab).keep hb
  refine (Tryz.slices_Contains_int ga 0 1 1 [5] t.kind V3 (by simp) (by omega) (fun j hj => ?_)).mono ?_
  · rw [Nat.zero_add, hB.cell]
    obtain rfl : j = 0 := by simp at hj; omega
    rfl
  · rintro e w' ⟨rfl, rfl⟩
    exact ⟨rfl, Below.refl _ _⟩⟩
theorem srv1_is_reference {b : Nat} {g ga : Nat} (hg : Blk V g 89 #[.slice (some ⟨ga, 0, none⟩) 1 1]) (ha : Blk V ga 3 #[.int .i64 3]) (hgb : g ≠ b) (hab : ga ≠ b) : Srv1 b V (.func (.func 86) #[] #[.pointer (some ⟨g, 0, none⟩)]) [105, 115, 95, 114, 101, 102, 101, 114, 101, 110, 99, 101] := ⟨_, _, rfl, (ent_of Tryz.func86 (by kernel_rfl) (by kernel_rfl)), fun V2 X u t hf hX h hG => by
  have e : oneP [105, 115, 95, 114, 101, 102, 101, 114, 101, 110, 99, 101] t = (truT (([3] : List Int).contains t.kind), []) := by simp [oneP]
  rw [e]
  refine kind1_v hX h _ (hf.blk hg hgb) fun V3 hb => ?_
  have hB := (hf.blk ha hab).keep hb
  refine (Tryz.slices_Contains_int ga 0 1 1 [3] t.kind V3 (by simp) (by omega) (fun j hj => ?_)).mono ?_
  · rw [Nat.zero_add, hB.cell]
    obtain rfl : j = 0 := by simp at hj; omega
    rfl
  · rintro e w' ⟨rfl, rfl⟩
    exact ⟨rfl, Below.refl _ _⟩⟩
theorem srv1_is_function {b : Nat} {g ga : Nat} (hg : Blk V g 89 #[.slice (some ⟨ga, 0, none⟩) 1 1]) (ha : Blk V ga 3 #[.int .i64 4]) (hgb : g ≠ b) (hab : ga ≠ b) : Srv1 b V (.func (.func 86) #[] #[.pointer (some ⟨g, 0, none⟩)]) [105, 115, 95, 102, 117, 110, 99, 116, 105, 111, 110] := ⟨_, _, rfl, (ent_of Tryz.func86 (by kernel_rfl) (by kernel_rfl)), fun V2 X u t hf hX h hG => by
  have e : oneP [105, 115, 95, 102, 117, 110, 99, 116, 105, 111, 110] t = (truT (([4] : List Int).contains t.kind), []) := by simp [oneP]
  rw [e]
  refine kind1_v hX h _ (hf.blk hg hgb) fun V3 hb => ?_
  have hB := (hf.blk ha hab).keep hb
  refine (Tryz.slices_Contains_int ga 0 1 1 [4] t.kind V3 (by simp) (by omega) (fun j hj => ?_)).mono ?_
  · rw [Nat.zero_add, hB.cell]
    obtain rfl : j = 0 := by simp at hj; omega
    rfl
  · rintro e w' ⟨rfl, rfl⟩
    exact ⟨rfl, Below.refl _ _⟩⟩
theorem srv1_is_tuple {b : Nat} {g ga : Nat} (hg : Blk V g 89 #[.slice (some ⟨ga, 0, none⟩) 1 1]) (ha : Blk V ga 3 #[.int .i64 6]) (hgb : g ≠ b) (hab : ga ≠ b) : Srv1 b V (.func (.func 86) #[] #[.pointer (some ⟨g, 0, none⟩)]) [105, 115, 95, 116, 117, 112, 108, 101] := ⟨_, _, rfl, (ent_of Tryz.func86 (by kernel_rfl) (by kernel_rfl)), fun V2 X u t hf hX h hG => by
  have e : oneP [105, 115, 95, 116, 117, 112, 108, 101] t = (truT (([6] : List Int).contains t.kind), []) := by simp [oneP]
  rw [e]
  refine kind1_v hX h _ (hf.blk hg hgb) fun V3 hb => ?_
  have hB := (hf.blk ha hab).keep hb
  refine (Tryz.slices_Contains_int ga 0 1 1 [6] t.kind V3 (by simp) (by omega) (fun j hj => ?_)).mono ?_
  · rw [Nat.zero_add, hB.cell]
    obtain rfl : j = 0 := by simp at hj; omega
    rfl
  · rintro e w' ⟨rfl, rfl⟩
    exact ⟨rfl, Below.refl _ _⟩⟩
theorem srv1_is_list {b : Nat} {g ga : Nat} (hg : Blk V g 89 #[.slice (some ⟨ga, 0, none⟩) 2 2]) (ha : Blk V ga 3 #[.int .i64 7, .int .i64 8]) (hgb : g ≠ b) (hab : ga ≠ b) : Srv1 b V (.func (.func 86) #[] #[.pointer (some ⟨g, 0, none⟩)]) [105, 115, 95, 108, 105, 115, 116] := ⟨_, _, rfl, (ent_of Tryz.func86 (by kernel_rfl) (by kernel_rfl)), fun V2 X u t hf hX h hG => by
  have e : oneP [105, 115, 95, 108, 105, 115, 116] t = (truT (([7, 8] : List Int).contains t.kind), []) := by simp [oneP]
  rw [e]
  refine kind1_v hX h _ (hf.blk hg hgb) fun V3 hb => ?_
  have hB := (hf.blk ha hab).keep hb
  refine (Tryz.slices_Contains_int ga 0 2 2 [7, 8] t.kind V3 (by simp) (by omega) (fun j hj => ?_)).mono ?_
  · rw [Nat.zero_add, hB.cell]
    rcases (show j = 0 ∨ j = 1 by simp at hj; omega) with rfl | rfl
    · rfl
    · rfl
  · rintro e w' ⟨rfl, rfl⟩
    exact ⟨rfl, Below.refl _ _⟩⟩
theorem srv1_hd {b : Nat} {gk g : Nat} (hk : Blk V gk 3 #[.int .i64 8]) (hg : Blk V g 42 #[.func (.func 40) #[] #[]]) (hkb : gk ≠ b) (hgb : g ≠ b) : Srv1 b V (.func (.func 88) #[] #[.pointer (some ⟨gk, 0, none⟩), .pointer (some ⟨g, 0, none⟩)]) [104, 100] := ⟨_, _, rfl, (ent_of Tryz.func88 (by kernel_rfl) (by kernel_rfl)), fun V2 X u t hf hX h hG => by
  have e : oneP [104, 100] t = (if t.kind = 8 then (t.items.getD 0 tZ, []) else (tZ, sArg)) := by simp [oneP]
  rw [e]
  refine of1_v hX h 8 (ent_of Tryz.func40 (by kernel_rfl) (by kernel_rfl)) (hf.blk hk hkb) (hf.blk hg hgb) (f := (t.items.getD 0 tZ, [])) fun hk8 V3 X' hb hX2 hT => ?_
  · have hl := hG.cons hk8
    rw [show t.items.getD 0 tZ = t.items[0] by simp [List.getD, hl]]
    exact ones3_v hX2 hT (by omega)⟩
theorem srv1_tl {b : Nat} {gk g : Nat} (hk : Blk V gk 3 #[.int .i64 8]) (hg : Blk V g 42 #[.func (.func 41) #[] #[]]) (hkb : gk ≠ b) (hgb : g ≠ b) : Srv1 b V (.func (.func 88) #[] #[.pointer (some ⟨gk, 0, none⟩), .pointer (some ⟨g, 0, none⟩)]) [116, 108] := ⟨_, _, rfl, (ent_of Tryz.func88 (by kernel_rfl) (by kernel_rfl)), fun V2 X u t hf hX h hG => by
  have e : oneP [116, 108] t = (if t.kind = 8 then (t.items.getD 1 tZ, []) else (tZ, sArg)) := by simp [oneP]
  rw [e]
  refine of1_v hX h 8 (ent_of Tryz.func41 (by kernel_rfl) (by kernel_rfl)) (hf.blk hk hkb) (hf.blk hg hgb) (f := (t.items.getD 1 tZ, [])) fun hk8 V3 X' hb hX2 hT => ?_
  · have hl := hG.cons hk8
    rw [show t.items.getD 1 tZ = t.items[1] by simp [List.getD, hl]]
    exact ones4_v hX2 hT (by omega)⟩
theorem srv1_tuple_size {b : Nat} {gk g : Nat} (hk : Blk V gk 3 #[.int .i64 6]) (hg : Blk V g 42 #[.func (.func 42) #[] #[]]) (hkb : gk ≠ b) (hgb : g ≠ b) : Srv1 b V (.func (.func 88) #[] #[.pointer (some ⟨gk, 0, none⟩), .pointer (some ⟨g, 0, none⟩)]) [116, 117, 112, 108, 101, 95, 115, 105, 122, 101] := ⟨_, _, rfl, (ent_of Tryz.func88 (by kernel_rfl) (by kernel_rfl)), fun V2 X u t hf hX h hG => by
  have e : oneP [116, 117, 112, 108, 101, 95, 115, 105, 122, 101] t = (if t.kind = 6 then (tI (t.items.length : Nat), []) else (tZ, sArg)) := by simp [oneP]
  rw [e]
  refine of1_v hX h 6 (ent_of Tryz.func42 (by kernel_rfl) (by kernel_rfl)) (hf.blk hk hkb) (hf.blk hg hgb) (f := (tI (t.items.length : Nat), [])) fun hk8 V3 X' hb hX2 hT => ?_
  · exact ones5_v hX2 hT⟩
theorem srv1_tuple_to_list {b : Nat} {gk g : Nat} (hk : Blk V gk 3 #[.int .i64 6]) (hg : Blk V g 42 #[.func (.func 44) #[] #[]]) (hkb : gk ≠ b) (hgb : g ≠ b) : Srv1 b V (.func (.func 88) #[] #[.pointer (some ⟨gk, 0, none⟩), .pointer (some ⟨g, 0, none⟩)]) [116, 117, 112, 108, 101, 95, 116, 111, 95, 108, 105, 115, 116] := ⟨_, _, rfl, (ent_of Tryz.func88 (by kernel_rfl) (by kernel_rfl)), fun V2 X u t hf hX h hG => by
  have e : oneP [116, 117, 112, 108, 101, 95, 116, 111, 95, 108, 105, 115, 116] t = (if t.kind = 6 then fitP (lstT t.items) else (tZ, sArg)) := by simp [oneP]
  rw [e]
  refine of1_v hX h 6 (ent_of Tryz.func44 (by kernel_rfl) (by kernel_rfl)) (hf.blk hk hkb) (hf.blk hg hgb) (f := fitP (lstT t.items)) fun hk8 V3 X' hb hX2 hT => ?_
  · exact ones6_v hX2 hT hG.len⟩
theorem srv1_length {b : Nat} {g : Nat} (hg : Blk V g 70 #[.func (.func 47) #[] #[]]) (hgb : g ≠ b) : Srv1 b V (.func (.func 91) #[] #[.pointer (some ⟨g, 0, none⟩)]) [108, 101, 110, 103, 116, 104] := ⟨_, _, rfl, (ent_of Tryz.func91 (by kernel_rfl) (by kernel_rfl)), fun V2 X u t hf hX h hG => by
  have e : oneP [108, 101, 110, 103, 116, 104] t = ((elsT t).elim (tZ, sArg) (fun l => (tI (l.length : Nat), []))) := by simp [oneP]
  rw [e]
  refine list1_v hX h (ent_of Tryz.func47 (by kernel_rfl) (by kernel_rfl)) (hf.blk hg hgb) hG.parts (f := (fun l => (tI (l.length : Nat), []))) fun l hE V3 B v cs X' hb hWB hBV hX2 ho hs => ?_
  exact (ones7_v (fun k hk => Nat.lt_of_lt_of_le (hX2 k hk) hBV) (lex_own ho hX2 (std_weak hs (fun k hk => .inl hk))).1).mono (by rintro e w' ⟨v, rfl, hT, hb2⟩; exact ⟨v, rfl, hT, hb2.mono hBV⟩)⟩
theorem srv1_list_to_tuple {b : Nat} {g : Nat} (hg : Blk V g 70 #[.func (.func 48) #[] #[]]) (hgb : g ≠ b) : Srv1 b V (.func (.func 91) #[] #[.pointer (some ⟨g, 0, none⟩)]) [108, 105, 115, 116, 95, 116, 111, 95, 116, 117, 112, 108, 101] := ⟨_, _, rfl, (ent_of Tryz.func91 (by kernel_rfl) (by kernel_rfl)), fun V2 X u t hf hX h hG => by
  have e : oneP [108, 105, 115, 116, 95, 116, 111, 95, 116, 117, 112, 108, 101] t = ((elsT t).elim (tZ, sArg) (fun l => (tT l, []))) := by simp [oneP]
  rw [e]
  refine list1_v hX h (ent_of Tryz.func48 (by kernel_rfl) (by kernel_rfl)) (hf.blk hg hgb) hG.parts (f := (fun l => (tT l, []))) fun l hE V3 B v cs X' hb hWB hBV hX2 ho hs => ?_
  exact (ones8_v (fun k hk => Nat.lt_of_lt_of_le (hX2 k hk) hBV) (lex_own ho hX2 (std_weak hs (fun k hk => .inl hk))).1 (by have := (elsT_len t.parts t l (Nat.le_refl _) hE).1; have := hG.parts; omega)).mono (by rintro e w' ⟨v, rfl, hT, hb2⟩; exact ⟨v, rfl, hT, hb2.mono hBV⟩)⟩
theorem srv1_reverse {b : Nat} {g : Nat} (hg : Blk V g 70 #[.func (.func 49) #[] #[]]) (hgb : g ≠ b) : Srv1 b V (.func (.func 91) #[] #[.pointer (some ⟨g, 0, none⟩)]) [114, 101, 118, 101, 114, 115, 101] := ⟨_, _, rfl, (ent_of Tryz.func91 (by kernel_rfl) (by kernel_rfl)), fun V2 X u t hf hX h hG => by
  have e : oneP [114, 101, 118, 101, 114, 115, 101] t = ((elsT t).elim (tZ, sArg) (fun l => (lstT l.reverse, []))) := by simp [oneP]
  rw [e]
  refine list1_v hX h (ent_of Tryz.func49 (by kernel_rfl) (by kernel_rfl)) (hf.blk hg hgb) hG.parts (f := (fun l => (lstT l.reverse, []))) fun l hE V3 B v cs X' hb hWB hBV hX2 ho hs => ?_
  exact ones9_v ho hX2 hs hBV (by have := (elsT_len t.parts t l (Nat.le_refl _) hE).1; have := hG.parts; omega)⟩
theorem srv2_add {b : Nat} {g : Nat} (hg : Blk V g 73 #[.func (.func 52) #[] #[]]) (hgb : g ≠ b) : Srv2 b V (.func (.func 92) #[] #[.pointer (some ⟨g, 0, none⟩)]) [43] := ⟨_, _, rfl, (ent_of Tryz.func92 (by kernel_rfl) (by kernel_rfl)), fun V2 X u1 t1 u2 t2 hf hX h1 h2 hG1 hG2 => by
  have e : twoP [43] t1 t2 = (if t1.kind = 1 ∧ t2.kind = 1 then numP (t1.int + t2.int) else (tZ, sAri)) := by simp [twoP]
  rw [e]
  exact numbers1_v hX h1 h2 (ent_of Tryz.func52 (by kernel_rfl) (by kernel_rfl)) (hf.blk hg hgb) (f := numP (t1.int + t2.int)) fun _ _ V3 X' hb hX2 => twos1_v hX2 _ _ hG1.int hG2.int⟩
theorem srv2_sub {b : Nat} {g : Nat} (hg : Blk V g 73 #[.func (.func 53) #[] #[]]) (hgb : g ≠ b) : Srv2 b V (.func (.func 92) #[] #[.pointer (some ⟨g, 0, none⟩)]) [45] := ⟨_, _, rfl, (ent_of Tryz.func92 (by kernel_rfl) (by kernel_rfl)), fun V2 X u1 t1 u2 t2 hf hX h1 h2 hG1 hG2 => by
  have e : twoP [45] t1 t2 = (if t1.kind = 1 ∧ t2.kind = 1 then numP (t1.int - t2.int) else (tZ, sAri)) := by simp [twoP]
  rw [e]
  exact numbers1_v hX h1 h2 (ent_of Tryz.func53 (by kernel_rfl) (by kernel_rfl)) (hf.blk hg hgb) (f := numP (t1.int - t2.int)) fun _ _ V3 X' hb hX2 => twos2_v hX2 _ _ hG1.int hG2.int⟩
theorem srv2_mul {b : Nat} {g : Nat} (hg : Blk V g 73 #[.func (.func 54) #[] #[]]) (hgb : g ≠ b) : Srv2 b V (.func (.func 92) #[] #[.pointer (some ⟨g, 0, none⟩)]) [42] := ⟨_, _, rfl, (ent_of Tryz.func92 (by kernel_rfl) (by kernel_rfl)), fun V2 X u1 t1 u2 t2 hf hX h1 h2 hG1 hG2 => by
  have e : twoP [42] t1 t2 = (if t1.kind = 1 ∧ t2.kind = 1 then numP (t1.int * t2.int) else (tZ, sAri)) := by simp [twoP]
  rw [e]
  exact numbers1_v hX h1 h2 (ent_of Tryz.func54 (by kernel_rfl) (by kernel_rfl)) (hf.blk hg hgb) (f := numP (t1.int * t2.int)) fun _ _ V3 X' hb hX2 => product_v hX2 _ _ hG1.int hG2.int⟩
theorem srv2_div {b : Nat} {g1 g : Nat} (hg1 : Blk V g1 75 #[.func (.func 56) #[] #[]]) (hg : Blk V g 73 #[.func (.func 95) #[] #[.pointer (some ⟨g1, 0, none⟩)]]) (hgb1 : g1 ≠ b) (hgb : g ≠ b) : Srv2 b V (.func (.func 92) #[] #[.pointer (some ⟨g, 0, none⟩)]) [100, 105, 118] := ⟨_, _, rfl, (ent_of Tryz.func92 (by kernel_rfl) (by kernel_rfl)), fun V2 X u1 t1 u2 t2 hf hX h1 h2 hG1 hG2 => by
  have e : twoP [100, 105, 118] t1 t2 = (if t1.kind = 1 ∧ t2.kind = 1 then (if t2.int = 0 then (tZ, sAri) else numP (t1.int.tdiv t2.int)) else (tZ, sAri)) := by simp [twoP]
  rw [e]
  refine numbers1_v hX h1 h2 (ent_of Tryz.func95 (by kernel_rfl) (by kernel_rfl)) (hf.blk hg hgb) (f := if t2.int = 0 then (tZ, sAri) else numP (t1.int.tdiv t2.int)) fun _ _ V3 X' hb hX2 => ?_
  exact parts1_v hX2 t1.int t2.int _ (ent_of Tryz.func56 (by kernel_rfl) (by kernel_rfl)) ((hf.blk hg1 hgb1).keep hb) fun h0 V4 hb4 => twos3_v _ _ h0 hG1.int V4⟩
theorem srv2_rem {b : Nat} {g1 g : Nat} (hg1 : Blk V g1 75 #[.func (.func 57) #[] #[]]) (hg : Blk V g 73 #[.func (.func 95) #[] #[.pointer (some ⟨g1, 0, none⟩)]]) (hgb1 : g1 ≠ b) (hgb : g ≠ b) : Srv2 b V (.func (.func 92) #[] #[.pointer (some ⟨g, 0, none⟩)]) [114, 101, 109] := ⟨_, _, rfl, (ent_of Tryz.func92 (by kernel_rfl) (by kernel_rfl)), fun V2 X u1 t1 u2 t2 hf hX h1 h2 hG1 hG2 => by
  have e : twoP [114, 101, 109] t1 t2 = (if t1.kind = 1 ∧ t2.kind = 1 then (if t2.int = 0 then (tZ, sAri) else numP (t1.int.tmod t2.int)) else (tZ, sAri)) := by simp [twoP]
  rw [e]
  refine numbers1_v hX h1 h2 (ent_of Tryz.func95 (by kernel_rfl) (by kernel_rfl)) (hf.blk hg hgb) (f := if t2.int = 0 then (tZ, sAri) else numP (t1.int.tmod t2.int)) fun _ _ V3 X' hb hX2 => ?_
  exact parts1_v hX2 t1.int t2.int _ (ent_of Tryz.func57 (by kernel_rfl) (by kernel_rfl)) ((hf.blk hg1 hgb1).keep hb) fun h0 V4 hb4 => twos4_v _ _ h0 hG1.int V4⟩
theorem srv2_eq {b : Nat} {g : Nat} (hg : Blk V g 77 #[.func (.func 59) #[] #[]]) (hgb : g ≠ b) : Srv2 b V (.func (.func 96) #[] #[.pointer (some ⟨g, 0, none⟩)]) [61, 61] := ⟨_, _, rfl, (ent_of Tryz.func96 (by kernel_rfl) (by kernel_rfl)), fun V2 X u1 t1 u2 t2 hf hX h1 h2 hG1 hG2 => by
  have e : twoP [61, 61] t1 t2 = (truT (t1.cmp t2 == 0), []) := by simp [twoP]
  rw [e]
  exact order1_v hX h1 h2 _ (ent_of Tryz.func59 (by kernel_rfl) (by kernel_rfl)) (hf.blk hg hgb) fun V3 hb => twos5_v _ V3⟩
theorem srv2_ne {b : Nat} {g : Nat} (hg : Blk V g 77 #[.func (.func 60) #[] #[]]) (hgb : g ≠ b) : Srv2 b V (.func (.func 96) #[] #[.pointer (some ⟨g, 0, none⟩)]) [47, 61] := ⟨_, _, rfl, (ent_of Tryz.func96 (by kernel_rfl) (by kernel_rfl)), fun V2 X u1 t1 u2 t2 hf hX h1 h2 hG1 hG2 => by
  have e : twoP [47, 61] t1 t2 = (truT (t1.cmp t2 != 0), []) := by simp [twoP]
  rw [e]
  exact order1_v hX h1 h2 _ (ent_of Tryz.func60 (by kernel_rfl) (by kernel_rfl)) (hf.blk hg hgb) fun V3 hb => twos6_v _ V3⟩
theorem srv2_lt {b : Nat} {g : Nat} (hg : Blk V g 77 #[.func (.func 61) #[] #[]]) (hgb : g ≠ b) : Srv2 b V (.func (.func 96) #[] #[.pointer (some ⟨g, 0, none⟩)]) [60] := ⟨_, _, rfl, (ent_of Tryz.func96 (by kernel_rfl) (by kernel_rfl)), fun V2 X u1 t1 u2 t2 hf hX h1 h2 hG1 hG2 => by
  have e : twoP [60] t1 t2 = (truT (decide (t1.cmp t2 < 0)), []) := by simp [twoP]
  rw [e]
  exact order1_v hX h1 h2 _ (ent_of Tryz.func61 (by kernel_rfl) (by kernel_rfl)) (hf.blk hg hgb) fun V3 hb => twos7_v _ V3⟩
theorem srv2_gt {b : Nat} {g : Nat} (hg : Blk V g 77 #[.func (.func 62) #[] #[]]) (hgb : g ≠ b) : Srv2 b V (.func (.func 96) #[] #[.pointer (some ⟨g, 0, none⟩)]) [62] := ⟨_, _, rfl, (ent_of Tryz.func96 (by kernel_rfl) (by kernel_rfl)), fun V2 X u1 t1 u2 t2 hf hX h1 h2 hG1 hG2 => by
  have e : twoP [62] t1 t2 = (truT (decide (0 < t1.cmp t2)), []) := by simp [twoP]
  rw [e]
  exact order1_v hX h1 h2 _ (ent_of Tryz.func62 (by kernel_rfl) (by kernel_rfl)) (hf.blk hg hgb) fun V3 hb => twos8_v _ V3⟩
theorem srv2_le {b : Nat} {g : Nat} (hg : Blk V g 77 #[.func (.func 63) #[] #[]]) (hgb : g ≠ b) : Srv2 b V (.func (.func 96) #[] #[.pointer (some ⟨g, 0, none⟩)]) [61, 60] := ⟨_, _, rfl, (ent_of Tryz.func96 (by kernel_rfl) (by kernel_rfl)), fun V2 X u1 t1 u2 t2 hf hX h1 h2 hG1 hG2 => by
  have e : twoP [61, 60] t1 t2 = (truT (decide (t1.cmp t2 ≤ 0)), []) := by simp [twoP]
  rw [e]
  exact order1_v hX h1 h2 _ (ent_of Tryz.func63 (by kernel_rfl) (by kernel_rfl)) (hf.blk hg hgb) fun V3 hb => twos9_v _ V3⟩
theorem srv2_ge {b : Nat} {g : Nat} (hg : Blk V g 77 #[.func (.func 64) #[] #[]]) (hgb : g ≠ b) : Srv2 b V (.func (.func 96) #[] #[.pointer (some ⟨g, 0, none⟩)]) [62, 61] := ⟨_, _, rfl, (ent_of Tryz.func96 (by kernel_rfl) (by kernel_rfl)), fun V2 X u1 t1 u2 t2 hf hX h1 h2 hG1 hG2 => by
  have e : twoP [62, 61] t1 t2 = (truT (decide (0 ≤ t1.cmp t2)), []) := by simp [twoP]
  rw [e]
  exact order1_v hX h1 h2 _ (ent_of Tryz.func64 (by kernel_rfl) (by kernel_rfl)) (hf.blk hg hgb) fun V3 hb => twos10_v _ V3⟩
theorem srv2_and {b : Nat} {g : Nat} (hg : Blk V g 79 #[.func (.func 66) #[] #[]]) (hgb : g ≠ b) : Srv2 b V (.func (.func 98) #[] #[.pointer (some ⟨g, 0, none⟩)]) [97, 110, 100] := ⟨_, _, rfl, (ent_of Tryz.func98 (by kernel_rfl) (by kernel_rfl)), fun V2 X u1 t1 u2 t2 hf hX h1 h2 hG1 hG2 => by
  have e : twoP [97, 110, 100] t1 t2 = (if (lgP t1).2 = true ∧ (lgP t2).2 = true then (truT ((lgP t1).1 && (lgP t2).1), []) else (tZ, sArg)) := by simp [twoP]
  rw [e]
  exact truths1_v hX h1 h2 _ (ent_of Tryz.func66 (by kernel_rfl) (by kernel_rfl)) (hf.blk hg hgb) fun V3 hb => twos11_v _ _ V3⟩
theorem srv2_or {b : Nat} {g : Nat} (hg : Blk V g 79 #[.func (.func 67) #[] #[]]) (hgb : g ≠ b) : Srv2 b V (.func (.func 98) #[] #[.pointer (some ⟨g, 0, none⟩)]) [111, 114] := ⟨_, _, rfl, (ent_of Tryz.func98 (by kernel_rfl) (by kernel_rfl)), fun V2 X u1 t1 u2 t2 hf hX h1 h2 hG1 hG2 => by
  have e : twoP [111, 114] t1 t2 = (if (lgP t1).2 = true ∧ (lgP t2).2 = true then (truT ((lgP t1).1 || (lgP t2).1), []) else (tZ, sArg)) := by simp [twoP]
  rw [e]
  exact truths1_v hX h1 h2 _ (ent_of Tryz.func67 (by kernel_rfl) (by kernel_rfl)) (hf.blk hg hgb) fun V3 hb => twos12_v _ _ V3⟩
theorem srv2_cons {b : Nat} (V : World) : Srv2 b V (.func (.func 68) #[] #[]) [99, 111, 110, 115] := ⟨_, _, rfl, (ent_of Tryz.func68 (by kernel_rfl) (by kernel_rfl)), fun V2 X u1 t1 u2 t2 hf hX h1 h2 hG1 hG2 => by
  have e : twoP [99, 111, 110, 115] t1 t2 = fitP (tC t1 t2) := by simp [twoP]
  rw [e]
  exact twos13_v hX h1 h2⟩
theorem srv2_element {b : Nat} (V : World) : Srv2 b V (.func (.func 70) #[] #[]) [101, 108, 101, 109, 101, 110, 116] := ⟨_, _, rfl, (ent_of Tryz.func70 (by kernel_rfl) (by kernel_rfl)), fun V2 X u1 t1 u2 t2 hf hX h1 h2 hG1 hG2 => by
  have e : twoP [101, 108, 101, 109, 101, 110, 116] t1 t2 = (if t1.kind = 1 ∧ t2.kind = 6 ∧ 1 ≤ t1.int ∧ t1.int ≤ (t2.items.length : Nat) then (t2.items.getD (t1.int - 1).toNat tZ, []) else (tZ, sArg)) := by simp [twoP]
  rw [e]
  exact twos14_v hX h1 h2 hG1.int⟩
theorem srv2_append {b : Nat} (V : World) : Srv2 b V (.func (.func 71) #[] #[]) [97, 112, 112, 101, 110, 100] := ⟨_, _, rfl, (ent_of Tryz.func71 (by kernel_rfl) (by kernel_rfl)), fun V2 X u1 t1 u2 t2 hf hX h1 h2 hG1 hG2 => by
  have e : twoP [97, 112, 112, 101, 110, 100] t1 t2 = ((elsT t1).elim (tZ, sArg) (fun l => fitP (lstE l t2))) := by simp [twoP]
  rw [e]
  exact twos15_v hX h1 h2 hG1.parts⟩
end
end Go.Proofs.YtbpnlpjbjmojfaaGreat
