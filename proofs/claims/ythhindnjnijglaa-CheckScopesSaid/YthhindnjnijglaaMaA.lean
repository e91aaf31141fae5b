/- Maps of the call's own: an entry is found, then stored into (two operations); sorted lists of bytes. No program is named here. Layer 13, bindings and patterns as plain functions: names with values, the last one counts; by rising names; a term against a pattern. No program is named here. -/
import Derived.Test.YthhindnjnijglaaFr
import Derived.Maps.OwnSet
import Derived.WideKeyEntry
import Derived.ChangeMaps5
import Derived.Maps.StringElems
import Derived.Sort.KeysCollected
import Derived.Test.YthhindnjnijglaaPaD
import Derived.Test.YthhindnjnijglaaTermX
namespace Go.Proofs.Ythhindnjnijglaa
section
open Go.RowKit Go.Maps Go.MapKept
open Go.WideElems (findIdx_born findIdx_arr modify_last set_self Fit rd rg pl)
open Go.ChangeMaps (setBlock modify_eq_set heap_setBlock_same heap_setBlock_other)
set_option linter.unusedVariables false

section
variable {H : Type} {P : Program} {w : World} {t k e : TypeId} {R : Value → Option (DataW H × List MemPlace)} {b n : Nat} {D : DataW H}

/-- m[k] = v in two operations: the entry, then the store; between them other blocks may turn. -/
theorem entry_store (h : w.ownsMap P k R b n D) (K : Keyed P k) (ht : P.underlying t = some (.map k e)) {z : Value} (hz : ∀ u : World, (zeroValue e).run P u = .ok z u) (hn : n < maxLen) {key val : Value} {kl : Lit} {d : DataW H} {ps : List MemPlace}
    (hkey : keyOf P k key = some kl) (hv : R val = some (d, ps)) :
    ∃ (v0 : Value) (st : Nat) (w1 : World), (Instr.mapEntry t (.map (some b)) key).run P w = .ok (.tuple #[v0, goInt st]) w1 ∧ w.grownBy w1 (some b) ∧
      ∀ w2 : World, w2.heap[b]? = w1.heap[b]? → ∃ w3, (Instr.entryStore t (.map (some b)) (goInt st) val).run P w2 = .ok () w3 ∧ w3.ownsMap P k R b (n + 1) (D.put kl d) ∧ w2.grownBy w3 (some b) := by
  obtain ⟨wu, hrunU, hownU, hturnU⟩ := h.store K ht hn hkey hv
  obtain ⟨es, clock, hb, F, hs, rfl⟩ := h
  obtain ⟨s1, s2, _⟩ := F.stamped
  have gr : ∀ (V : World) (es9 : Array MapEntry) (c9 : Nat) (o' : Obj), V.heap[b]? = some (.map es9 c9) → V.grownBy (setBlock V b o') (some b) := fun V es9 c9 o' ho =>
    ⟨rfl, rfl, rfl, by simp [setBlock], fun i _ hi => heap_setBlock_other ho o' (fun e9 => hi (by rw [e9]))⟩
  have fin : ∀ (w2 : World) (es1 es' : Array MapEntry) (c1 clock' : Nat), w2.heap[b]? = some (.map es1 c1) → (Instr.mapUpdate t (.map (some b)) key val).run P w = .ok () (setBlock w b (.map es' clock')) →
      (setBlock w2 b (.map es' clock')).ownsMap P k R b (n + 1) ((DataW.map ((es.toList.map (rg P k R)).foldr DataW.insert [])).put kl d) := fun w2 es1 es' c1 clock' h2 hu => by
    rw [hrunU] at hu
    injection hu with _ hu
    subst hu
    obtain ⟨es9, c9, hb9, F9, hs9, hD9⟩ := hownU
    rw [heap_setBlock_same hb] at hb9
    injection hb9 with hb9
    injection hb9 with h91 h92
    subst h91
    subst h92
    exact ⟨_, _, heap_setBlock_same h2 _, F9, hs9, hD9⟩
  rcases K.find w hkey es.toList F.keys with ⟨h1, h2⟩ | ⟨j, e0, h1, h2, h3⟩
  · refine ⟨z, clock, setBlock w b (.map (es.push ⟨key, z, clock⟩) (clock + 1)), ?_, gr _ _ _ _ hb, fun w2 hw2 => ?_⟩
    · simp [Instr.mapEntry, run_underlying ht, MapKept.run_getObj_map hb, K.check w false hkey, h1, hz, MapKept.run_setObj_map _ hb, Result.andThen, setBlock]
    · rw [heap_setBlock_same hb] at hw2
      have hidx : (es.push ⟨key, z, clock⟩).findIdx? (fun e => ((e.born : Nat) : Int) == ((clock : Nat) : Int)) = some es.size := by
        rw [findIdx_arr]
        have := findIdx_born (l := (es.push ⟨key, z, clock⟩).toList) (j := es.size) (e0 := ⟨key, z, clock⟩) (by
          simp only [Array.toList_push, List.map_append, List.map_cons, List.map_nil]
          refine List.nodup_append.2 ⟨s2, by simp, fun a ha c hc e1 => ?_⟩
          simp only [List.mem_singleton] at hc
          obtain ⟨x, hx, rfl⟩ := List.mem_map.1 ha
          have := s1 x hx
          omega) (by simp)
        exact this
      have hmod : (es.push ⟨key, z, clock⟩).modify es.size (fun e => { e with val := val }) = es.push ⟨key, val, clock⟩ := by
        apply Array.ext'
        rw [Array.toList_modify, Array.toList_push, Array.toList_push, ← Array.length_toList, modify_last]
      refine ⟨setBlock w2 b (.map (es.push ⟨key, val, clock⟩) (clock + 1)), ?_, fin w2 _ _ _ _ hw2 ?_, gr _ _ _ _ hw2⟩
      · simp [Instr.entryStore, MapKept.run_getObj_map hw2, asInt, asIntOf, goInt, hidx, hmod, MapKept.run_setObj_map _ hw2, Result.andThen, setBlock]
      · simp [Instr.mapUpdate, run_underlying ht, MapKept.run_getObj_map hb, K.check w false hkey, h1, MapKept.run_setObj_map _ hb, Result.andThen, setBlock]
  · have hj : es[j]? = some e0 := by simpa using h2
    have hsame : es.modify j (fun e => { e with key := key }) = es := by
      apply Array.ext'
      rw [Array.toList_modify, modify_eq_set _ _ _ _ h2]
      have : ({ e0 with key := key } : MapEntry) = e0 := by rw [← h3]
      rw [this]
      exact set_self _ _ _ h2
    refine ⟨e0.val, e0.born, setBlock w b (.map es clock), ?_, gr _ _ _ _ hb, fun w2 hw2 => ?_⟩
    · simp [Instr.mapEntry, run_underlying ht, MapKept.run_getObj_map hb, K.check w false hkey, h1, hj, h3, K.stays w hkey, hsame, MapKept.run_setObj_map _ hb, Result.andThen, setBlock]
    · rw [heap_setBlock_same hb] at hw2
      have hidx : es.findIdx? (fun e => ((e.born : Nat) : Int) == ((e0.born : Nat) : Int)) = some j := by
        rw [findIdx_arr]
        exact findIdx_born s2 h2
      have hmod : es.modify j (fun e => { e with val := val }) = es.modify j (fun e' => { e' with key := key, val := val }) := by
        apply Array.ext'
        rw [Array.toList_modify, Array.toList_modify, modify_eq_set _ _ _ _ h2, modify_eq_set _ _ _ _ h2, ← h3]
      refine ⟨setBlock w2 b (.map (es.modify j (fun e' => { e' with key := key, val := val })) clock), ?_, fin w2 _ _ _ _ hw2 ?_, gr _ _ _ _ hw2⟩
      · simp [Instr.entryStore, MapKept.run_getObj_map hw2, asInt, asIntOf, goInt, hidx, hmod, MapKept.run_setObj_map _ hw2, Result.andThen, setBlock]
      · simp [Instr.mapUpdate, run_underlying ht, MapKept.run_getObj_map hb, K.check w false hkey, h1, hj, h3, K.stays w hkey, MapKept.run_setObj_map _ hb, Result.andThen, setBlock]

/-- The bound is what is there. -/
theorem owns_size (h : w.ownsMap P k R b n D) : w.ownsMap P k R b (Maps.size D) D := by
  obtain ⟨es, clock, hb, F, hs, rfl⟩ := h
  exact ⟨es, clock, hb, F, by simp [Maps.size, length_sorted], rfl⟩
theorem owns_fr {F : Nat → Prop} {w' : World} (h : w.ownsMap P k R b n D) (hf : Fr F w w') (hn : ¬ F b) : w'.ownsMap P k R b n D := by
  have hlt := h.lt
  obtain ⟨es, clock, hb, r⟩ := h
  exact ⟨es, clock, (hf.block b hlt hn).trans hb, r⟩
theorem owns_keep {w' : World} (h : w.ownsMap P k R b n D) (hb : Below w.heap.size w w') : w'.ownsMap P k R b n D := owns_fr h (Fr.of_below hb (fun _ => False)) (fun h => h)
theorem owns_blk {g t' : Nat} {cs : Array Value} (h : w.ownsMap P k R b n D) (hB : Blk w g t' cs) : g ≠ b := by
  rintro rfl
  obtain ⟨es, clock, hb, r⟩ := h
  unfold Blk at hB
  rw [hB] at hb
  injection hb with hb
  cases hb
end

/-! ### lists of bytes in their order -/
theorem before_iff : ∀ (a b : List UInt8), bytesBefore a b = true ↔ a < b
  | [], [] => by simp [bytesBefore]
  | [], _ :: _ => by simp [bytesBefore]
  | _ :: _, [] => by simp [bytesBefore]
  | a :: r, b :: s => by
    have ih := before_iff r s
    simp only [bytesBefore, Bool.or_eq_true, decide_eq_true_eq, Bool.and_eq_true, beq_iff_eq, ih, List.cons_lt_cons_iff]
end
section
open Go.RowKit
set_option linter.unusedVariables false

theorem lessB_iff : ∀ (a b : List UInt8), Op.bytesLess a b = true ↔ a < b
  | [], [] => by simp [Op.bytesLess]
  | [], _ :: _ => by simp [Op.bytesLess]
  | _ :: _, [] => by simp [Op.bytesLess]
  | a :: r, b :: s => by
    have ih := lessB_iff r s
    simp only [Op.bytesLess, Bool.or_eq_true, decide_eq_true_eq, Bool.and_eq_true, beq_iff_eq, ih, List.cons_lt_cons_iff]

section
variable {α β : Type}
/-- A name with something. -/
abbrev BG (α : Type) := List UInt8 × α
/-- What a name is bound to: the last one. -/
def getG (s : List UInt8) : List (BG α) → Option α
  | [] => none
  | b :: r => match getG s r with
    | some v => some v
    | none => if b.1 = s then some b.2 else none
/-- Into rising ones: a name that is there has its value replaced. -/
def insG (b : BG α) : List (BG α) → List (BG α)
  | [] => [b]
  | x :: r => if Op.bytesLess x.1 b.1 then x :: insG b r else if x.1 = b.1 then (x.1, b.2) :: r else b :: x :: r
def risG (E : List (BG α)) : List (BG α) := E.foldl (fun out b => insG b out) []
/-- By rising names, each once. -/
def SrtG (L : List (BG α)) : Prop := L.Pairwise (fun p q => p.1 < q.1)

theorem snoc_rec {γ : Type} {P : List γ → Prop} (h0 : P []) (h1 : ∀ E b, P E → P (E ++ [b])) (l : List γ) : P l := by
  rw [← List.reverse_reverse l]
  induction l.reverse with
  | nil => exact h0
  | cons x r ih => rw [List.reverse_cons]; exact h1 _ _ ih
theorem getG_snoc (s : List UInt8) (b : BG α) (E : List (BG α)) : getG s (E ++ [b]) = if b.1 = s then some b.2 else getG s E := by
  induction E with
  | nil => simp [getG]
  | cons x r ih =>
    simp only [List.cons_append, getG, ih]
    by_cases h : b.1 = s <;> simp [h]
theorem getG_map (f : α → β) (s : List UInt8) (E : List (BG α)) : getG s (E.map fun q => (q.1, f q.2)) = (getG s E).map f := by
  induction E with
  | nil => rfl
  | cons x r ih =>
    simp only [List.map_cons, getG, ih]
    cases getG s r with
    | some v => rfl
    | none => by_cases h : x.1 = s <;> simp [h]
theorem getG_mem {s : List UInt8} {v : α} {E : List (BG α)} (h : getG s E = some v) : (s, v) ∈ E := by
  induction E with
  | nil => simp [getG] at h
  | cons x r ih =>
    simp only [getG] at h
    split at h
    · rename_i w hw
      cases h
      exact List.mem_cons_of_mem _ (ih hw)
    · split at h
      · rename_i hs
        cases h
        subst hs
        exact List.mem_cons_self ..
      · cases h
theorem getG_none {s : List UInt8} {E : List (BG α)} : getG s E = none ↔ ∀ b ∈ E, b.1 ≠ s := by
  induction E with
  | nil => simp [getG]
  | cons x r ih =>
    simp only [getG]
    constructor
    · intro h b hb
      split at h
      · cases h
      · rename_i hn
        split at h
        · cases h
        · rename_i hs
          rcases List.mem_cons.1 hb with rfl | hb
          · exact hs
          · exact ih.1 hn b hb
    · intro h
      rw [ih.2 fun b hb => h b (List.mem_cons_of_mem _ hb)]
      simp [h x (List.mem_cons_self ..)]
theorem getG_take {s : List UInt8} {E : List (BG α)} {k : Nat} (hk : k < E.length) : getG s (E.take (k + 1)) = if E[k].1 = s then some E[k].2 else getG s (E.take k) := by
  rw [List.take_succ_eq_append_getElem hk, getG_snoc]
theorem lt_ne {a b : List UInt8} (h : a < b) : a ≠ b := fun e => List.lt_irrefl _ (e ▸ h)
theorem getG_srt {s : List UInt8} {v : α} {L : List (BG α)} (h : SrtG L) : getG s L = some v ↔ (s, v) ∈ L := by
  refine ⟨getG_mem, fun hm => ?_⟩
  induction L with
  | nil => simp at hm
  | cons x r ih =>
    obtain ⟨h1, h2⟩ := List.pairwise_cons.1 h
    rcases List.mem_cons.1 hm with rfl | hm
    · have : getG s r = none := getG_none.2 fun q hq e => lt_ne (h1 q hq) e.symm
      simp [getG, this]
    · simp [getG, ih h2 hm]
theorem insG_map (f : α → β) (b : BG α) (L : List (BG α)) : insG (b.1, f b.2) (L.map fun q => (q.1, f q.2)) = (insG b L).map fun q => (q.1, f q.2) := by
  induction L with
  | nil => rfl
  | cons x r ih =>
    simp only [List.map_cons, insG]
    split
    · rw [ih]; rfl
    · split <;> rfl
theorem risG_snoc (E : List (BG α)) (b : BG α) : risG (E ++ [b]) = insG b (risG E) := by simp [risG]
theorem risG_map (f : α → β) (E : List (BG α)) : risG (E.map fun q => (q.1, f q.2)) = (risG E).map fun q => (q.1, f q.2) := by
  refine snoc_rec (P := fun E => risG (E.map fun q => (q.1, f q.2)) = (risG E).map fun q => (q.1, f q.2)) rfl (fun E b ih => ?_) E
  · rw [List.map_append, List.map_singleton, risG_snoc, risG_snoc, ih]
    exact insG_map f b _
theorem risG_take {E : List (BG α)} {k : Nat} (hk : k < E.length) : risG (E.take (k + 1)) = insG E[k] (risG (E.take k)) := by
  rw [List.take_succ_eq_append_getElem hk, risG_snoc]
theorem lt_or {a b : List UInt8} (h1 : ¬ a < b) (h2 : a ≠ b) : b < a := by
  rcases List.le_iff_lt_or_eq.1 (List.not_lt.1 h1) with h | h
  · exact h
  · exact absurd h.symm h2
theorem insG_mem {b : BG α} {L : List (BG α)} {q : BG α} (h : q ∈ insG b L) : q.1 = b.1 ∨ q ∈ L := by
  induction L with
  | nil => simp only [insG, List.mem_singleton] at h; exact .inl (by rw [h])
  | cons x r ih =>
    simp only [insG] at h
    split at h
    · rcases List.mem_cons.1 h with rfl | h
      · exact .inr (List.mem_cons_self ..)
      · exact (ih h).elim .inl fun h => .inr (List.mem_cons_of_mem _ h)
    · split at h
      · rename_i he
        rcases List.mem_cons.1 h with rfl | h
        · exact .inl he
        · exact .inr (List.mem_cons_of_mem _ h)
      · rcases List.mem_cons.1 h with rfl | h
        · exact .inl rfl
        · exact .inr h
theorem insG_srt {b : BG α} {L : List (BG α)} (h : SrtG L) : SrtG (insG b L) := by
  induction L with
  | nil => simp [SrtG, insG]
  | cons x r ih =>
    obtain ⟨h1, h2⟩ := List.pairwise_cons.1 h
    simp only [insG]
    split
    · rename_i hl
      rw [lessB_iff] at hl
      refine List.pairwise_cons.2 ⟨fun q hq => ?_, ih h2⟩
      rcases insG_mem hq with hq | hq
      · rw [hq]; exact hl
      · exact h1 q hq
    · rename_i hl
      rw [lessB_iff] at hl
      split
      · exact List.pairwise_cons.2 ⟨h1, h2⟩
      · rename_i he
        have hb : b.1 < x.1 := lt_or hl he
        refine List.pairwise_cons.2 ⟨fun q hq => ?_, h⟩
        rcases List.mem_cons.1 hq with rfl | hq
        · exact hb
        · exact List.lt_trans hb (h1 q hq)
theorem risG_srt (E : List (BG α)) : SrtG (risG E) := by
  refine snoc_rec (P := fun E => SrtG (risG E)) List.Pairwise.nil (fun E b ih => ?_) E
  rw [risG_snoc]
  exact insG_srt ih
theorem getG_insG {b : BG α} {L : List (BG α)} (h : SrtG L) (s : List UInt8) : getG s (insG b L) = if b.1 = s then some b.2 else getG s L := by
  induction L with
  | nil => simp [insG, getG]
  | cons x r ih =>
    obtain ⟨h1, h2⟩ := List.pairwise_cons.1 h
    simp only [insG]
    split
    · simp only [getG, ih h2]
      by_cases hb : b.1 = s <;> simp [hb]
    · rename_i hl
      rw [lessB_iff] at hl
      split
      · rename_i he
        simp only [getG]
        by_cases hb : b.1 = s
        · have : getG s r = none := getG_none.2 fun q hq e => lt_ne (h1 q hq) (by rw [he, hb, e])
          rw [this]
          simp [he, hb]
        · simp [he, hb]
      · rename_i he
        have hb : b.1 < x.1 := lt_or hl he
        by_cases hs : b.1 = s
        · have : getG s (x :: r) = none := getG_none.2 fun q hq e => by
            rcases List.mem_cons.1 hq with rfl | hq
            · exact lt_ne hb (by rw [hs, e])
            · exact lt_ne (List.lt_trans hb (h1 q hq)) (by rw [hs, e])
          rw [getG, this]
        · conv => lhs; rw [getG]
          rw [if_neg hs, if_neg hs]
          cases getG s (x :: r) <;> rfl
theorem getG_risG (s : List UInt8) (E : List (BG α)) : getG s (risG E) = getG s E := by
  refine snoc_rec (P := fun E => getG s (risG E) = getG s E) rfl (fun E b ih => ?_) E
  rw [risG_snoc, getG_insG (risG_srt E), getG_snoc, ih]
/-- Two rising lists with the same values are one. -/
theorem srt_ext {L M : List (BG α)} (hL : SrtG L) (hM : SrtG M) (h : ∀ s, getG s L = getG s M) : L = M := by
  refine List.Perm.eq_of_pairwise (le := fun p q : BG α => p.1 < q.1) (fun a b _ _ h1 h2 => absurd (List.lt_trans h1 h2) (List.lt_irrefl _)) hL hM ?_
  refine (List.perm_ext_iff_of_nodup (hL.imp fun hlt e => lt_ne hlt (congrArg Prod.fst e)) (hM.imp fun hlt e => lt_ne hlt (congrArg Prod.fst e))).2 fun q => ?_
  obtain ⟨s, v⟩ := q
  rw [← getG_srt hL, ← getG_srt hM, h]
theorem risG_ext {E F : List (BG α)} (h : ∀ s, getG s E = getG s F) : risG E = risG F :=
  srt_ext (risG_srt E) (risG_srt F) fun s => by rw [getG_risG, getG_risG, h]
theorem risG_self {L : List (BG α)} (h : SrtG L) : risG L = L := srt_ext (risG_srt L) h fun s => getG_risG s L
theorem risG_len (E : List (BG α)) : (risG E).length ≤ E.length := by
  have hi : ∀ (b : BG α) (L : List (BG α)), (insG b L).length ≤ L.length + 1 := by
    intro b L
    induction L with
    | nil => simp [insG]
    | cons x r ih =>
      simp only [insG]
      split
      · simp; omega
      · split <;> simp
  refine snoc_rec (P := fun E : List (BG α) => (risG E).length ≤ E.length) (Nat.le_refl _) (fun E b ih => ?_) E
  rw [risG_snoc, List.length_append]
  have := hi b (risG E)
  simp only [List.length_cons, List.length_nil]
  omega
end

/-- Bindings. -/
abbrev BV := BG TV

/-- Is the first kid a number? -/
def kid1 : List ND → Bool
  | x :: _ => x.kind == 1
  | [] => false
mutual
/-- Is it a pattern? -/
def patB : ND → Bool
  | .mk k n s a kids _ _ => if k = 1 then true else if k = 2 then true else if k = 3 then true else if k = 5 then true
    else if k = 10 then s == [45] && (kids.length == 1 && kid1 kids)
    else if k = 4 then patL kids else if k = 6 then kids.length == 2 && patL kids else false
def patL : List ND → Bool
  | [] => true
  | p :: r => patB p && patL r
end
/-- The number of the first kid, with its sign turned, as Go's int64 has it. -/
def negK (kids : List ND) : Int := match kids with
  | x :: _ => IntKind.i64.wrap (-x.int)
  | [] => 0
/-- A variable. -/
def varP (s : List UInt8) (t : TV) (E : List BV) : List BV × Bool := if s = [95] then (E, true) else match getG s E with
  | some v => (E, v.cmp t == 0)
  | none => (E ++ [(s, t)], true)
mutual
/-- A term against a pattern: what is bound then, and whether it fits. -/
def matchP : ND → TV → List BV → List BV × Bool
  | .mk k n s a kids _ _, t, E =>
    if k = 1 then (E, t.kind == 1 && t.int == n)
    else if k = 2 then (E, t.kind == 2 && t.name == s)
    else if k = 5 then (E, t.kind == 7)
    else if k = 10 then (E, t.kind == 1 && t.int == negK kids)
    else if k = 3 then varP s t E
    else if k = 4 then (if t.kind = 6 ∧ t.items.length = kids.length then matchL kids t.items E else (E, false))
    else if k = 6 then (if t.kind = 8 ∧ t.items.length = kids.length then matchL kids t.items E else (E, false))
    else (E, false)
def matchL : List ND → List TV → List BV → List BV × Bool
  | p :: ps, t :: ts, E => if (matchP p t E).2 then matchL ps ts (matchP p t E).1 else matchP p t E
  | _, _, E => (E, true)
end
/-- Terms against patterns. -/
def allP (ps : List ND) (ts : List TV) (E : List BV) : Option (List BV) :=
  if ps.length = ts.length ∧ patL ps = true then (if (matchL ps ts E).2 then some (risG (matchL ps ts E).1) else none) else none

theorem patL_append (l m : List ND) : patL (l ++ m) = (patL l && patL m) := by
  induction l with
  | nil => simp [patL]
  | cons t r ih => simp [patL, ih, Bool.and_assoc]
theorem patL_take (l : List ND) (k : Nat) (h : k < l.length) : patL (l.take (k + 1)) = (patL (l.take k) && patB l[k]) := by
  rw [List.take_succ_eq_append_getElem h, patL_append]
  simp [patL]
theorem patL_no (l : List ND) (k : Nat) (h : k < l.length) (hf : patB l[k] = false) : patL l = false := by
  rw [← List.take_append_drop (k + 1) l, patL_append, patL_take l k h, hf]
  simp
theorem patL_at {l : List ND} (h : patL l = true) {k : Nat} (hk : k < l.length) : patB l[k] = true := by
  cases hp : patB l[k] with
  | true => rfl
  | false => rw [patL_no l k hk hp] at h; cases h
theorem patB_eq (p : ND) : patB p = if p.kind = 1 then true else if p.kind = 2 then true else if p.kind = 3 then true else if p.kind = 5 then true
    else if p.kind = 10 then p.name == [45] && (p.kids.length == 1 && kid1 p.kids)
    else if p.kind = 4 then patL p.kids else if p.kind = 6 then p.kids.length == 2 && patL p.kids else false := by
  cases p; simp only [patB, ND.kind, ND.name, ND.kids]; rfl
theorem matchP_eq (p : ND) (t : TV) (E : List BV) : matchP p t E =
    if p.kind = 1 then (E, t.kind == 1 && t.int == p.int)
    else if p.kind = 2 then (E, t.kind == 2 && t.name == p.name)
    else if p.kind = 5 then (E, t.kind == 7)
    else if p.kind = 10 then (E, t.kind == 1 && t.int == negK p.kids)
    else if p.kind = 3 then varP p.name t E
    else if p.kind = 4 then (if t.kind = 6 ∧ t.items.length = p.kids.length then matchL p.kids t.items E else (E, false))
    else if p.kind = 6 then (if t.kind = 8 ∧ t.items.length = p.kids.length then matchL p.kids t.items E else (E, false))
    else (E, false) := by
  cases p; simp only [matchP, ND.kind, ND.name, ND.kids, ND.int]; rfl
/-- Behind so many of the patterns. -/
theorem matchL_take : ∀ (ps : List ND) (ts : List TV) (E : List BV) (k : Nat) (h : k < ps.length) (h' : k < ts.length), (matchL (ps.take k) (ts.take k) E).2 = true →
    matchL (ps.take (k + 1)) (ts.take (k + 1)) E = matchP ps[k] ts[k] (matchL (ps.take k) (ts.take k) E).1
  | p :: ps, t :: ts, E, 0, _, _, _ => by
    simp only [List.take_succ_cons, List.take_zero, matchL, List.getElem_cons_zero]
    cases hm : (matchP p t E).2 with
    | true => rw [if_pos rfl, ← hm]
    | false => rw [if_neg (by simp)]
  | p :: ps, t :: ts, E, k + 1, h, h', hm => by
    simp only [List.take_succ_cons, matchL, List.getElem_cons_succ] at hm ⊢
    cases h1 : (matchP p t E).2 with
    | true =>
      rw [if_pos rfl, if_pos rfl]
      rw [h1, if_pos rfl] at hm
      exact matchL_take ps ts _ k (by simpa using h) (by simpa using h') hm
    | false =>
      rw [h1, if_neg (by simp), h1] at hm
      cases hm
/-- What does not fit ahead does not fit. -/
theorem matchL_early : ∀ (ps : List ND) (ts : List TV) (E : List BV) (k : Nat), (matchL (ps.take k) (ts.take k) E).2 = false → matchL ps ts E = matchL (ps.take k) (ts.take k) E
  | [], ts, E, k, h => by simp [matchL] at h
  | p :: ps, [], E, k, h => by cases k <;> simp [matchL] at h
  | p :: ps, t :: ts, E, 0, h => by simp [matchL] at h
  | p :: ps, t :: ts, E, k + 1, h => by
    simp only [List.take_succ_cons, matchL] at h ⊢
    cases h1 : (matchP p t E).2 with
    | true =>
      rw [if_pos rfl, if_pos rfl]
      rw [h1, if_pos rfl] at h
      exact matchL_early ps ts _ k h
    | false => rw [if_neg (by simp), if_neg (by simp)]

mutual
/-- How many nodes there are, with kids. -/
def ND.parts : ND → Nat
  | .mk _ _ _ _ l _ _ => ND.partsL l + 1
def ND.partsL : List ND → Nat
  | [] => 0
  | t :: r => t.parts + ND.partsL r
end
theorem ND.parts_pos (t : ND) : 1 ≤ t.parts := by cases t; simp [ND.parts]
theorem ND.parts_eq (t : ND) : t.parts = ND.partsL t.kids + 1 := by cases t; simp [ND.parts, ND.kids]
theorem ndparts_item : ∀ (l : List ND) (k : Nat) (h : k < l.length), l[k].parts ≤ ND.partsL l
  | t :: r, 0, _ => by simp [ND.partsL]
  | t :: r, k + 1, h => by
    have := ndparts_item r k (by simpa using h)
    simp only [ND.partsL, List.getElem_cons_succ]
    omega
end
end Go.Proofs.Ythhindnjnijglaa
