/- Names (layer 19): the plain state, its two maps in memory. -/
import Derived.Test.YtfkolemkmhcbfaaMapA
import Derived.Test.YtfkolemkmhcbfaaProg
import Derived.WalkArith
namespace Go.Proofs.Ytfkolemkmhcbfaa
open Go.RowKit Go.Maps Go.WideMaps
set_option linter.unusedVariables false

/-! ### the plain state: entries by rising names -/
abbrev NL := List (List UInt8 × Int)
def get1 (L : NL) (s : List UInt8) : Option Int := (L.find? (fun q => q.1 == s)).map (·.2)
def of1 (L : NL) (p : Int) : Option (List UInt8) := (L.find? (fun q => q.2 == p)).map (·.1)
def get2 (K : List (Int × List UInt8)) (p : Int) : Option (List UInt8) := (K.find? (fun q => q.1 == p)).map (·.2)
def ins1 (x : List UInt8 × Int) : NL → NL
  | [] => [x]
  | y :: r => if bytesBefore x.1 y.1 then x :: y :: r else y :: ins1 x r
def ins2 (x : Int × List UInt8) : List (Int × List UInt8) → List (Int × List UInt8)
  | [] => [x]
  | y :: r => if x.1 < y.1 then x :: y :: r else y :: ins2 x r
def del1 (L : NL) (s : List UInt8) : NL := L.filter (fun q => !(q.1 == s))
def del2 (K : List (Int × List UInt8)) (p : Int) : List (Int × List UInt8) := K.filter (fun q => !(q.1 == p))
def dat1 (L : NL) : DataW Unit := .map (L.map fun q => (.string q.1, .lit (.int .i64 q.2)))
def dat2 (K : List (Int × List UInt8)) : DataW Unit := .map (K.map fun q => (.int .i64 q.1, .lit (.string q.2)))
structure NOk (L : NL) (K : List (Int × List UInt8)) : Prop where
  srt : L.Pairwise (fun p q => p.1 < q.1)
  kd : K.Pairwise (fun p q => p.1 ≠ q.1)
  iff : ∀ s p, (s, p) ∈ L ↔ (p, s) ∈ K
  nm : ∀ q ∈ L, q.1 ≠ [] ∧ q.1.length ≤ 255 ∧ (Lit.int .i64 q.2).wf = true
def addP (L : NL) (s : List UInt8) (p : Int) : Nat × NL := if s = [] ∨ 255 < s.length then (2, L) else if (get1 L s).isSome = true ∨ (of1 L p).isSome = true then (8, L) else (0, ins1 (s, p) L)
def removeP (L : NL) (s : List UInt8) : Bool × NL := ((get1 L s).isSome, del1 L s)
def dropP (L : NL) (p : Int) : Bool × NL := match of1 L p with
  | some s => (true, del1 L s)
  | none => (false, L)

theorem find_mem {α β : Type} [BEq α] [LawfulBEq α] {l : List (α × β)} (hd : l.Pairwise (fun p q => p.1 ≠ q.1)) {a : α} {b : β} : (l.find? (fun q => q.1 == a)).map (·.2) = some b ↔ (a, b) ∈ l := by
  induction l with
  | nil => simp
  | cons q r ih =>
    obtain ⟨h1, h2⟩ := List.pairwise_cons.1 hd
    obtain ⟨x, y⟩ := q
    by_cases hx : x = a
    · subst hx
      simp only [List.find?_cons, beq_self_eq_true, Option.map_some, Option.some.injEq, List.mem_cons, Prod.mk.injEq, true_and]
      constructor
      · intro h; exact .inl h.symm
      · rintro (h | h)
        · exact h.symm
        · exact absurd rfl (h1 (x, b) h)
    · have : (x == a) = false := by simp [hx]
      simp only [List.find?_cons, this, List.mem_cons, Prod.mk.injEq]
      rw [ih h2]
      constructor
      · intro h; exact .inr h
      · rintro (h | h)
        · exact absurd h.1.symm hx
        · exact h

section
variable {L : NL} {K : List (Int × List UInt8)}
theorem NOk.apart (h : NOk L K) : L.Pairwise (fun p q => p.1 ≠ q.1) := h.srt.imp fun hl e => by rw [e] at hl; exact absurd hl (List.lt_irrefl _)
theorem NOk.get1_iff (h : NOk L K) {s : List UInt8} {p : Int} : get1 L s = some p ↔ (s, p) ∈ L := find_mem h.apart
theorem NOk.get2_iff (h : NOk L K) {s : List UInt8} {p : Int} : get2 K p = some s ↔ (s, p) ∈ L := (find_mem h.kd).trans (h.iff s p).symm
theorem of1_mem {s : List UInt8} {p : Int} (h : of1 L p = some s) : (s, p) ∈ L := by
  unfold of1 at h
  obtain ⟨q, hq, rfl⟩ := Option.map_eq_some_iff.1 h
  have h1 := List.mem_of_find?_eq_some hq
  have h2 := List.find?_some hq
  obtain ⟨a, b⟩ := q
  simp only [beq_iff_eq] at h2
  subst h2
  exact h1
theorem of1_none {p : Int} (h : of1 L p = none) (s : List UInt8) : (s, p) ∉ L := by
  unfold of1 at h
  rw [Option.map_eq_none_iff, List.find?_eq_none] at h
  intro hm
  have := h _ hm
  simp at this
theorem NOk.of1_iff (h : NOk L K) {s : List UInt8} {p : Int} : of1 L p = some s ↔ (s, p) ∈ L := by
  constructor
  · exact of1_mem
  · intro hm
    cases ho : of1 L p with
    | none => exact absurd hm (of1_none ho s)
    | some s' =>
      have h1 := h.get2_iff.2 (of1_mem ho)
      have h2 := h.get2_iff.2 hm
      rw [h1] at h2
      exact h2
theorem NOk.get2_of1 (h : NOk L K) (p : Int) : get2 K p = of1 L p := by
  cases ho : of1 L p with
  | some s => exact h.get2_iff.2 (of1_mem ho)
  | none =>
    cases hg : get2 K p with
    | none => rfl
    | some s => exact absurd (h.get2_iff.1 hg) (of1_none ho s)
theorem mem_ins1 (x y : List UInt8 × Int) (L : NL) : y ∈ ins1 x L ↔ y = x ∨ y ∈ L := by
  induction L with
  | nil => simp [ins1]
  | cons a r ih =>
    unfold ins1
    split
    · simp
    · simp only [List.mem_cons, ih]
      constructor
      · rintro (h | h | h) <;> simp [h]
      · rintro (h | h | h) <;> simp [h]
theorem mem_ins2 (x y : Int × List UInt8) (L : List (Int × List UInt8)) : y ∈ ins2 x L ↔ y = x ∨ y ∈ L := by
  induction L with
  | nil => simp [ins2]
  | cons a r ih =>
    unfold ins2
    split
    · simp
    · simp only [List.mem_cons, ih]
      constructor
      · rintro (h | h | h) <;> simp [h]
      · rintro (h | h | h) <;> simp [h]
theorem len_ins1 (x : List UInt8 × Int) (L : NL) : (ins1 x L).length = L.length + 1 := by
  induction L with
  | nil => rfl
  | cons a r ih =>
    unfold ins1
    split
    · rfl
    · simp [ih]
theorem len_ins2 (x : Int × List UInt8) (L : List (Int × List UInt8)) : (ins2 x L).length = L.length + 1 := by
  induction L with
  | nil => rfl
  | cons a r ih =>
    unfold ins2
    split
    · rfl
    · simp [ih]
theorem bytes_total {a b : List UInt8} (h : ¬ a < b) (hne : a ≠ b) : b < a := by
  by_cases h1 : b < a
  · exact h1
  · exact absurd (List.le_antisymm (List.not_lt.1 h1) (List.not_lt.1 h)) hne
theorem ins1_srt {x : List UInt8 × Int} {L : NL} (h : L.Pairwise (fun p q => p.1 < q.1)) (hx : ∀ q ∈ L, q.1 ≠ x.1) : (ins1 x L).Pairwise (fun p q => p.1 < q.1) := by
  induction L with
  | nil => simp [ins1]
  | cons a r ih =>
    obtain ⟨h1, h2⟩ := List.pairwise_cons.1 h
    unfold ins1
    split
    · rename_i hb
      have hlt : x.1 < a.1 := (before_iff _ _).1 hb
      refine List.pairwise_cons.2 ⟨fun q hq => ?_, h⟩
      rcases List.mem_cons.1 hq with rfl | hq
      · exact hlt
      · exact List.lt_trans hlt (h1 q hq)
    · rename_i hb
      have hlt : a.1 < x.1 := bytes_total (fun h9 => hb ((before_iff _ _).2 h9)) (Ne.symm (hx a (by simp)))
      refine List.pairwise_cons.2 ⟨fun q hq => ?_, ih h2 (fun q hq => hx q (by simp [hq]))⟩
      rcases (mem_ins1 _ _ _).1 hq with rfl | hq
      · exact hlt
      · exact h1 q hq
theorem ins2_kd {x : Int × List UInt8} {L : List (Int × List UInt8)} (h : L.Pairwise (fun p q => p.1 ≠ q.1)) (hx : ∀ q ∈ L, q.1 ≠ x.1) : (ins2 x L).Pairwise (fun p q => p.1 ≠ q.1) := by
  induction L with
  | nil => simp [ins2]
  | cons a r ih =>
    obtain ⟨h1, h2⟩ := List.pairwise_cons.1 h
    unfold ins2
    split
    · refine List.pairwise_cons.2 ⟨fun q hq => (hx q hq).symm, h⟩
    · refine List.pairwise_cons.2 ⟨fun q hq => ?_, ih h2 (fun q hq => hx q (by simp [hq]))⟩
      rcases (mem_ins2 _ _ _).1 hq with rfl | hq
      · exact hx a (by simp)
      · exact h1 q hq
theorem NOk.add (h : NOk L K) {s : List UInt8} {p : Int} (hs : s ≠ []) (hl : s.length ≤ 255) (hp : (Lit.int .i64 p).wf = true) (h1 : get1 L s = none) (h2 : of1 L p = none) : NOk (ins1 (s, p) L) (ins2 (p, s) K) := by
  have n1 : ∀ q ∈ L, q.1 ≠ s := fun q hq e => by
    have := h.get1_iff.2 (show (s, q.2) ∈ L by rw [← e]; exact hq)
    rw [h1] at this
    cases this
  have n2 : ∀ q ∈ K, q.1 ≠ p := fun q hq e => of1_none h2 q.2 ((h.iff _ _).2 (by rw [← e]; exact hq))
  refine ⟨ins1_srt h.srt n1, ins2_kd h.kd n2, fun s' p' => ?_, fun q hq => ?_⟩
  · rw [mem_ins1, mem_ins2, h.iff s' p']
    simp only [Prod.mk.injEq]
    constructor
    · rintro (⟨rfl, rfl⟩ | h9)
      · exact .inl ⟨rfl, rfl⟩
      · exact .inr h9
    · rintro (⟨rfl, rfl⟩ | h9)
      · exact .inl ⟨rfl, rfl⟩
      · exact .inr h9
  · rcases (mem_ins1 _ _ _).1 hq with rfl | hq
    · exact ⟨hs, hl, hp⟩
    · exact h.nm q hq
theorem NOk.del (h : NOk L K) {s : List UInt8} {p : Int} (h1 : (s, p) ∈ L) : NOk (del1 L s) (del2 K p) := by
  refine ⟨h.srt.filter _, h.kd.filter _, fun s' p' => ?_, fun q hq => h.nm q (List.mem_filter.1 hq).1⟩
  unfold del1 del2
  rw [List.mem_filter, List.mem_filter, h.iff s' p']
  constructor
  · rintro ⟨h2, h3⟩
    refine ⟨h2, ?_⟩
    have hne : s' ≠ s := by simpa using h3
    have : p' ≠ p := fun e => by
      subst e
      have a1 := h.get2_iff.2 h1
      have a2 := h.get2_iff.2 ((h.iff _ _).2 h2)
      rw [a1] at a2
      exact hne (Option.some.inj a2).symm
    simpa using this
  · rintro ⟨h2, h3⟩
    refine ⟨h2, ?_⟩
    have hne : p' ≠ p := by simpa using h3
    have : s' ≠ s := fun e => by
      subst e
      have a1 := h.get1_iff.2 h1
      have a2 := h.get1_iff.2 ((h.iff _ _).2 h2)
      rw [a1] at a2
      exact hne (Option.some.inj a2).symm
    simpa using this
theorem del1_none {s : List UInt8} (h : get1 L s = none) : del1 L s = L := by
  unfold get1 at h
  rw [Option.map_eq_none_iff, List.find?_eq_none] at h
  unfold del1
  exact List.filter_eq_self.2 fun q hq => by simpa using h q hq
theorem del2_none {p : Int} (h : get2 K p = none) : del2 K p = K := by
  unfold get2 at h
  rw [Option.map_eq_none_iff, List.find?_eq_none] at h
  unfold del2
  exact List.filter_eq_self.2 fun q hq => by simpa using h q hq
theorem del1_len (s : List UInt8) : (del1 L s).length ≤ L.length := List.length_filter_le _ _

/-! ### the data of the maps -/
theorem has_dat1 (L : NL) (s : List UInt8) : Maps.has (dat1 L) (.string s) = (get1 L s).isSome := by
  unfold Maps.has dat1 get1
  induction L with
  | nil => rfl
  | cons q r ih =>
    simp only [List.map_cons, List.any_cons, List.find?_cons, Lit.sameKey] at ih ⊢
    cases hq : (q.1 == s) with
    | true => simp
    | false => simpa using ih
theorem at_dat1 (L : NL) (s : List UInt8) : (dat1 L).atKey (.string s) (.lit (.int .i64 0)) = .lit (.int .i64 ((get1 L s).getD 0)) := by
  unfold DataW.atKey dat1 get1
  induction L with
  | nil => rfl
  | cons q r ih =>
    simp only [List.map_cons, List.find?_cons, Lit.sameKey] at ih ⊢
    cases hq : (q.1 == s) with
    | true => simp
    | false => simpa using ih
theorem has_dat2 (K : List (Int × List UInt8)) (p : Int) : Maps.has (dat2 K) (.int .i64 p) = (get2 K p).isSome := by
  unfold Maps.has dat2 get2
  induction K with
  | nil => rfl
  | cons q r ih =>
    simp only [List.map_cons, List.any_cons, List.find?_cons, Lit.sameKey, true_and] at ih ⊢
    by_cases hq : q.1 = p
    · simp [hq]
    · simp only [hq, decide_false, Bool.false_or, beq_eq_false_iff_ne.2 hq]
      exact ih
theorem at_dat2 (K : List (Int × List UInt8)) (p : Int) : (dat2 K).atKey (.int .i64 p) (.lit (.string [])) = .lit (.string ((get2 K p).getD [])) := by
  unfold DataW.atKey dat2 get2
  induction K with
  | nil => rfl
  | cons q r ih =>
    simp only [List.map_cons, List.find?_cons, Lit.sameKey, true_and] at ih ⊢
    by_cases hq : q.1 = p
    · simp [hq]
    · simp only [hq, decide_false, beq_eq_false_iff_ne.2 hq]
      exact ih
theorem put_dat1 {s : List UInt8} (h : get1 L s = none) (p : Int) : (dat1 L).put (.string s) (.lit (.int .i64 p)) = dat1 (ins1 (s, p) L) := by
  have h1 : (L.map fun q => ((Lit.string q.1, DataW.lit (H := Unit) (.int .i64 q.2)) : Lit × DataW Unit)).filter (fun p => !p.1.sameKey (.string s)) = L.map fun q => ((Lit.string q.1, DataW.lit (.int .i64 q.2)) : Lit × DataW Unit) := by
    unfold get1 at h
    rw [Option.map_eq_none_iff, List.find?_eq_none] at h
    refine List.filter_eq_self.2 fun q hq => ?_
    obtain ⟨x, hx, rfl⟩ := List.mem_map.1 hq
    simpa [Lit.sameKey] using h x hx
  unfold DataW.put dat1
  simp only [h1]
  congr 1
  clear h1 h
  induction L with
  | nil => rfl
  | cons q r ih =>
    by_cases hb : bytesBefore s q.1 = true
    · simp [DataW.insert, ins1, Lit.before, hb]
    · simp [DataW.insert, ins1, Lit.before, hb, ih]
theorem put_dat2 {s : List UInt8} {p : Int} (h : get2 K p = none) : (dat2 K).put (.int .i64 p) (.lit (.string s)) = dat2 (ins2 (p, s) K) := by
  have h1 : (K.map fun q => ((Lit.int .i64 q.1, DataW.lit (H := Unit) (.string q.2)) : Lit × DataW Unit)).filter (fun x => !x.1.sameKey (.int .i64 p)) = K.map fun q => ((Lit.int .i64 q.1, DataW.lit (.string q.2)) : Lit × DataW Unit) := by
    unfold get2 at h
    rw [Option.map_eq_none_iff, List.find?_eq_none] at h
    refine List.filter_eq_self.2 fun q hq => ?_
    obtain ⟨x, hx, rfl⟩ := List.mem_map.1 hq
    simpa [Lit.sameKey] using h x hx
  unfold DataW.put dat2
  simp only [h1]
  congr 1
  clear h1 h
  induction K with
  | nil => rfl
  | cons q r ih =>
    by_cases hb : p < q.1
    · simp [DataW.insert, ins2, Lit.before, hb]
    · simp [DataW.insert, ins2, Lit.before, hb, ih]
theorem del_dat1 (L : NL) (s : List UInt8) : (dat1 L).del (.string s) = dat1 (del1 L s) := by
  unfold DataW.del dat1 del1
  simp only [List.filter_map]
  rfl
theorem del_dat2 (K : List (Int × List UInt8)) (p : Int) : (dat2 K).del (.int .i64 p) = dat2 (del2 K p) := by
  unfold DataW.del dat2 del2
  simp only [List.filter_map]
  congr 2
  refine List.filter_congr fun q _ => ?_
  simp only [Function.comp, Lit.sameKey, true_and]
  by_cases h : q.1 = p <;> simp [h]
theorem size_dat1 (L : NL) : Maps.size (dat1 L) = L.length := by simp [Maps.size, dat1]
theorem size_dat2 (K : List (Int × List UInt8)) : Maps.size (dat2 K) = K.length := by simp [Maps.size, dat2]
end

/-! ### in memory -/
def N1 (W : World) (b : Nat) (L : NL) : Prop := W.ownsMap (H := Unit) Try.prog 9 (plainElem Try.prog 2) b L.length (dat1 L)
def N2 (W : World) (b : Nat) (K : List (Int × List UInt8)) : Prop := W.ownsMap (H := Unit) Try.prog 2 (plainElem Try.prog 9) b K.length (dat2 K)
theorem ks : Keyed Try.prog 9 := string_keyed Try.underlying9
theorem ki : Keyed Try.prog 2 := int_keyed Try.underlying2
theorem zi (w : World) : (zeroValue 2).run Try.prog w = .ok (.int .i64 0) w := by kernel_rfl
theorem zs (w : World) : (zeroValue 9).run Try.prog w = .ok (.string ⟨#[]⟩) w := by kernel_rfl
theorem keyS {s : List UInt8} (h : s.length ≤ maxLen) : keyOf Try.prog 9 (.string ⟨s.toArray⟩) = some (.string s) := by
  have := keyOf_string_mk Try.underlying9 (s := ⟨s.toArray⟩) (by simpa [ByteArray.size] using h)
  simpa using this
theorem keyI {p : Int} (h : (Lit.int .i64 p).wf = true) : keyOf Try.prog 2 (.int .i64 p) = some (.int .i64 p) := keyOf_int_mk Try.underlying2 h
section
variable {W W' : World} {b : Nat} {L : NL} {K : List (Int × List UInt8)}
theorem look1 (h : N1 W b L) {s : List UInt8} (hs : s.length ≤ maxLen) :
    (Instr.lookup 53 (.map (some b)) (.string ⟨s.toArray⟩) true).run Try.prog W = .ok (.tuple #[.int .i64 ((get1 L s).getD 0), .bool (get1 L s).isSome]) W := by
  obtain ⟨v, ps, hrun, hv⟩ := World.ownsMap.look_ok h ks Try.underlying53 (zi W) (plainElem_int Try.underlying2 (by decide)) (keyS hs)
  rw [at_dat1] at hv
  obtain ⟨c, rfl, hc, _⟩ := plainElem_int_inv Try.underlying2 hv
  simp only [Prod.mk.injEq, DataW.lit.injEq, Lit.int.injEq, true_and] at hc
  rw [hrun, has_dat1, hc.1]
theorem look1' (h : N1 W b L) {s : List UInt8} (hs : s.length ≤ maxLen) :
    (Instr.lookup 53 (.map (some b)) (.string ⟨s.toArray⟩) false).run Try.prog W = .ok (.int .i64 ((get1 L s).getD 0)) W := by
  obtain ⟨v, ps, hrun, hv⟩ := World.ownsMap.lookup h ks Try.underlying53 (zi W) (plainElem_int Try.underlying2 (by decide)) (keyS hs)
  rw [at_dat1] at hv
  obtain ⟨c, rfl, hc, _⟩ := plainElem_int_inv Try.underlying2 hv
  simp only [Prod.mk.injEq, DataW.lit.injEq, Lit.int.injEq, true_and] at hc
  rw [hrun, hc.1]
theorem look2 (h : N2 W b K) {p : Int} (hp : (Lit.int .i64 p).wf = true) :
    (Instr.lookup 54 (.map (some b)) (.int .i64 p) true).run Try.prog W = .ok (.tuple #[.string ⟨((get2 K p).getD []).toArray⟩, .bool (get2 K p).isSome]) W := by
  obtain ⟨v, ps, hrun, hv⟩ := World.ownsMap.look_ok h ki Try.underlying54 (zs W) (plainElem_string Try.underlying9 (by decide)) (keyI hp)
  have e9 : (DataW.lit (H := Unit) (.string (#[] : Array UInt8).toList)) = .lit (.string []) := rfl
  rw [e9, at_dat2] at hv
  obtain ⟨c, rfl, hc, _⟩ := plainElem_string_inv Try.underlying9 hv
  simp only [Prod.mk.injEq, DataW.lit.injEq, Lit.string.injEq] at hc
  rw [hrun, has_dat2, hc.1]

/-- Names in memory. -/
structure NmAt (W : World) (pn b1 b2 : Nat) (L : NL) : Prop where
  obj : Blk W pn 56 #[.map (some b1), .map (some b2)]
  ne : b1 ≠ b2
  all : ∃ K, N1 W b1 L ∧ N2 W b2 K ∧ NOk L K
variable {pn b1 b2 : Nat}
theorem NmAt.keep (h : NmAt W pn b1 b2 L) (hb : Below W.heap.size W W') : NmAt W' pn b1 b2 L := by
  obtain ⟨K, h1, h2, h3⟩ := h.all
  exact ⟨h.obj.keep hb, h.ne, K, owns_keep h1 hb, owns_keep h2 hb, h3⟩
theorem NmAt.lt (h : NmAt W pn b1 b2 L) : pn < W.heap.size ∧ b1 < W.heap.size ∧ b2 < W.heap.size := by
  obtain ⟨K, h1, h2, h3⟩ := h.all
  exact ⟨h.obj.lt, World.ownsMap.lt h1, World.ownsMap.lt h2⟩
theorem NmAt.pn_ne (h : NmAt W pn b1 b2 L) : pn ≠ b1 ∧ pn ≠ b2 := by
  obtain ⟨K, h1, h2, h3⟩ := h.all
  exact ⟨owns_blk h1 h.obj, owns_blk h2 h.obj⟩
theorem NmAt.ok (h : NmAt W pn b1 b2 L) : ∃ K, NOk L K := by
  obtain ⟨K, h1, h2, h3⟩ := h.all
  exact ⟨K, h3⟩
theorem NmAt.look1 (h : NmAt W pn b1 b2 L) {s : List UInt8} (hs : s.length ≤ maxLen) :
    (Instr.lookup 53 (.map (some b1)) (.string ⟨s.toArray⟩) true).run Try.prog W = .ok (.tuple #[.int .i64 ((get1 L s).getD 0), .bool (get1 L s).isSome]) W := by
  obtain ⟨K, h1, h2, h3⟩ := h.all
  exact Ytfkolemkmhcbfaa.look1 h1 hs
theorem NmAt.look2 (h : NmAt W pn b1 b2 L) {p : Int} (hp : (Lit.int .i64 p).wf = true) :
    (Instr.lookup 54 (.map (some b2)) (.int .i64 p) true).run Try.prog W = .ok (.tuple #[.string ⟨((of1 L p).getD []).toArray⟩, .bool (of1 L p).isSome]) W := by
  obtain ⟨K, h1, h2, h3⟩ := h.all
  rw [← h3.get2_of1]
  exact Ytfkolemkmhcbfaa.look2 h2 hp
end
end Go.Proofs.Ytfkolemkmhcbfaa
