/- LinksOrder: what the loop keeps, without the code. -/
import Derived.Test.YtpfikhamokjdjaaLkX
namespace Go.Proofs.Ytpfikhamokjdjaa
open Go.RowKit
set_option linter.unusedVariables false
/-- The k first acts' links. -/
def setL (l : List ActL) (p : Int × Int) : Prop := ∃ x ∈ l, x.a ≠ x.b ∧ p = pairN x.a x.b
theorem setL_snoc {l : List ActL} {x : ActL} {p : Int × Int} : setL (l ++ [x]) p ↔ setL l p ∨ (x.a ≠ x.b ∧ p = pairN x.a x.b) := by
  unfold setL
  constructor
  · rintro ⟨y, hy, h⟩
    rcases List.mem_append.1 hy with h9 | h9
    · exact .inl ⟨y, h9, h⟩
    · rw [List.mem_singleton] at h9
      subst h9
      exact .inr h
  · rintro (⟨y, hy, h⟩ | h)
    · exact ⟨y, List.mem_append_left _ hy, h⟩
    · exact ⟨x, by simp, h⟩
theorem setL_cons {l : List ActL} {x : ActL} {p : Int × Int} : setL (x :: l) p ↔ setL l p ∨ (x.a ≠ x.b ∧ p = pairN x.a x.b) := by
  unfold setL
  constructor
  · rintro ⟨y, hy, h⟩
    rcases List.mem_cons.1 hy with rfl | h9
    · exact .inr h
    · exact .inl ⟨y, h9, h⟩
  · rintro (⟨y, hy, h⟩ | h)
    · exact ⟨y, List.mem_cons_of_mem _ hy, h⟩
    · exact ⟨x, by simp, h⟩
/-- The watches of the acts from i on, up to k. -/
def setK (l : List ActL) (i k : Nat) (x : WV) : Prop := ∃ j, ∃ h : j < l.length, i ≤ j ∧ j < k ∧ x = ⟨(j : Int), l[j].a, l[j].b⟩
/-- What the loop keeps of both objects. -/
structure OrdR (W : World) (len pm b1 b2 pn d1 d2 : Nat) (l : List ActL) (k : Nat) (La Lb : PL) (Ka Kb : WL) (wr : World) : Prop where
  a : LK W wr pm b1 b2 (2 * k) La Ka
  b : LK W wr pn d1 d2 (2 * k) Lb Kb
  la : ∀ p, p ∈ La ↔ setL (l.take k) p
  lb : ∀ p, p ∈ Lb ↔ setL (l.drop (len - k)) p
  ka : ∀ x, x ∈ Ka ↔ setK l 0 k x
  kb : ∀ x, x ∈ Kb ↔ setK l (len - k) len x
  na : La.length ≤ k ∧ Lb.length ≤ k ∧ Ka.length = k ∧ Kb.length = k
  ne : pm ≠ d1 ∧ pm ≠ d2 ∧ b1 ≠ d1 ∧ b1 ≠ d2 ∧ b2 ≠ d1 ∧ b2 ≠ d2 ∧ pn ≠ b1 ∧ pn ≠ b2
theorem LK.low {w0 w1 W : World} {pm b1 b2 n : Nat} {L : PL} {K : WL} (h : LK w1 W pm b1 b2 n L K) (hb : Below w0.heap.size w0 w1) : LK w0 W pm b1 b2 n L K :=
  { h with
    old := hb.trans (h.old.mono hb.size)
    lo := ⟨Nat.le_trans hb.size h.lo.1, Nat.le_trans hb.size h.lo.2.1, Nat.le_trans hb.size h.lo.2.2⟩ }
theorem two_blk (w : World) (t : TypeId) (c1 c2 : Array Value) : Blk ((w.alloc (.cells c1 t)).alloc (.cells c2 t)).drew w.heap.size t c1 ∧ Blk ((w.alloc (.cells c1 t)).alloc (.cells c2 t)).drew (w.heap.size + 1) t c2 ∧ Below w.heap.size w ((w.alloc (.cells c1 t)).alloc (.cells c2 t)).drew := by
  refine ⟨((Blk.new w t c1).alloc _).keep (Below.refl _ _).drew, ?_, (below_step (below_alloc _ _) (below_alloc _ _)).drew⟩
  have h := Blk.new (w.alloc (.cells c1 t)) t c2
  rw [show (w.alloc (.cells c1 t)).heap.size = w.heap.size + 1 by simp] at h
  exact h.keep (Below.refl _ _).drew
theorem eqIn45 (a b c d : Int) (w : World) : (Op.equalIn 10000 45 (.agg #[.int .i64 a, .int .i64 b]) (.agg #[.int .i64 c, .int .i64 d])).run Try.prog w = .ok (a == c && b == d) w := by
  have u3 := Try.underlying2
  have a3 := Try.isAgg2
  have z3 := Try.sizeOf2
  rw [show (10000 : Nat) = 9999 + 1 from rfl, Op.equalIn]
  simp only [Sem.run_bind, run_underlying Try.underlying45, Result.andThen_ok]
  simp only [Std.Legacy.Range.forIn_eq_forIn_range', Std.Legacy.Range.size, Nat.sub_zero, Nat.add_sub_cancel, Nat.div_one, List.range'_succ, List.range'_zero, List.forIn_cons, List.forIn_nil]
  go_simp
  by_cases h1 : a = c <;> by_cases h2 : b = d <;> simp [h1, h2]
theorem neqP_self (p : Int × Int) (w : World) : (binOp .neq 45 (.agg #[.int .i64 p.1, .int .i64 p.2]) (.agg #[.int .i64 p.1, .int .i64 p.2])).run Try.prog w = .ok (.bool false) w := by
  rw [run_neq_struct, eqIn45]
  simp [Result.andThen]
theorem cellP9 {W : World} {base g cap n : Nat} {zs : PL} (h : W.ownsRow base 45 2 (.slice (some ⟨g, 0, none⟩) n cap) n (zs.flatMap encP)) {k : Nat} (hk : k < zs.length) (hn : zs.length = n) :
    W.cell? ⟨g, k * 2, none⟩ = some (.int .i64 zs[k].1) ∧ W.cell? ⟨g, k * 2 + 1, none⟩ = some (.int .i64 zs[k].2) := by
  have key : ∀ j, j < 2 → W.cell? ⟨g, k * 2 + j, none⟩ = (encP zs[k])[j]? := fun j hj => by
    rw [h.cellAt (k * 2 + j) (by omega), flat_get (enc := encP) (k := 2) (fun _ => rfl) zs (k * 2 + j) (by omega)]
    have e1 : (k * 2 + j) / 2 = k := by omega
    have e2 : (k * 2 + j) % 2 = j := by omega
    rw [e1, e2, getElem!_pos zs k hk]
  exact ⟨key 0 (by omega), key 1 (by omega)⟩
section
variable {W wr V : World} {len pm b1 b2 pn d1 d2 k n : Nat} {l : List ActL} {La Lb L' : PL} {Ka Kb K' : WL} {x y : ActL}
theorem OrdR.bel (h : OrdR W len pm b1 b2 pn d1 d2 l k La Lb Ka Kb wr) (hb : Below wr.heap.size wr V) : OrdR W len pm b1 b2 pn d1 d2 l k La Lb Ka Kb V := { h with a := h.a.keep hb, b := h.b.keep hb }
/-- The other object stays. -/
theorem OrdR.other_b (h : OrdR W len pm b1 b2 pn d1 d2 l k La Lb Ka Kb wr) {wq : World} (hb : LK W wq pn d1 d2 n L' K') (hf : Fr (fun k => k = b1 ∨ k = b2) wq V) : LK W V pn d1 d2 n L' K' :=
  hb.fr hf ⟨by have := h.ne; omega, by have := h.ne; omega, by have := h.ne; omega⟩ (fun k hk => by have := h.a.lo; omega)
theorem OrdR.other_a (h : OrdR W len pm b1 b2 pn d1 d2 l k La Lb Ka Kb wr) {wq : World} (ha : LK W wq pm b1 b2 n L' K') (hf : Fr (fun k => k = d1 ∨ k = d2) wq V) : LK W V pm b1 b2 n L' K' :=
  ha.fr hf ⟨by have := h.ne; omega, by have := h.ne; omega, by have := h.ne; omega⟩ (fun k hk => by have := h.b.lo; omega)
theorem setK_a (hk : k < l.length) {x : WV} : setK l 0 (k + 1) x ↔ x = ⟨(k : Int), l[k].a, l[k].b⟩ ∨ setK l 0 k x := by
  unfold setK
  constructor
  · rintro ⟨j, h, h1, h2, h3⟩
    by_cases e : j = k
    · subst e; exact .inl h3
    · exact .inr ⟨j, h, h1, by omega, h3⟩
  · rintro (h3 | ⟨j, h, h1, h2, h3⟩)
    · exact ⟨k, hk, by omega, by omega, h3⟩
    · exact ⟨j, h, h1, by omega, h3⟩
theorem setK_b (hl : l.length = len) (hk : k < len) {x : WV} : setK l (len - (k + 1)) len x ↔ x = ⟨((len - 1 - k : Nat) : Int), (l[len - 1 - k]'(by omega)).a, (l[len - 1 - k]'(by omega)).b⟩ ∨ setK l (len - k) len x := by
  unfold setK
  constructor
  · rintro ⟨j, h, h1, h2, h3⟩
    by_cases e : j = len - 1 - k
    · subst e; exact .inl h3
    · exact .inr ⟨j, h, by omega, h2, h3⟩
  · rintro (h3 | ⟨j, h, h1, h2, h3⟩)
    · exact ⟨len - 1 - k, by omega, by omega, by omega, h3⟩
    · exact ⟨j, h, by omega, h2, h3⟩
theorem OrdR.freshA (h : OrdR W len pm b1 b2 pn d1 d2 l k La Lb Ka Kb wr) (a b : Int) : watchP Ka ⟨(k : Int), a, b⟩ = (0, insG keyW ⟨(k : Int), a, b⟩ Ka) :=
  watchP_new fun y hy e => by
    obtain ⟨j, _, _, h2, rfl⟩ := (h.ka y).1 hy
    simp only at e
    omega
theorem OrdR.freshB (h : OrdR W len pm b1 b2 pn d1 d2 l k La Lb Ka Kb wr) (hk : k < len) (a b : Int) : watchP Kb ⟨((len - 1 - k : Nat) : Int), a, b⟩ = (0, insG keyW ⟨((len - 1 - k : Nat) : Int), a, b⟩ Kb) :=
  watchP_new fun y hy e => by
    obtain ⟨j, _, h1, _, rfl⟩ := (h.kb y).1 hy
    simp only at e
    omega
/-- One round. -/
theorem OrdR.step (h : OrdR W len pm b1 b2 pn d1 d2 l k La Lb Ka Kb wr) (hl : l.length = len) (hk : k < len) (hx : l[k]'(by omega) = x) (hy : l[len - 1 - k]'(by omega) = y)
    (ha : LK W V pm b1 b2 (2 * k + 2) (linkP La x.a x.b).2 (insG keyW ⟨(k : Int), x.a, x.b⟩ Ka)) (hb : LK W V pn d1 d2 (2 * k + 2) (linkP Lb y.b y.a).2 (insG keyW ⟨((len - 1 - k : Nat) : Int), y.a, y.b⟩ Kb)) :
    OrdR W len pm b1 b2 pn d1 d2 l (k + 1) (linkP La x.a x.b).2 (linkP Lb y.b y.a).2 (insG keyW ⟨(k : Int), x.a, x.b⟩ Ka) (insG keyW ⟨((len - 1 - k : Nat) : Int), y.a, y.b⟩ Kb) V := by
  have hd : l.drop (len - (k + 1)) = y :: l.drop (len - k) := by
    rw [show len - (k + 1) = len - 1 - k by omega, List.drop_eq_getElem_cons (by omega), hy, show len - 1 - k + 1 = len - k by omega]
  have ht : l.take (k + 1) = l.take k ++ [x] := by rw [take_s l k (by omega), hx]
  refine ⟨ha, hb, fun p => ?_, fun p => ?_, fun z => ?_, fun z => ?_, ?_, h.ne⟩
  · rw [mem_linkP, ht, setL_snoc, h.la]
  · rw [mem_linkP, hd, setL_cons, h.lb, pairN_comm]
    constructor
    · rintro (h9 | ⟨h9, h8⟩)
      · exact .inl h9
      · exact .inr ⟨fun e => h9 e.symm, h8⟩
    · rintro (h9 | ⟨h9, h8⟩)
      · exact .inl h9
      · exact .inr ⟨fun e => h9 e.symm, h8⟩
  · rw [mem_insW, setK_a (by omega), h.ka, hx]
  · rw [mem_insW, setK_b hl hk, h.kb, hy]
  · have h1 := linkP_len (L := La) (a := x.a) (b := x.b)
    have h2 := linkP_len (L := Lb) (a := y.b) (b := y.a)
    obtain ⟨n1, n2, n3, n4⟩ := h.na
    exact ⟨by omega, by omega, by rw [insG_len]; omega, by rw [insG_len]; omega⟩
theorem OrdR.end_ (h : OrdR W len pm b1 b2 pn d1 d2 l len La Lb Ka Kb wr) (hl : l.length = len) : psP La = psP Lb ∧ wsP Ka = wsP Kb ∧ (wsP Ka).length = len := by
  have h1 : La.Perm Lb := (List.perm_ext_iff_of_nodup h.a.lk.nd h.b.lk.nd).2 fun p => by
    rw [h.la, h.lb, Nat.sub_self, List.drop_zero, List.take_of_length_le (by omega)]
  have kn : ∀ {K : WL}, K.Pairwise (fun x y => x.ref ≠ y.ref) → K.Nodup := fun h => h.imp fun h e => h (by rw [e])
  have h2 : Ka.Perm Kb := (List.perm_ext_iff_of_nodup (kn h.a.lk.knd) (kn h.b.lk.knd)).2 fun x => by
    rw [h.ka, h.kb, Nat.sub_self]
  exact ⟨psP_of_perm h1, wsP_eq ((wsP_perm Ka).trans h2) (wsP_ord h.a.lk.knd), by rw [(wsP_perm Ka).length_eq]; exact h.na.2.2.1⟩
end
end Go.Proofs.Ytpfikhamokjdjaa
