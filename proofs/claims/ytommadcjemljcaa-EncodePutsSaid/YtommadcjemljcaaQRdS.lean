/- Layer 8, the reference: what is read of bytes, as a relation; what was laid is read; its reader in memory while terms are read. -/
import Derived.Test.YtommadcjemljcaaEncR
import Derived.Test.YtommadcjemljcaaRdX
import Derived.Test.YtommadcjemljcaaRdrB
import Derived.IntWalk
namespace Go.Proofs.Ytommadcjemljcaa
open Go.RowKit
set_option linter.unusedVariables false

/-! What is read of bytes, as a relation; what was laid is read. -/
/-- What the reference reads of a term ahead of its items: its kind, its number, its name, how many items come. -/
inductive HeadQ (t : TS) : Int → Int → List UInt8 → Nat → TS → Prop
  | k1 (h : t.byte.1 = 1) : HeadQ t 1 t.byte.2.int.1 [] 0 t.byte.2.int.2
  | k2 (h : t.byte.1 = 2) : HeadQ t 2 0 (t.byte.2.str 255).1 0 (t.byte.2.str 255).2
  | k35 (h : t.byte.1 = 3 ∨ t.byte.1 = 5) : HeadQ t t.byte.1.toNat (i64 (t.byte.2.number false).1.1) [] 0 (t.byte.2.number false).2
  | k4 (h : t.byte.1 = 4) : HeadQ t 4 (i64 (t.byte.2.number false).1.1) [] ((t.byte.2.number false).2.number false).1.1 ((t.byte.2.number false).2.number false).2
  | k6 (h : t.byte.1 = 6) : HeadQ t 6 0 [] (t.byte.2.number false).1.1 (t.byte.2.number false).2
  | k8 (h : t.byte.1 = 8) : HeadQ t 8 0 [] 2 t.byte.2
  | ko (h : t.byte.1 ≠ 1 ∧ t.byte.1 ≠ 2 ∧ t.byte.1 ≠ 3 ∧ t.byte.1 ≠ 5 ∧ t.byte.1 ≠ 4 ∧ t.byte.1 ≠ 6 ∧ t.byte.1 ≠ 8) : HeadQ t t.byte.1.toNat 0 [] 0 t.byte.2
mutual
/-- A term is read by the reference. -/
inductive TermQ : TS → Int → TV → TS → Int → Prop
  | mk {t T t' : TS} {left l1 l2 : Int} {k z : Int} {s : List UInt8} {n : Nat} {xs : List TV} (hh : HeadQ t k z s n T) (hs : SomeQ n T (left - 1) xs t' l1) (hl : l2 = if xs.length < n then -1 else l1) : TermQ t left (.mk k z s xs) t' l2
/-- So many terms, as long as all is right. -/
inductive SomeQ : Nat → TS → Int → List TV → TS → Int → Prop
  | stop {n : Nat} {t : TS} {left : Int} (h : ¬ (0 < n ∧ t.fault = 0 ∧ 0 < left)) : SomeQ n t left [] t left
  | more {n : Nat} {t t1 t2 : TS} {left l1 l2 : Int} {x : TV} {r : List TV} (h : 0 < n ∧ t.fault = 0 ∧ 0 < left) (hx : TermQ t left x t1 l1) (hr : SomeQ (n - 1) t1 l1 r t2 l2) : SomeQ n t left (x :: r) t2 l2
end
theorem strq_len (t : TS) : (t.str 255).1.length ≤ 255 := by
  unfold TS.str
  split
  · simp
  · split
    · simp
    · split
      · simp
      · rename_i h _
        simp only [List.length_take]
        have : (max (255 : Int) 0).toNat = 255 := by decide
        omega
theorem headQ_name {t T : TS} {k z : Int} {s : List UInt8} {n : Nat} (h : HeadQ t k z s n T) : s.length ≤ 255 := by
  cases h <;> first | exact strq_len _ | simp
mutual
theorem termQ_named : ∀ {t : TS} {left : Int} {x : TV} {t' : TS} {left' : Int}, TermQ t left x t' left' → x.named
  | _, _, _, _, _, .mk hh hs _ => by
    have h1 := headQ_name hh
    have h2 := someQ_named hs
    simp only [TV.named]
    exact ⟨by omega, h2⟩
theorem someQ_named : ∀ {n : Nat} {t : TS} {left : Int} {xs : List TV} {t' : TS} {left' : Int}, SomeQ n t left xs t' left' → TV.namedL xs
  | _, _, _, _, _, _, .stop _ => by simp [TV.namedL]
  | _, _, _, _, _, _, .more _ hx hr => by
    simp only [TV.namedL]
    exact ⟨termQ_named hx, someQ_named hr⟩
end
def HeadIs (k z : Int) (s : List UInt8) (len : Nat) (T : TS) (k' z' : Int) (s' : List UInt8) (n : Nat) (T' : TS) : Prop :=
  k' = k ∧ z' = z ∧ s' = s ∧ ((n = len ∧ (k = 4 ∨ k = 6 ∨ k = 8)) ∨ (n = 0 ∧ len = 0)) ∧ T' = T
/-- The head of what was laid. -/
theorem headQ_at {k z : Int} {s : List UInt8} {len : Nat} {rest : List UInt8} {t T : TS} {k' z' : Int} {s' : List UInt8} {n : Nat} (hf : t.fault = 0) (hd : t.bytes.drop t.pos = layH k z s len ++ rest) (hT : headB k z s len = true) (hlp : len ≤ 1000000) (hh : HeadQ t k' z' s' n T) :
    HeadIs k z s len { t with pos := t.pos + (layH k z s len).length } k' z' s' n T := by
  rcases head_cases hT with ⟨rfl, a1, a2, a3, rfl⟩ | ⟨rfl, a1, a2, a3, rfl⟩ | ⟨hk, a1, a2, a3, rfl⟩ | ⟨rfl, a1, a2, rfl⟩ | ⟨rfl, rfl, rfl⟩ | ⟨rfl, a1, rfl, rfl⟩ | ⟨rfl, a1, rfl, rfl⟩
  · have hH : layH 1 z [] len = 1 :: laidI z := by simp [layH]
    rw [hH] at hd ⊢
    obtain ⟨hb, hd1⟩ := byte_at hf (show t.bytes.drop t.pos = 1 :: (laidI z ++ rest) by rw [hd]; simp)
    have hi := int_at (t := { t with pos := t.pos + 1 }) hf (by omega) (by omega) hd1
    cases hh <;> simp only [hb] at * <;> first | (rename_i h; exact absurd h (by decide)) | skip
    · rw [hi]
      unfold HeadIs; exact ⟨rfl, rfl, rfl, .inr ⟨rfl, a3⟩, by simp only [TS.mk.injEq, true_and, and_true, List.length_cons]; omega⟩
  · have hH : layH 2 0 s len = 2 :: laidS s := by simp [layH]
    rw [hH] at hd ⊢
    obtain ⟨hb, hd1⟩ := byte_at hf (show t.bytes.drop t.pos = 2 :: (laidS s ++ rest) by rw [hd]; simp)
    have hi := str_at (t := { t with pos := t.pos + 1 }) (most := 255) hf (by omega) (by omega) hd1
    cases hh <;> simp only [hb] at * <;> first | (rename_i h; exact absurd h (by decide)) | skip
    · rw [hi]
      unfold HeadIs; exact ⟨rfl, rfl, rfl, .inr ⟨rfl, a3⟩, by simp only [TS.mk.injEq, true_and, and_true, List.length_cons]; omega⟩
  · obtain ⟨m, rfl⟩ := Int.eq_ofNat_of_zero_le a1
    have hi : ∀ r, t.bytes.drop (t.pos + 1) = laidB m 0 ++ r → _ := fun r h => number_at (t := { t with pos := t.pos + 1 }) hf (by omega) h
    have hmm : i64 m = m := i64_small (by omega)
    rcases hk with rfl | rfl
    · have hH : layH 3 m [] len = 3 :: laidB m 0 := by simp [layH]
      rw [hH] at hd ⊢
      obtain ⟨hb, hd1⟩ := byte_at hf (show t.bytes.drop t.pos = 3 :: (laidB m 0 ++ rest) by rw [hd]; simp)
      have hi := hi _ hd1
      cases hh <;> simp only [hb] at * <;> first | (rename_i h; exact absurd h (by decide)) | skip
      · rw [hi]
        unfold HeadIs; exact ⟨rfl, hmm, rfl, .inr ⟨rfl, a3⟩, by simp only [TS.mk.injEq, true_and, and_true, List.length_cons, laidB_len]; omega⟩
    · have hH : layH 5 m [] len = 5 :: laidB m 0 := by simp [layH]
      rw [hH] at hd ⊢
      obtain ⟨hb, hd1⟩ := byte_at hf (show t.bytes.drop t.pos = 5 :: (laidB m 0 ++ rest) by rw [hd]; simp)
      have hi := hi _ hd1
      cases hh <;> simp only [hb] at * <;> first | (rename_i h; exact absurd h (by decide)) | skip
      · rw [hi]
        unfold HeadIs; exact ⟨rfl, hmm, rfl, .inr ⟨rfl, a3⟩, by simp only [TS.mk.injEq, true_and, and_true, List.length_cons, laidB_len]; omega⟩
  · obtain ⟨m, rfl⟩ := Int.eq_ofNat_of_zero_le a1
    have hmm : i64 m = m := i64_small (by omega)
    have hH : layH 4 m [] len = 4 :: (laidB m 0 ++ laidB len 0) := by simp [layH]
    rw [hH] at hd ⊢
    obtain ⟨hb, hd1⟩ := byte_at hf (show t.bytes.drop t.pos = 4 :: (laidB m 0 ++ (laidB len 0 ++ rest)) by rw [hd]; simp)
    have hi := number_at (t := { t with pos := t.pos + 1 }) hf (by omega) hd1
    have hd2 := drop_more hd1
    rw [laidB_len] at hd2
    have hj := number_at (t := { t with pos := t.pos + 1 + (wid m + 1) }) hf (by omega) hd2
    cases hh <;> simp only [hb] at * <;> first | (rename_i h; exact absurd h (by decide)) | skip
    · simp only [hi, hj]
      unfold HeadIs; exact ⟨rfl, hmm, rfl, .inl ⟨rfl, .inl rfl⟩, by simp only [TS.mk.injEq, true_and, and_true, List.length_cons, List.length_append, laidB_len]; omega⟩
  · have hH : layH 6 0 [] len = 6 :: laidB len 0 := by simp [layH]
    rw [hH] at hd ⊢
    obtain ⟨hb, hd1⟩ := byte_at hf (show t.bytes.drop t.pos = 6 :: (laidB len 0 ++ rest) by rw [hd]; simp)
    have hj := number_at (t := { t with pos := t.pos + 1 }) hf (by omega) hd1
    cases hh <;> simp only [hb] at * <;> first | (rename_i h; exact absurd h (by decide)) | skip
    · simp only [hj]
      unfold HeadIs; exact ⟨rfl, rfl, rfl, .inl ⟨rfl, .inr (.inl rfl)⟩, by simp only [TS.mk.injEq, true_and, and_true, List.length_cons, laidB_len]; omega⟩
  · have hH : layH 7 0 [] len = [7] := by simp [layH]
    rw [hH] at hd ⊢
    obtain ⟨hb, hd1⟩ := byte_at hf (show t.bytes.drop t.pos = 7 :: rest by rw [hd]; simp)
    cases hh <;> simp only [hb] at * <;> first | (rename_i h; exact absurd h (by decide)) | skip
    · unfold HeadIs; exact ⟨rfl, rfl, rfl, .inr ⟨rfl, a1⟩, rfl⟩
  · have hH : layH 8 0 [] len = [8] := by simp [layH]
    rw [hH] at hd ⊢
    obtain ⟨hb, hd1⟩ := byte_at hf (show t.bytes.drop t.pos = 8 :: rest by rw [hd]; simp)
    cases hh <;> simp only [hb] at * <;> first | (rename_i h; exact absurd h (by decide)) | skip
    · unfold HeadIs; exact ⟨rfl, rfl, rfl, .inl ⟨a1.symm, .inr (.inr rfl)⟩, rfl⟩
theorem headQ_len {k z : Int} {s : List UInt8} {len : Nat} {rest : List UInt8} {t T : TS} {k' z' : Int} {s' : List UInt8} {n : Nat} (hf : t.fault = 0) (hd : t.bytes.drop t.pos = layH k z s len ++ rest) (hT : headB k z s len = true) (hlp : len ≤ 1000000) (hh : HeadQ t k' z' s' n T) :
    k' = k ∧ z' = z ∧ s' = s ∧ n = len ∧ T = { t with pos := t.pos + (layH k z s len).length } := by
  obtain ⟨h1, h2, h3, h4, h6⟩ := headQ_at hf hd hT hlp hh
  refine ⟨h1, h2, h3, ?_, h6⟩
  rcases h4 with ⟨h4, _⟩ | ⟨h4, h5⟩ <;> omega
/-- A term was laid: it is what is read. -/
def TermGoalQ (y : TV) : Prop := ∀ (rest : List UInt8) (t : TS) (left : Int) (x : TV) (t' : TS) (left' : Int), t.fault = 0 → t.bytes.drop t.pos = layT y ++ rest → y.isT = true → (y.parts : Int) ≤ left → left ≤ 1000000 → TermQ t left x t' left' →
  x = y ∧ t' = { t with pos := t.pos + (layT y).length } ∧ left' = left - y.parts
def SomeGoalQ (l : List TV) : Prop := ∀ (rest : List UInt8) (t : TS) (left : Int) (xs : List TV) (t' : TS) (left' : Int), t.fault = 0 → t.bytes.drop t.pos = layTs l ++ rest → TV.isL l = true → (TV.partsL l : Int) ≤ left → left ≤ 1000000 → SomeQ l.length t left xs t' left' →
  xs = l ∧ t' = { t with pos := t.pos + (layTs l).length } ∧ left' = left - TV.partsL l
theorem someq_nil : SomeGoalQ [] := by
  intro rest t left xs t' left' hf hd _ hl _ hR
  cases hR with
  | stop h => exact ⟨rfl, by simp [layTs], by simp [TV.partsL]⟩
  | more h _ _ => exact absurd h.1 (by simp)
theorem someq_cons {y : TV} {l : List TV} (hy : TermGoalQ y) (hl : SomeGoalQ l) : SomeGoalQ (y :: l) := by
  intro rest t left xs t' left' hf hd hT hp h6 hR
  simp only [TV.isL, Bool.and_eq_true] at hT
  simp only [TV.partsL] at hp
  simp only [layTs, List.append_assoc] at hd
  have hyp := y.parts_pos
  cases hR with
  | stop h => exact absurd ⟨by simp, hf, by omega⟩ h
  | more h hx hr =>
    obtain ⟨rfl, rfl, rfl⟩ := hy _ _ _ _ _ _ hf hd hT.1 (by omega) h6 hx
    obtain ⟨e1, rfl, rfl⟩ := hl rest { t with pos := t.pos + (layT _).length } _ _ _ _ hf (drop_more hd) hT.2 (by omega) (by omega) hr
    obtain rfl := e1.symm
    refine ⟨rfl, ?_, ?_⟩
    · simp only [layTs, List.length_append, TS.mk.injEq, true_and, and_true]; omega
    · simp only [TV.partsL]; push_cast; omega
theorem termq_one {k n : Int} {s : List UInt8} {l : List TV} (hl : SomeGoalQ l) : TermGoalQ (.mk k n s l) := by
  intro rest t left x t' left' hf hd hT hp h6 hR
  simp only [TV.isT, Bool.and_eq_true] at hT
  simp only [TV.parts] at hp
  have hlp := len_parts l
  simp only [layT, List.append_assoc] at hd
  cases hR with
  | mk hh hs hl2 =>
    obtain ⟨rfl, rfl, rfl, rfl, rfl⟩ := headQ_len hf hd hT.1 (by omega) hh
    obtain ⟨e1, rfl, rfl⟩ := hl rest { t with pos := t.pos + (layH _ _ _ l.length).length } _ _ _ _ hf (drop_more hd) hT.2 (by omega) (by omega) hs
    obtain rfl := e1.symm
    rw [if_neg (Nat.lt_irrefl _)] at hl2
    refine ⟨rfl, ?_, by rw [hl2]; simp only [TV.parts]; push_cast; omega⟩
    simp only [layT, List.length_append, TS.mk.injEq, true_and, and_true]; omega
mutual
theorem termq_goal : ∀ y : TV, TermGoalQ y
  | .mk k n s l => termq_one (someq_goal l)
theorem someq_goal : ∀ l : List TV, SomeGoalQ l
  | [] => someq_nil
  | y :: l => someq_cons (termq_goal y) (someq_goal l)
end
/-- Bytes that terms have are read as those. -/
theorem getq_law {l : List UInt8} {ys xs : List TV} {t' : TS} {left' : Int} (hc : TV.partsL ys ≤ 4096 ∧ TV.isL ys = true) (hp : putB ys = l)
    (hs : SomeQ ((⟨l, 0, 0, 0⟩ : TS).number false).1.1 ((⟨l, 0, 0, 0⟩ : TS).number false).2 4096 xs t' left') : xs = ys ∧ ((⟨l, 0, 0, 0⟩ : TS).number false).1.1 = xs.length ∧ t'.end_ = 0 ∧ 0 ≤ left' := by
  obtain ⟨h1, h2⟩ := hc
  have hlp := len_parts ys
  have hd : (⟨l, 0, 0, 0⟩ : TS).bytes.drop (⟨l, 0, 0, 0⟩ : TS).pos = laidB ys.length 0 ++ layTs ys := by simp [← hp, putB]
  have hn := number_at (t := ⟨l, 0, 0, 0⟩) (n := ys.length) rfl (by omega) hd
  rw [hn] at hs ⊢
  have hd2 := drop_more hd
  rw [laidB_len] at hd2
  obtain ⟨rfl, rfl, rfl⟩ := someq_goal ys [] ⟨l, 0 + (wid ys.length + 1), 0, 0⟩ 4096 xs t' left' rfl (by simpa using hd2) h2 (by omega) (by omega) hs
  refine ⟨rfl, rfl, ?_, by omega⟩
  have hl : l.length = wid xs.length + 1 + (layTs xs).length := by rw [← hp, putB, List.length_append, laidB_len]
  unfold TS.end_
  simp only [hl]
  rw [if_neg]
  omega

/-- The reader: its tape, how many parts may still come. -/
structure RQ (pl pt : Nat) (A : Option Addr) (c : Nat) (t : TS) (left : Int) (W : World) : Prop where
  tape : ReadAt pt A c t W
  box : Blk W pl 3 #[.int .i64 left]
  ne : pt ≠ pl
  ne2 : ∀ b off, A = some ⟨b, off, none⟩ → b ≠ pl
def QTermEnds (pl pt : Nat) (A : Option Addr) (c : Nat) (t : TS) (left : Int) (W : World) (r : Ending) (w' : World) : Prop :=
  ∃ (x : EX) (t' : TS) (left' : Int), r = .returned (.agg #[.int .i64 x.t.kind, .int .i64 x.t.int, .string ⟨x.t.name.toArray⟩, .slice x.A x.t.items.length x.c]) ∧ TermQ t left x.t t' left' ∧ RQ pl pt A c t' left' w' ∧ RdX (fun k => k < W.heap.size) w' x.A x.c x.t.items ∧ Fr (fun k => k = pt ∨ k = pl) W w' ∧ left' < left ∧ -1 ≤ left'
def qzero4 : List Value := [.int .i64 0, .int .i64 0, .string ⟨#[]⟩, .slice none 0 0]
/-- While a term is read. -/
structure KQ (pl pt : Nat) (A : Option Addr) (c tb : Nat) (t : TS) (left : Int) (cs : List Value) (W V : World) : Prop where
  rs : RQ pl pt A c t left V
  r : Blk V W.heap.size 39 qzero4.toArray
  t : Blk V tb 39 cs.toArray
  fr : Fr (fun k => k = pt ∨ k = pl) W V
  lt : W.heap.size < tb
  old : pl < W.heap.size ∧ pt < W.heap.size
  oldA : ∀ b off, A = some ⟨b, off, none⟩ → 0 < 1 → b < W.heap.size
/-- Ahead of it. -/
structure KQ0 (pl pt : Nat) (A : Option Addr) (c : Nat) (t : TS) (left : Int) (W V : World) : Prop where
  rs : RQ pl pt A c t left V
  r : Blk V W.heap.size 39 qzero4.toArray
  fr : Fr (fun k => k = pt ∨ k = pl) W V
  old : pl < W.heap.size ∧ pt < W.heap.size
  oldA : ∀ b off, A = some ⟨b, off, none⟩ → 0 < 1 → b < W.heap.size
section
variable {pl pt : Nat} {A : Option Addr} {c tb : Nat} {t t' : TS} {left left' : Int} {cs : List Value} {W W' V V' : World}
theorem RQ.keep (h : RQ pl pt A c t left W) (hb : Below W.heap.size W W') : RQ pl pt A c t left W' := ⟨h.tape.keep hb, h.box.keep hb, h.ne, h.ne2⟩
theorem RQ.far {F : Nat → Prop} (h : RQ pl pt A c t left W) (hf : Fr F W W') (h1 : ¬ F pt) (h2 : ¬ F pl) (h3 : ∀ b off, A = some ⟨b, off, none⟩ → ¬ F b) : RQ pl pt A c t left W' := ⟨h.tape.far hf h1 h3, hf.blk h.box h2, h.ne, h.ne2⟩
theorem RQ.act (h : RQ pl pt A c t left W) (a : RAct W pt A c t' W') : RQ pl pt A c t' left W' := ⟨a.tape, a.fr.blk h.box (fun e => h.ne e.symm), h.ne, h.ne2⟩
theorem RQ.dec (h : RQ pl pt A c t left W) (z : Int) : RQ pl pt A c t z (W.setCell ⟨pl, 0, none⟩ (.int .i64 z)) :=
  ⟨h.tape.far (Fr.setCell (fun k => k = pl) W (p := ⟨pl, 0, none⟩) (fun _ => rfl) _) h.ne h.ne2, h.box.set_ 0 _, h.ne, h.ne2⟩
theorem RQ.lt (h : RQ pl pt A c t left W) : pl < W.heap.size ∧ pt < W.heap.size := ⟨h.box.lt, h.tape.obj.lt⟩
theorem KQ0.start (h : RQ pl pt A c t left W) (hA : ∀ b off, A = some ⟨b, off, none⟩ → b < W.heap.size) : KQ0 pl pt A c t left W (W.alloc (.cells qzero4.toArray 39)) :=
  ⟨h.keep (below_alloc _ _), Blk.new _ _ _, Fr.alloc _ _ _, h.lt, fun b off e _ => hA b off e⟩
theorem KQ0.dec (h : KQ0 pl pt A c t left W V) (z : Int) : KQ0 pl pt A c t z W (V.setCell ⟨pl, 0, none⟩ (.int .i64 z)) := by
  have ho := h.old
  exact ⟨h.rs.dec z, h.r.far (p := ⟨pl, 0, none⟩) (by simp; omega) _, h.fr.same (Fr.setCell _ _ (p := ⟨pl, 0, none⟩) (fun _ => .inr rfl) _), h.old, h.oldA⟩
theorem KQ0.act (h : KQ0 pl pt A c t left W V) (a : RAct V pt A c t' V') : KQ0 pl pt A c t' left W V' := by
  have ho := h.old
  exact ⟨h.rs.act a, a.fr.blk h.r (by omega), h.fr.same (a.fr.weak fun k _ e => .inl e), h.old, h.oldA⟩
theorem KQ0.kt (h : KQ0 pl pt A c t left W V) (cs : List Value) : KQ pl pt A c V.heap.size t left cs W (V.alloc (.cells cs.toArray 39)) :=
  ⟨h.rs.keep (below_alloc _ _), h.r.alloc _, Blk.new _ _ _, h.fr.same (Fr.alloc _ _ _), h.r.lt, h.old, h.oldA⟩
theorem KQ.keep (h : KQ pl pt A c tb t left cs W V) (hb : Below V.heap.size V V') : KQ pl pt A c tb t left cs W V' := ⟨h.rs.keep hb, h.r.keep hb, h.t.keep hb, h.fr.same (Fr.of_below hb _), h.lt, h.old, h.oldA⟩
theorem KQ.act (h : KQ pl pt A c tb t left cs W V) (a : RAct V pt A c t' V') : KQ pl pt A c tb t' left cs W V' := by
  have ho := h.old
  have hl := h.lt
  exact ⟨h.rs.act a, a.fr.blk h.r (by omega), a.fr.blk h.t (by omega), h.fr.same (a.fr.weak fun k _ e => .inl e), h.lt, h.old, h.oldA⟩
theorem KQ.step (h : KQ pl pt A c tb t left cs W V) (hr : RQ pl pt A c t' left' V') (hf : Fr (fun k => k = pt ∨ k = pl) V V') : KQ pl pt A c tb t' left' cs W V' := by
  have ho := h.old
  have hl := h.lt
  exact ⟨hr, hf.blk h.r (by omega), hf.blk h.t (by omega), h.fr.same hf, h.lt, h.old, h.oldA⟩
theorem KQ.set_ (h : KQ pl pt A c tb t left cs W V) (i : Nat) (v : Value) : KQ pl pt A c tb t left (cs.set i v) W (V.setCell ⟨tb, i, none⟩ v) := by
  have ho := h.old
  have hl := h.lt
  have hf := Fr.setCell (fun k => k = tb) V (p := ⟨tb, i, none⟩) (fun _ => rfl) v
  refine ⟨h.rs.far hf (by omega) (by omega) (fun b off e => by have := h.oldA b off e (by omega); omega), hf.blk h.r (by omega), ?_, h.fr.trans (Fr.setCell (fun k => k = tb) V (p := ⟨tb, i, none⟩) (fun _ => rfl) v) (fun k hk e => by omega), h.lt, h.old, h.oldA⟩
  have h9 := h.t.set_ i v
  simpa using h9
theorem KQ.dec (h : KQ pl pt A c tb t left cs W V) (z : Int) : KQ pl pt A c tb t z cs W (V.setCell ⟨pl, 0, none⟩ (.int .i64 z)) := by
  have ho := h.old
  have hl := h.lt
  have hf := Fr.setCell (fun k => k = pl) V (p := ⟨pl, 0, none⟩) (fun _ => rfl) (.int .i64 z)
  exact ⟨h.rs.dec z, hf.blk h.r (by omega), hf.blk h.t (by omega), h.fr.same (Fr.setCell _ _ (p := ⟨pl, 0, none⟩) (fun _ => .inr rfl) _), h.lt, h.old, h.oldA⟩
theorem KQ.far {F : Nat → Prop} (h : KQ pl pt A c tb t left cs W V) (hf : Fr F V V') (h0 : ∀ k, F k → tb < k) : KQ pl pt A c tb t left cs W V' := by
  have ho := h.old
  have hl := h.lt
  exact ⟨h.rs.far hf (fun e => by have := h0 _ e; omega) (fun e => by have := h0 _ e; omega) (fun b off e e2 => by have := h.oldA b off e (by omega); have := h0 _ e2; omega), hf.blk h.r (fun e => by have := h0 _ e; omega), hf.blk h.t (fun e => by have := h0 _ e; omega), h.fr.trans hf (fun k hk e => by have := h0 _ e; omega), h.lt, h.old, h.oldA⟩

/-- The row of terms that have been read so far (their row is the items of the term that is read). -/
structure SQ (pl pt : Nat) (A : Option Addr) (c tb : Nat) (n : Nat) (t : TS) (left : Int) (cs : Value → List Value) (B : Nat) (W : World) (v : Value) (wr : World) (xs : List EX) (tk : TS) (lk : Int) : Prop where
  own : wr.ownsRow B 39 4 v xs.length (exL xs)
  each : ∀ x ∈ xs, RdX (fun k => k < B ∨ v.ownBlock = some k ∨ wr.heap.size ≤ k) wr x.A x.c x.t.items
  kq : KQ pl pt A c tb tk lk (cs v) W wr
  lo : lk ≤ left - xs.length
  hi : -1 ≤ lk
  le : xs.length ≤ n
  base : tb < B ∧ B ≤ wr.heap.size
  rel : ∀ r t' l', SomeQ (n - xs.length) tk lk r t' l' → SomeQ n t left (xs.map (fun x : EX => x.t) ++ r) t' l'
variable {cs : Value → List Value} {n B : Nat}
theorem SQ.start (h : KQ pl pt A c tb t left (cs (.slice none 0 0)) W V) (hl : -1 ≤ left) : SQ pl pt A c tb n t left cs V.heap.size W (.slice none 0 0) V [] t left :=
  ⟨World.ownsRow_nil _ _ _ _, fun x hx => by simp at hx, h, by simp, hl, Nat.zero_le _, ⟨h.t.lt, Nat.le_refl _⟩, fun r t' l' hr => by simpa using hr⟩
theorem SQ.keep {v : Value} {wr wq : World} {xs : List EX} {tk : TS} {lk : Int} (h : SQ pl pt A c tb n t left cs B W v wr xs tk lk) (hb : Below wr.heap.size wr wq) : SQ pl pt A c tb n t left cs B W v wq xs tk lk := by
  have s1 := hb.size
  have s2 := h.base
  refine ⟨own_far h.own hb, fun x hx => ((h.each x hx).below hb).mono fun k hk => ?_, h.kq.keep hb, h.lo, h.hi, h.le, ⟨s2.1, by omega⟩, h.rel⟩
  rcases hk with hk | hk | hk
  · exact .inl hk
  · exact .inr (.inl hk)
  · exact .inr (.inr (by omega))
theorem SQ.step {v v' : Value} {wr w5 w6 : World} {xs : List EX} {tk t' : TS} {lk l' : Int} {x : EX} {o : Obj} (h : SQ pl pt A c tb n t left cs B W v wr xs tk lk) (hgo : xs.length < n ∧ tk.fault = 0 ∧ 0 < lk) (hcs : (cs v).set 3 v' = cs v')
    (hx : TermQ tk lk x.t t' l') (hR : RQ pl pt A c t' l' w5) (hX : RdX (fun k => k < wr.heap.size) w5 x.A x.c x.t.items) (hF : Fr (fun k => k = pt ∨ k = pl) wr w5) (hl : l' < lk) (hg : -1 ≤ l')
    (ho : w6.ownsRow B 39 4 v' (xs.length + 1) (exL xs ++ x.cells)) (hgr : (w5.alloc o).grownBy w6 v.ownBlock) (hv : v'.ownBlock = v.ownBlock ∨ v'.ownBlock = some (w5.alloc o).heap.size) :
    SQ pl pt A c tb n t left cs B W v' (w6.setCell ⟨tb, 3, none⟩ v') (xs ++ [x]) t' l' := by
  obtain ⟨o1, o2⟩ := h.kq.old
  obtain ⟨b1, b2⟩ := h.base
  have hlt := h.kq.lt
  have s2 := hF.size
  have s3 := hgr.size
  have s4 : (w5.alloc o).heap.size = w5.heap.size + 1 := by simp
  have hown : ∀ k, v.ownBlock = .some k → B ≤ k ∧ k < wr.heap.size := fun k hk => h.own.lt k hk
  have hown' : ∀ k, v'.ownBlock = .some k → B ≤ k ∧ k < w6.heap.size := fun k hk => ho.lt k hk
  have hFg : Fr (fun k => v.ownBlock = .some k) (w5.alloc o) w6 := Fr.of_grown hgr (fun k e _ => e)
  have hFs := Fr.setCell (fun k => k = tb) w6 (p := ⟨tb, 3, none⟩) (fun _ => rfl) v'
  have hK5 := (h.kq.step hR hF).keep (below_alloc w5 o)
  have hK6 := (hK5.far hFg (fun k e => by have := (hown k e).1; omega)).set_ 3 v'
  rw [hcs] at hK6
  have s5 : (w6.setCell ⟨tb, 3, none⟩ v').heap.size = w6.heap.size := by simp
  refine ⟨?_, ?_, hK6, ?_, hg, ?_, ⟨b1, by omega⟩, ?_⟩
  · rw [exL_append, exL_one, List.length_append]
    refine World.ownsRow.kept (row := some tb) ho (grown_setCell (grown_refl _ (some tb)) (p := ⟨tb, 3, none⟩) (.inl rfl) _) ?_
    cases hq : v'.ownBlock with
    | none => exact .inl rfl
    | some g9 => exact .inr (fun e9 => by injection e9 with e9; have := (hown' g9 hq).1; omega)
  · intro y hy
    rcases List.mem_append.1 hy with hy | hy
    · have h1 := h.each y hy
      have h2 := (((h1.to ((KeepEx.of_fr hF).mono (fun k e => .inl (by omega)))).below (below_alloc w5 o)).to ((KeepEx.of_fr hFg).mono (fun k e => .inr (.inl e)))).to ((KeepEx.of_fr hFs).mono (fun k e => .inl (by omega)))
      refine h2.mono fun k hk => ?_
      rcases hk with hk | hk | hk
      · exact .inl hk
      · rcases hv with e | e
        · exact .inr (.inl (e ▸ hk))
        · rw [e] at hk
          injection hk with hk
          exact .inr (.inr (by omega))
      · exact .inr (.inr (by omega))
    · obtain rfl : y = x := by simpa using hy
      have h2 := ((hX.new.below (below_alloc w5 o)).to ((KeepEx.of_fr hFg).mono (fun k e => .inl (by have := (hown k e).2; omega)))).to ((KeepEx.of_fr hFs).mono (fun k e => .inl (by omega)))
      refine h2.mono fun k hk => ?_
      rcases hk with hk | hk | hk
      · exact .inl (by omega)
      · rcases hv with e | e
        · exact .inl (by rw [e] at hk; have := (hown k hk).2; omega)
        · rw [e] at hk
          injection hk with hk
          exact .inr (by omega)
      · exact .inr (by omega)
  · have := h.lo; rw [List.length_append]; simp; omega
  · rw [List.length_append]; simp; omega
  · intro r t'' l'' hr
    have := h.rel (x.t :: r) t'' l'' (.more ⟨by omega, hgo.2⟩ hx (by rw [List.length_append] at hr; simpa [Nat.sub_sub] using hr))
    simpa using this
end
end Go.Proofs.Ytommadcjemljcaa
