/- Layer 11, the document's parser in plain functions: tokens that stand in a longer row are read as they are alone, but for the places. No program is named here. Layer 12, the program's check as plain functions: what is bound where, the first error and its place; names that do not occur have no part. No program is named here. -/
import Derived.Test.YthhindnjnijglaaPaB
namespace Go.Proofs.Ythhindnjnijglaa
section
open Go.RowKit
set_option linter.unusedVariables false

mutual
/-- Without places. -/
def ND.strip : ND → ND
  | .mk k n s _ l m r => .mk k n s 0 (ND.stripL l) (CD.stripL m) (ND.stripL r)
def ND.stripL : List ND → List ND
  | [] => []
  | t :: r => t.strip :: ND.stripL r
def CD.strip : CD → CD
  | .mk p g r s _ => .mk (ND.stripL p) (ND.stripL g) (ND.stripL r) s 0
def CD.stripL : List CD → List CD
  | [] => []
  | t :: r => t.strip :: CD.stripL r
end
theorem ndstrip_append (l m : List ND) : ND.stripL (l ++ m) = ND.stripL l ++ ND.stripL m := by
  induction l with
  | nil => simp [ND.stripL]
  | cons t r ih => simp [ND.stripL, ih]
theorem cdstrip_append (l m : List CD) : CD.stripL (l ++ m) = CD.stripL l ++ CD.stripL m := by
  induction l with
  | nil => simp [CD.stripL]
  | cons t r ih => simp [CD.stripL, ih]
theorem strip_name {a b : ND} (h : a.strip = b.strip) : a.name = b.name := by
  cases a; cases b
  simp only [ND.strip, ND.mk.injEq] at h
  exact h.2.2.1
theorem strip_withAt (a : ND) (p : Int) : (a.withAt p).strip = a.strip := by cases a; rfl

/-- A row of tokens within a longer one, from d on; what stands behind it is a full stop or a comma (or it is not asked). -/
structure Win (T T' : List Tok) (d : Nat) : Prop where
  at_ : ∀ i t, T[i]? = some t → ∃ t', T'[i + d]? = some t' ∧ t'.kind = t.kind ∧ t'.int = t.int ∧ t'.text = t.text
  fin : ∀ t, T'[T.length + d]? = some t → t.kind = 5 ∧ (t.text = sComma ∨ t.text = sDot)
/-- The same place, no error. -/
structure Rl (T : List Tok) (d : Nat) (s s' : PS) : Prop where
  e : s.e = 0
  e' : s'.e = 0
  i : s'.i = s.i + d
  le : s.i ≤ T.length
section
variable {T T' : List Tok} {d fin fin' : Nat} {s s' : PS}
theorem Rl.is_ (W : Win T T' d) (h : Rl T d s s') {w : List UInt8} (hw : s.i < T.length ∨ w ≠ sComma ∧ w ≠ sDot) : isP T' w s' = isP T w s := by
  unfold isP
  rw [h.e, h.e', h.i]
  cases ht : T[s.i]? with
  | some t =>
    obtain ⟨t', h1, h2, _, h4⟩ := W.at_ _ _ ht
    simp only [h1, h2, h4]
  | none =>
    have hlen : s.i = T.length := by
      have := List.getElem?_eq_none_iff.1 ht
      have := h.le
      omega
    rw [hlen]
    cases ht' : T'[T.length + d]? with
    | none => rfl
    | some t =>
      obtain ⟨h1, h2⟩ := W.fin _ ht'
      have hw := hw.resolve_left (by omega)
      have : (t.text == w) = false := by
        rw [beq_eq_false_iff_ne]
        rcases h2 with h2 | h2
        · rw [h2]; exact fun e => hw.1 e.symm
        · rw [h2]; exact fun e => hw.2 e.symm
      simp [this]
theorem Rl.op_ (W : Win T T' d) (h : Rl T d s s') {l : List (List UInt8)} (hl : ∀ w ∈ l, w ≠ sComma ∧ w ≠ sDot) : opP T' l s' = opP T l s := by
  unfold opP
  induction l with
  | nil => rfl
  | cons w r ih =>
    rw [List.find?_cons, List.find?_cons, h.is_ W (.inr (hl w (by simp))), ih fun x hx => hl x (by simp [hx])]
theorem Rl.kind_ (W : Win T T' d) (h : Rl T d s s') : kindP T' 2 s' = kindP T 2 s := by
  unfold kindP
  rw [h.e, h.e', h.i]
  cases ht : T[s.i]? with
  | some t =>
    obtain ⟨t', h1, h2, _, h4⟩ := W.at_ _ _ ht
    simp only [h1, h2]
  | none =>
    have hlen : s.i = T.length := by
      have := List.getElem?_eq_none_iff.1 ht
      have := h.le
      omega
    rw [hlen]
    cases ht' : T'[T.length + d]? with
    | none => rfl
    | some t =>
      obtain ⟨h1, h2⟩ := W.fin _ ht'
      simp [h1]
theorem Rl.nextlt_ (h : Rl T d s s') (hl : s.i < T.length) : Rl T d (nextP s) (nextP s') := ⟨h.e, h.e', by simp only [nextP]; have := h.i; omega, hl⟩
theorem Rl.next_ (h : Rl T d s s') {w : List UInt8} (hw : isP T w s = true) : Rl T d (nextP s) (nextP s') := h.nextlt_ (isP_lt hw).2
/-- What must stand there stands there, where no error has come of it. -/
theorem must_ok {w : List UInt8} (h : (mustP T fin w s).e = 0) (he : s.e = 0) : isP T w s = true := by
  unfold mustP at h
  split at h
  · assumption
  · unfold failP at h
    rw [if_pos he] at h
    simp at h
theorem Rl.must_ (W : Win T T' d) (h : Rl T d s s') {w : List UInt8} (hm : (mustP T fin w s).e = 0) : Rl T d (mustP T fin w s) (mustP T' fin' w s') := by
  have h1 := must_ok hm h.e
  have h2 : isP T' w s' = true := by rw [h.is_ W (.inl (isP_lt h1).2)]; exact h1
  unfold mustP
  rw [if_pos h1, if_pos h2]
  exact h.next_ h1
theorem Rl.deep_ (h : Rl T d s s') {n : Nat} (hm : (deepP T fin n s).e = 0) : deepP T fin n s = s ∧ deepP T' fin' n s' = s' := by
  unfold deepP at hm ⊢
  split at hm
  · unfold failP at hm
    rw [if_pos h.e] at hm
    simp at hm
  · rename_i hn
    rw [if_neg hn, if_neg hn]
    exact ⟨rfl, rfl⟩
theorem stp_e (h : Stp T s s') (he : s'.e = 0) : s.e = 0 := by
  by_cases h0 : s.e = 0
  · exact h0
  · rw [h.e h0] at he; exact absurd he h0
end
section
variable (T T' : List Tok) (d : Nat)
def TrN (f f' : PS → Option (ND × PS)) : Prop := ∀ s s' r, Rl T d s s' → f s = some r → r.2.e = 0 → ∃ r', f' s' = some r' ∧ r'.1.strip = r.1.strip ∧ Rl T d r.2 r'.2
def TrL (b : Bool) (f f' : PS → Option (List ND × PS)) : Prop := ∀ s s' r, Rl T d s s' → f s = some r → r.2.e = 0 → (b = true → r.2.i < T.length) → ∃ r', f' s' = some r' ∧ ND.stripL r'.1 = ND.stripL r.1 ∧ Rl T d r.2 r'.2
def TrC (f f' : PS → Option (CD × PS)) : Prop := ∀ s s' r, Rl T d s s' → f s = some r → r.2.e = 0 → r.2.i < T.length → ∃ r', f' s' = some r' ∧ r'.1.strip = r.1.strip ∧ Rl T d r.2 r'.2
def TrK (f f' : PS → Option (List CD × PS)) : Prop := ∀ s s' r, Rl T d s s' → f s = some r → r.2.e = 0 → r.2.i < T.length → ∃ r', f' s' = some r' ∧ CD.stripL r'.1 = CD.stripL r.1 ∧ Rl T d r.2 r'.2
/-- Each rule gives the same within the longer row. -/
structure Tr (L L' : Lang) : Prop where
  expr : ∀ n, TrN T d (L.expr n) (L'.expr n)
  list : ∀ n, TrL T d true (L.list n) (L'.list n)
  listL : ∀ n o o', ND.stripL o' = ND.stripL o → TrL T d true (L.listL n o) (L'.listL n o')
  maybe_ : ∀ w n, TrL T d false (L.maybe_ w n) (L'.maybe_ w n)
  or_ : ∀ n, TrN T d (L.or_ n) (L'.or_ n)
  orL : ∀ n a a', a'.strip = a.strip → TrN T d (L.orL n a) (L'.orL n a')
  and_ : ∀ n, TrN T d (L.and_ n) (L'.and_ n)
  andL : ∀ n a a', a'.strip = a.strip → TrN T d (L.andL n a) (L'.andL n a')
  rel : ∀ n, TrN T d (L.rel n) (L'.rel n)
  sum : ∀ n, TrN T d (L.sum n) (L'.sum n)
  sumL : ∀ n a a', a'.strip = a.strip → TrN T d (L.sumL n a) (L'.sumL n a')
  prod : ∀ n, TrN T d (L.prod n) (L'.prod n)
  prodL : ∀ n a a', a'.strip = a.strip → TrN T d (L.prodL n a) (L'.prodL n a')
  sign : ∀ n, TrN T d (L.sign n) (L'.sign n)
  call : ∀ n, TrN T d (L.call n) (L'.call n)
  callL : ∀ n b a a', a'.strip = a.strip → TrN T d (L.callL n b a) (L'.callL n b a')
  tail : ∀ n ps ps' nm a a', ND.stripL ps' = ND.stripL ps → TrC T d (L.tail n ps nm a) (L'.tail n ps' nm a')
  head : ∀ n nm a a', TrC T d (L.head n nm a) (L'.head n nm a')
  arms : ∀ n o o', CD.stripL o' = CD.stripL o → TrK T d (L.arms n o) (L'.arms n o')
  funs : ∀ n o o', CD.stripL o' = CD.stripL o → TrK T d (L.funs n o) (L'.funs n o')
  rest : ∀ n, TrN T d (L.rest n) (L'.rest n)
  prim : ∀ n, TrN T d (L.prim n) (L'.prim n)
end
theorem Tr.none_ (T : List Tok) (d : Nat) (L' : Lang) : Tr T d .none_ L' := by
  constructor <;> intros <;> intro s s' r hR hf <;> exact absurd hf (by simp [Lang.none_])
theorem ops_ok (l : List (List UInt8)) (h : l.all (fun w => !(w == sComma) && !(w == sDot)) = true) : ∀ w ∈ l, w ≠ sComma ∧ w ≠ sDot := fun w hw => by
  have := List.all_eq_true.1 h w hw
  simpa using this
section
variable {T T' : List Tok} {d fin fin' : Nat} {L L' : Lang}
theorem bin_tr {sub sub' : Nat → PS → Option (ND × PS)} {lp lpp : Nat → ND → PS → Option (ND × PS)} (hm : ∀ n a s r, lp n a s = some r → Stp T s r.2) (h1 : ∀ n, TrN T d (sub n) (sub' n)) (h2 : ∀ n a a', a'.strip = a.strip → TrN T d (lp n a) (lpp n a')) (n : Nat) : TrN T d (binN sub lp n) (binN sub' lpp n) := by
  intro s s' r hR h he
  unfold binN at h ⊢
  obtain ⟨q, hq, h⟩ := bind_inv h
  obtain ⟨q', e1, e2, e3⟩ := h1 n s s' q hR hq (stp_e (hm _ _ _ _ h) he)
  rw [e1]
  exact h2 n q.1 q'.1 e2 q.2 q'.2 r e3 h he
theorem binL_tr (W : Win T T' d) {l : List (List UInt8)} (hl : ∀ w ∈ l, w ≠ sComma ∧ w ≠ sDot) {sub sub' : Nat → PS → Option (ND × PS)} {lp lpp : Nat → ND → PS → Option (ND × PS)} (hm : ∀ n a s r, lp n a s = some r → Stp T s r.2) (h1 : ∀ n, TrN T d (sub n) (sub' n)) (h2 : ∀ n a a', a'.strip = a.strip → TrN T d (lp n a) (lpp n a')) (n : Nat) (a a' : ND) (ha : a'.strip = a.strip) : TrN T d (binLN T fin l sub lp n a) (binLN T' fin' l sub' lpp n a') := by
  intro s s' r hR h he
  unfold binLN at h ⊢
  rw [hR.op_ W hl]
  cases ho : opP T l s with
  | none => rw [ho] at h; cases h; exact ⟨_, rfl, ha, hR⟩
  | some w =>
    rw [ho] at h
    obtain ⟨q, hq, h⟩ := bind_inv h
    obtain ⟨q', e1, e2, e3⟩ := h1 n _ _ q (hR.next_ (opP_is ho)) hq (stp_e (hm _ _ _ _ h) he)
    simp only [e1, Option.bind_some]
    exact h2 n _ _ (by simp only [ND.strip, ND.stripL, CD.stripL, ha, e2]) q.2 q'.2 r e3 h he
theorem Tr.next (W : Win T T' d) (M : Mono T L) (H : Tr T d L L') : Tr T d (L.next T fin) (L'.next T' fin') where
  expr n s s' r hR h he := by
    simp only [Lang.next, exprN] at h ⊢
    obtain ⟨q, hq, h⟩ := bind_inv h
    have hqe : q.2.e = 0 := by
      split at h
      · rename_i hi
        exact (isP_lt hi).1
      · split at h
        · rename_i hi
          exact (isP_lt hi).1
        · cases h; exact he
    obtain ⟨d1, d2⟩ := hR.deep_ (fin := fin) (fin' := fin') (n := n) (stp_e (M.or_ _ _ _ hq) hqe)
    rw [d1] at hq
    rw [d2]
    obtain ⟨q', e1, e2, e3⟩ := H.or_ n s s' q hR hq hqe
    simp only [e1, Option.bind_some, e3.is_ W (w := sEq) (.inr (by decide)), e3.is_ W (w := sBang) (.inr (by decide))]
    split at h
    · rename_i hi
      obtain ⟨p, hp, h⟩ := bind_inv h
      cases h
      obtain ⟨p', f1, f2, f3⟩ := H.expr (n + 1) _ _ p (e3.next_ hi) hp he
      rw [if_pos hi, f1]
      exact ⟨_, rfl, by simp only [ND.strip, ND.stripL, CD.stripL, e2, f2], f3⟩
    · rename_i hn
      rw [if_neg hn]
      split at h
      · rename_i hi
        obtain ⟨p, hp, h⟩ := bind_inv h
        cases h
        obtain ⟨p', f1, f2, f3⟩ := H.expr (n + 1) _ _ p (e3.next_ hi) hp he
        rw [if_pos hi, f1]
        exact ⟨_, rfl, by simp only [ND.strip, ND.stripL, CD.stripL, e2, f2], f3⟩
      · rename_i hn2
        cases h
        rw [if_neg hn2]
        exact ⟨_, rfl, e2, e3⟩
  list n s s' r hR h he hl := by
    simp only [Lang.next, listN] at h ⊢
    obtain ⟨q, hq, h⟩ := bind_inv h
    obtain ⟨q', e1, e2, e3⟩ := H.expr n s s' q hR hq (stp_e (M.listL _ _ _ _ h).1 he)
    rw [e1]
    exact H.listL n [q.1] [q'.1] (by simp only [ND.stripL, e2]) q.2 q'.2 r e3 h he hl
  listL n o o' ho s s' r hR h he hl := by
    simp only [Lang.next, listLN] at h ⊢
    split at h
    · rename_i hi
      obtain ⟨q, hq, h⟩ := bind_inv h
      obtain ⟨q', e1, e2, e3⟩ := H.expr n _ _ q (hR.next_ hi) hq (stp_e (M.listL _ _ _ _ h).1 he)
      rw [if_pos (by rw [hR.is_ W (.inl (isP_lt hi).2)]; exact hi), e1]
      exact H.listL n (o ++ [q.1]) (o' ++ [q'.1]) (by simp only [ndstrip_append, ND.stripL, ho, e2]) q.2 q'.2 r e3 h he hl
    · rename_i hn
      cases h
      rw [if_neg (by rw [hR.is_ W (.inl (hl rfl))]; exact hn)]
      exact ⟨_, rfl, ho, hR⟩
  maybe_ w n s s' r hR h he _ := by
    simp only [Lang.next, maybeN] at h ⊢
    split at h
    · rename_i hi
      cases h
      rw [if_pos (by rw [hR.is_ W (.inl (isP_lt hi).2)]; exact hi)]
      exact ⟨_, rfl, rfl, hR.next_ hi⟩
    · rename_i hn
      obtain ⟨q, hq, h⟩ := bind_inv h
      cases h
      have hqe : q.2.e = 0 := stp_e (Stp.must (T := T) (fin := fin) w q.2) he
      have hmu := must_ok he hqe
      have hlt := (isP_lt hmu).2
      have hlt0 : s.i < T.length := by have := (M.list _ _ _ hq).1.i; omega
      obtain ⟨q', e1, e2, e3⟩ := H.list n s s' q hR hq hqe (fun _ => hlt)
      rw [if_neg (by rw [hR.is_ W (.inl hlt0)]; exact hn), e1]
      exact ⟨_, rfl, e2, e3.must_ W he⟩
  or_ := bin_tr M.orL H.and_ H.orL
  orL := binL_tr W (ops_ok [sOr] (by decide)) M.orL H.and_ H.orL
  and_ := bin_tr M.andL H.rel H.andL
  andL := binL_tr W (ops_ok [sAnd] (by decide)) M.andL H.rel H.andL
  rel n s s' r hR h he := by
    simp only [Lang.next, relN] at h ⊢
    obtain ⟨q, hq, h⟩ := bind_inv h
    have hqe : q.2.e = 0 := by
      cases ho : opP T sRel q.2 with
      | none => rw [ho] at h; cases h; exact he
      | some w => exact (isP_lt (opP_is ho)).1
    obtain ⟨q', e1, e2, e3⟩ := H.sum n s s' q hR hq hqe
    simp only [e1, Option.bind_some, e3.op_ W (ops_ok sRel (by decide))]
    cases ho : opP T sRel q.2 with
    | none => rw [ho] at h; cases h; exact ⟨_, rfl, e2, e3⟩
    | some w =>
      rw [ho] at h
      obtain ⟨p, hp, h⟩ := bind_inv h
      cases h
      obtain ⟨p', f1, f2, f3⟩ := H.sum n _ _ p (e3.next_ (opP_is ho)) hp he
      simp only [f1, Option.bind_some]
      exact ⟨_, rfl, by simp only [ND.strip, ND.stripL, CD.stripL, e2, f2], f3⟩
  sum := bin_tr M.sumL H.prod H.sumL
  sumL := binL_tr W (ops_ok sSum (by decide)) M.sumL H.prod H.sumL
  prod := bin_tr M.prodL H.sign H.prodL
  prodL := binL_tr W (ops_ok sProd (by decide)) M.prodL H.sign H.prodL
  sign n s s' r hR h he := by
    simp only [Lang.next, signN] at h ⊢
    have hde : (deepP T fin n s).e = 0 := by
      cases ho : opP T sSign (deepP T fin n s) with
      | none => rw [ho] at h; exact stp_e (M.call _ _ _ h) he
      | some w => exact (isP_lt (opP_is ho)).1
    obtain ⟨d1, d2⟩ := hR.deep_ (fin := fin) (fin' := fin') (n := n) hde
    rw [d1] at h
    rw [d2, hR.op_ W (ops_ok sSign (by decide))]
    cases ho : opP T sSign s with
    | none => rw [ho] at h; exact H.call n s s' r hR h he
    | some w =>
      rw [ho] at h
      obtain ⟨p, hp, h⟩ := bind_inv h
      cases h
      obtain ⟨p', f1, f2, f3⟩ := H.sign (n + 1) _ _ p (hR.next_ (opP_is ho)) hp he
      simp only [f1, Option.bind_some]
      exact ⟨_, rfl, by simp only [ND.strip, ND.stripL, CD.stripL, f2], f3⟩
  call n s s' r hR h he := by
    simp only [Lang.next, callN] at h ⊢
    obtain ⟨q, hq, h⟩ := bind_inv h
    obtain ⟨q', e1, e2, e3⟩ := H.prim n s s' q hR hq (stp_e (M.callL _ _ _ _ _ h) he)
    simp only [e1, Option.bind_some, hR.kind_ W]
    exact H.callL n _ q.1 q'.1 e2 q.2 q'.2 r e3 h he
  callL n b a a' ha s s' r hR h he := by
    simp only [Lang.next, callLN] at h ⊢
    split at h
    · rename_i hi
      obtain ⟨q, hq, h⟩ := bind_inv h
      obtain ⟨q', e1, e2, e3⟩ := H.maybe_ sShut (n + 1) _ _ q (hR.next_ hi) hq (stp_e (M.callL _ _ _ _ _ h) he) (fun h => by cases h)
      rw [if_pos (by rw [hR.is_ W (.inr (by decide))]; exact hi)]
      simp only [e1, Option.bind_some]
      refine H.callL n false _ _ ?_ q.2 q'.2 r e3 h he
      cases b with
      | true => simp only [if_true, ND.strip, ND.stripL, CD.stripL, e2, strip_name ha]
      | false => simp only [Bool.false_eq_true, if_false, ND.strip, ND.stripL, CD.stripL, e2, ha]
    · rename_i hn
      cases h
      rw [if_neg (by rw [hR.is_ W (.inr (by decide))]; exact hn)]
      exact ⟨_, rfl, ha, hR⟩
  tail n ps ps' nm a a' hp s s' r hR h he hl := by
    simp only [Lang.next, tailN] at h ⊢
    obtain ⟨g, hg, h⟩ := bind_inv h
    obtain ⟨b, hb, h⟩ := bind_inv h
    cases h
    have hme : (mustP T fin sArrow g.2).e = 0 := stp_e (M.list _ _ _ hb).1 he
    have hge : g.2.e = 0 := stp_e (Stp.must (T := T) (fin := fin) sArrow g.2) hme
    have hmu := must_ok hme hge
    have hG : ∃ g', (if isP T' sWhen s' then L'.list n (nextP s') else some ([], s')) = some g' ∧ ND.stripL g'.1 = ND.stripL g.1 ∧ Rl T d g.2 g'.2 := by
      split at hg
      · rename_i hi
        rw [if_pos (by rw [hR.is_ W (.inr (by decide))]; exact hi)]
        exact H.list n _ _ g (hR.next_ hi) hg hge (fun _ => (isP_lt hmu).2)
      · rename_i hn
        cases hg
        rw [if_neg (by rw [hR.is_ W (.inr (by decide))]; exact hn)]
        exact ⟨_, rfl, rfl, hR⟩
    obtain ⟨g', e1, e2, e3⟩ := hG
    obtain ⟨b', f1, f2, f3⟩ := H.list n _ _ b (e3.must_ W (fin' := fin') hme) hb he (fun _ => hl)
    simp only [e1, Option.bind_some, f1]
    exact ⟨_, rfl, by simp only [CD.strip, hp, e2, f2], f3⟩
  head n nm a a' s s' r hR h he hl := by
    simp only [Lang.next, headN] at h ⊢
    obtain ⟨q, hq, h⟩ := bind_inv h
    have hqe := stp_e (M.tail _ _ _ _ _ _ h) he
    have hme := stp_e (M.maybe_ _ _ _ _ hq).1 hqe
    obtain ⟨q', e1, e2, e3⟩ := H.maybe_ sShut n _ _ q (hR.must_ W (fin' := fin') hme) hq hqe (fun h => by cases h)
    simp only [e1, Option.bind_some]
    exact H.tail n q.1 q'.1 nm a a' e2 q.2 q'.2 r e3 h he hl
  arms n o o' ho s s' r hR h he hl := by
    simp only [Lang.next, armsN] at h ⊢
    rw [if_pos hR.e] at h
    rw [if_pos hR.e']
    obtain ⟨q, hq, h⟩ := bind_inv h
    obtain ⟨c, hc, h⟩ := bind_inv h
    have hcc : c.2.e = 0 ∧ c.2.i < T.length := by
      split at h
      · rename_i hi
        exact isP_lt hi
      · cases h; exact ⟨he, hl⟩
    obtain ⟨q', e1, e2, e3⟩ := H.expr n _ _ q hR hq (stp_e (M.tail _ _ _ _ _ _ hc) hcc.1)
    obtain ⟨c', f1, f2, f3⟩ := H.tail n [q.1] [q'.1] [] (placeP T fin s) (placeP T' fin' s') (by simp only [ND.stripL, e2]) _ _ c e3 hc hcc.1 hcc.2
    simp only [e1, Option.bind_some, f1, f3.is_ W (w := sSemi) (.inr (by decide))]
    split at h
    · rename_i hi
      rw [if_pos hi]
      exact H.arms n (o ++ [c.1]) (o' ++ [c'.1]) (by simp only [cdstrip_append, CD.stripL, ho, f2]) _ _ r (f3.next_ hi) h he hl
    · rename_i hn
      cases h
      rw [if_neg hn]
      exact ⟨_, rfl, by simp only [cdstrip_append, CD.stripL, ho, f2], f3⟩
  funs n o o' ho s s' r hR h he hl := by
    simp only [Lang.next, funsN] at h ⊢
    rw [if_pos hR.e] at h
    rw [if_pos hR.e']
    obtain ⟨c, hc, h⟩ := bind_inv h
    have hcc : c.2.e = 0 ∧ c.2.i < T.length := by
      split at h
      · rename_i hi
        exact isP_lt hi
      · cases h; exact ⟨he, hl⟩
    obtain ⟨c', f1, f2, f3⟩ := H.head n [] (placeP T fin s) (placeP T' fin' s') _ _ c hR hc hcc.1 hcc.2
    simp only [f1, Option.bind_some, f3.is_ W (w := sSemi) (.inr (by decide))]
    split at h
    · rename_i hi
      rw [if_pos hi]
      exact H.funs n (o ++ [c.1]) (o' ++ [c'.1]) (by simp only [cdstrip_append, CD.stripL, ho, f2]) _ _ r (f3.next_ hi) h he hl
    · rename_i hn
      cases h
      rw [if_neg hn]
      exact ⟨_, rfl, by simp only [cdstrip_append, CD.stripL, ho, f2], f3⟩
  rest n s s' r hR h he := by
    simp only [Lang.next, restN] at h ⊢
    obtain ⟨q, hq, h⟩ := bind_inv h
    split at h
    · rename_i hi
      obtain ⟨p, hp, h⟩ := bind_inv h
      cases h
      obtain ⟨q', e1, e2, e3⟩ := H.expr n _ _ q hR hq (isP_lt hi).1
      obtain ⟨p', f1, f2, f3⟩ := H.rest n _ _ p (e3.next_ hi) hp he
      simp only [e1, Option.bind_some]
      rw [if_pos (by rw [e3.is_ W (.inl (isP_lt hi).2)]; exact hi), f1]
      exact ⟨_, rfl, by simp only [ND.strip, ND.stripL, CD.stripL, e2, f2], f3⟩
    · rename_i hn
      split at h
      · rename_i hi
        obtain ⟨p, hp, h⟩ := bind_inv h
        cases h
        obtain ⟨q', e1, e2, e3⟩ := H.expr n _ _ q hR hq (isP_lt hi).1
        have hpe : p.2.e = 0 := stp_e (Stp.must (T := T) (fin := fin) sRb p.2) he
        obtain ⟨p', f1, f2, f3⟩ := H.expr n _ _ p (e3.next_ hi) hp hpe
        simp only [e1, Option.bind_some]
        rw [if_neg (by rw [e3.is_ W (.inl (isP_lt hi).2)]; exact hn), if_pos (by rw [e3.is_ W (.inl (isP_lt hi).2)]; exact hi), f1]
        exact ⟨_, rfl, by simp only [ND.strip, ND.stripL, CD.stripL, e2, f2], f3.must_ W he⟩
      · rename_i hn2
        cases h
        have hqe : q.2.e = 0 := stp_e (Stp.must (T := T) (fin := fin) sRb q.2) he
        have hlt := (isP_lt (must_ok he hqe)).2
        obtain ⟨q', e1, e2, e3⟩ := H.expr n _ _ q hR hq hqe
        simp only [e1, Option.bind_some]
        rw [if_neg (by rw [e3.is_ W (.inl hlt)]; exact hn), if_neg (by rw [e3.is_ W (.inl hlt)]; exact hn2)]
        exact ⟨_, rfl, by simp only [ND.strip, ND.stripL, CD.stripL, e2], e3.must_ W he⟩
  prim n s s' r hR h he := by
    simp only [Lang.next, primN] at h ⊢
    have recv : ∀ at_ at2 cl cl2 n s s' r, CD.stripL cl2 = CD.stripL cl → Rl T d s s' → recvB T fin L at_ cl n s = some r → r.2.e = 0 → ∃ r', recvB T' fin' L' at2 cl2 n s' = some r' ∧ r'.1.strip = r.1.strip ∧ Rl T d r.2 r'.2 := by
      intro at_ at2 cl cl2 n s s' r hcl hR h he
      unfold recvB at h ⊢
      rw [hR.is_ W (w := sAfter) (.inr (by decide))]
      split at h
      · rename_i hi
        obtain ⟨x, hx, h⟩ := bind_inv h
        obtain ⟨b, hb, h⟩ := bind_inv h
        cases h
        have hbe : b.2.e = 0 := stp_e (Stp.must (T := T) (fin := fin) sEnd b.2) he
        have hlt := (isP_lt (must_ok he hbe)).2
        have hme : (mustP T fin sArrow x.2).e = 0 := stp_e (M.list _ _ _ hb).1 hbe
        obtain ⟨x', e1, e2, e3⟩ := H.expr n _ _ x (hR.next_ hi) hx (stp_e (Stp.must (T := T) (fin := fin) sArrow x.2) hme)
        obtain ⟨b', f1, f2, f3⟩ := H.list n _ _ b (e3.must_ W (fin' := fin') hme) hb hbe (fun _ => hlt)
        rw [if_pos hi]
        simp only [e1, Option.bind_some, f1]
        exact ⟨_, rfl, by simp only [ND.strip, ND.stripL, hcl, e2, f2], f3.must_ W he⟩
      · rename_i hn
        cases h
        rw [if_neg hn]
        exact ⟨_, rfl, by simp only [ND.strip, ND.stripL, hcl], hR.must_ W he⟩
    rw [if_neg (by rw [hR.e]; simp)] at h
    rw [if_neg (by rw [hR.e']; simp), hR.i]
    cases ht : T[s.i]? with
    | none =>
      rw [ht] at h
      cases h
      unfold failP at he
      rw [if_pos hR.e] at he
      simp at he
    | some t =>
      obtain ⟨t', g1, g2, g3, g4⟩ := W.at_ _ _ ht
      have hlt := (List.getElem?_eq_some_iff.1 ht).1
      rw [ht] at h
      rw [g1]
      simp only at h ⊢
      rw [g2, g3, g4]
      split at h
      · rename_i hk
        cases h
        rw [if_pos hk]
        exact ⟨_, rfl, by simp only [ND.strip], hR.nextlt_ hlt⟩
      rename_i k1
      rw [if_neg k1]
      split at h
      · rename_i hk
        cases h
        rw [if_pos hk]
        exact ⟨_, rfl, by simp only [ND.strip], hR.nextlt_ hlt⟩
      rename_i k2
      rw [if_neg k2]
      split at h
      · rename_i hk
        cases h
        rw [if_pos hk]
        exact ⟨_, rfl, by simp only [ND.strip], hR.nextlt_ hlt⟩
      rename_i k3
      rw [if_neg k3]
      unfold primW at h ⊢
      simp only [hR.is_ W (.inl hlt)]
      split at h
      · rename_i hi
        rw [if_pos hi]
        obtain ⟨q, hq, h⟩ := bind_inv h
        cases h
        obtain ⟨q', e1, e2, e3⟩ := H.expr (n + 1) _ _ q (hR.next_ hi) hq (stp_e (Stp.must (T := T) (fin := fin) sShut q.2) he)
        simp only [e1, Option.bind_some]
        exact ⟨_, rfl, e2, e3.must_ W he⟩
      rename_i h1
      rw [if_neg h1]
      split at h
      · rename_i hi
        rw [if_pos hi]
        obtain ⟨q, hq, h⟩ := bind_inv h
        cases h
        obtain ⟨q', e1, e2, e3⟩ := H.maybe_ sRc (n + 1) _ _ q (hR.next_ hi) hq he (fun h => by cases h)
        simp only [e1, Option.bind_some]
        exact ⟨_, rfl, by simp only [ND.strip, e2], e3⟩
      rename_i h2
      rw [if_neg h2]
      split at h
      · rename_i hi
        rw [if_pos hi, (hR.next_ hi).is_ W (w := sRb) (.inr (by decide))]
        split at h
        · rename_i hj
          cases h
          rw [if_pos hj]
          exact ⟨_, rfl, by simp only [ND.strip], (hR.next_ hi).next_ hj⟩
        · rename_i hj
          rw [if_neg hj]
          obtain ⟨q, hq, h⟩ := bind_inv h
          cases h
          obtain ⟨q', e1, e2, e3⟩ := H.rest (n + 1) _ _ q (hR.next_ hi) hq he
          simp only [e1, Option.bind_some]
          exact ⟨_, rfl, by simp only [strip_withAt, e2], e3⟩
      rename_i h3
      rw [if_neg h3]
      split at h
      · rename_i hi
        rw [if_pos hi]
        obtain ⟨q, hq, h⟩ := bind_inv h
        cases h
        have hqe := stp_e (Stp.must (T := T) (fin := fin) sEnd q.2) he
        obtain ⟨q', e1, e2, e3⟩ := H.funs (n + 1) [] [] rfl _ _ q (hR.next_ hi) hq hqe (isP_lt (must_ok he hqe)).2
        simp only [e1, Option.bind_some]
        exact ⟨_, rfl, by simp only [ND.strip, e2, ND.stripL], e3.must_ W he⟩
      rename_i h4
      rw [if_neg h4]
      split at h
      · rename_i hi
        rw [if_pos hi]
        obtain ⟨x, hx, h⟩ := bind_inv h
        obtain ⟨q, hq, h⟩ := bind_inv h
        cases h
        have hqe := stp_e (Stp.must (T := T) (fin := fin) sEnd q.2) he
        have hme : (mustP T fin sOf x.2).e = 0 := stp_e (M.arms _ _ _ _ hq).1 hqe
        obtain ⟨x', e1, e2, e3⟩ := H.expr (n + 1) _ _ x (hR.next_ hi) hx (stp_e (Stp.must (T := T) (fin := fin) sOf x.2) hme)
        obtain ⟨q', f1, f2, f3⟩ := H.arms (n + 1) [] [] rfl _ _ q (e3.must_ W (fin' := fin') hme) hq hqe (isP_lt (must_ok he hqe)).2
        simp only [e1, Option.bind_some, f1]
        exact ⟨_, rfl, by simp only [ND.strip, ND.stripL, e2, f2], f3.must_ W he⟩
      rename_i h5
      rw [if_neg h5]
      split at h
      · rename_i hi
        rw [if_pos hi, (hR.next_ hi).is_ W (w := sAfter) (.inr (by decide))]
        split at h
        · rename_i hj
          rw [if_pos hj]
          exact recv _ _ _ _ _ _ _ r rfl (hR.next_ hi) h he
        · rename_i hj
          rw [if_neg hj]
          obtain ⟨q, hq, h⟩ := bind_inv h
          have hB : q.2.e = 0 ∧ q.2.i < T.length := by
            unfold recvB at h
            split at h
            · rename_i hk
              exact isP_lt hk
            · cases h
              have hqe := stp_e (Stp.must (T := T) (fin := fin) sEnd q.2) he
              exact ⟨hqe, (isP_lt (must_ok he hqe)).2⟩
          obtain ⟨q', f1, f2, f3⟩ := H.arms (n + 1) [] [] rfl _ _ q (hR.next_ hi) hq hB.1 hB.2
          simp only [f1, Option.bind_some]
          exact recv _ _ _ _ _ _ _ r f2 f3 h he
      rename_i h6
      rw [if_neg h6]
      split at h
      · rename_i hi
        rw [if_pos hi]
        obtain ⟨x, hx, h⟩ := bind_inv h
        obtain ⟨q, hq, h⟩ := bind_inv h
        cases h
        have hqe := stp_e (Stp.must (T := T) (fin := fin) sEnd q.2) he
        have hme : (mustP T fin sCatch x.2).e = 0 := stp_e (M.arms _ _ _ _ hq).1 hqe
        have hxe := stp_e (Stp.must (T := T) (fin := fin) sCatch x.2) hme
        obtain ⟨x', e1, e2, e3⟩ := H.list (n + 1) _ _ x (hR.next_ hi) hx hxe (fun _ => (isP_lt (must_ok hme hxe)).2)
        obtain ⟨q', f1, f2, f3⟩ := H.arms (n + 1) [] [] rfl _ _ q (e3.must_ W (fin' := fin') hme) hq hqe (isP_lt (must_ok he hqe)).2
        simp only [e1, Option.bind_some, f1]
        exact ⟨_, rfl, by simp only [ND.strip, ND.stripL, e2, f2], f3.must_ W he⟩
      · cases h
        unfold failP at he
        rw [if_pos hR.e] at he
        simp at he
end
/-- Each rule, with no less fuel. -/
theorem lang_tr {T T' : List Tok} {d : Nat} (fin fin' : Nat) (W : Win T T' d) : ∀ n m, n ≤ m → Tr T d (lang T fin n) (lang T' fin' m)
  | 0, m, _ => .none_ T d _
  | n + 1, 0, h => absurd h (by omega)
  | n + 1, m + 1, h => (lang_tr fin fin' W n m (by omega)).next W (lang_mono T fin n)
end
section
open Go.RowKit
set_option linter.unusedVariables false

/-- What has been found: the first error, its place. -/
structure CS where
  e : Int
  at_ : Int
def failC (e at_ : Int) (s : CS) : CS := if s.e = 0 then ⟨e, at_⟩ else s
abbrev Nms := List (List UInt8)
def addN (P : Nms) (x : List UInt8) : Nms := if x ∈ P then P else P ++ [x]
def kidI : List ND → Bool
  | x :: _ => x.kind == 1
  | [] => false
section
variable (blt : List UInt8 → Nat → Int) (nm? : List UInt8 → Nat → Bool)
mutual
/-- The scope behind a pattern. -/
def patC (P : Nms) : ND → CS → Nms × CS
  | .mk k n nm a l m r, s => if k = 3 ∧ nm ≠ [95] then (addN P nm, s)
    else if k = 1 ∨ k = 2 ∨ k = 5 ∨ k = 3 then (P, s)
    else if k = 10 ∧ nm = [45] ∧ kidI l = true then (P, s)
    else if k = 4 ∨ k = 6 then patCL P l s
    else (P, failC 123 a s)
def patCL (P : Nms) : List ND → CS → Nms × CS
  | [], s => (P, s)
  | t :: r, s => patCL (patC P t s).1 r (patC P t s).2
end
def grdH (P : Nms) (k : Int) (nm : List UInt8) (a : Int) (len : Nat) (s : CS) : CS :=
  if k = 3 then (if nm ∈ P then s else failC 124 a s)
  else if k = 1 ∨ k = 2 ∨ k = 5 ∨ k = 4 ∨ k = 6 ∨ k = 9 ∨ k = 10 then s
  else if k = 7 then (if blt nm len = 1 then s else failC 126 a s)
  else failC 126 a s
mutual
/-- A guard. -/
def grdC (P : Nms) : ND → CS → CS
  | .mk k n nm a l m r, s => grdCL P l (grdH blt P k nm a l.length s)
def grdCL (P : Nms) : List ND → CS → CS
  | [], s => s
  | t :: r, s => grdCL P r (grdC P t s)
end
def funH (z n : Nat) (a : Int) (s : CS) : CS := if n ≠ z then failC 120 a s else s
def funC (z : Nat) : List CD → CS → CS
  | [], s => s
  | x :: r, s => funC z r (funH z x.patterns.length x.at_ s)
def firstN : List CD → Nat
  | x :: _ => x.patterns.length
  | [] => 0
mutual
/-- The scope behind an expression. -/
def expC (P : Nms) : ND → CS → Nms × CS
  | .mk k n nm a l m r, s => if s.e ≠ 0 then (P, s)
    else if k = 3 then (P, if nm ∈ P then s else failC 124 a s)
    else if k = 7 then rowC P l (if nm? nm l.length = false ∧ blt nm l.length = 0 then failC 125 a s else s)
    else if k = 11 then mtcC P l s
    else if k = 16 then (P, clsC P m (rowC P r s).2)
    else if k = 13 then (P, clsC P m (funC (firstN m) m s))
    else ((rowC P l s).1, (rowC (rowC P l s).1 r (clsC (rowC P l s).1 m (rowC P l s).2)).2)
/-- a value ahead of its pattern. -/
def mtcC (P : Nms) : List ND → CS → Nms × CS
  | [], s => (P, s)
  | x :: r, s => patC (hdC P r s).1 x (hdC P r s).2
def hdC (P : Nms) : List ND → CS → Nms × CS
  | [], s => (P, s)
  | y :: _, s => expC P y s
def rowC (P : Nms) : List ND → CS → Nms × CS
  | [], s => (P, s)
  | t :: r, s => rowC (expC P t s).1 r (expC P t s).2
def clsC (P : Nms) : List CD → CS → CS
  | [], s => s
  | .mk p g b nm a :: r, s => clsC P r (rowC (patCL P p s).1 b (grdCL blt (patCL P p s).1 g (patCL P p s).2)).2
end
end
mutual
/-- A variable's name that occurs. -/
def occN (y : List UInt8) : ND → Prop
  | .mk k _ nm _ l m r => (k = 3 ∧ nm = y) ∨ occL y l ∨ occK y m ∨ occL y r
def occL (y : List UInt8) : List ND → Prop
  | [] => False
  | t :: r => occN y t ∨ occL y r
def occC (y : List UInt8) : CD → Prop
  | .mk p g r _ _ => occL y p ∨ occL y g ∨ occL y r
def occK (y : List UInt8) : List CD → Prop
  | [] => False
  | t :: r => occC y t ∨ occK y r
end

/-! ### names that do not occur -/
section
variable (F : List UInt8 → Prop)
/-- Scopes that are alike but for some names. -/
def Alk (P P' : Nms) : Prop := ∀ y, ¬ F y → (y ∈ P ↔ y ∈ P')
def Kpt (P Q : Nms) : Prop := ∀ y, F y → (y ∈ Q ↔ y ∈ P)
/-- What a name and its twin have come to. -/
structure Sm (P P' : Nms) (q q' : Nms × CS) : Prop where
  alk : Alk F q.1 q'.1
  e : q.2.e = q'.2.e
  k : Kpt F P q.1
  k' : Kpt F P' q'.1
variable {F}
variable {P P' : Nms} {s s' : CS}
theorem Kpt.refl (P : Nms) : Kpt F P P := fun _ _ => Iff.rfl
theorem Kpt.trans {Q R : Nms} (h : Kpt F P Q) (k : Kpt F Q R) : Kpt F P R := fun y hy => (k y hy).trans (h y hy)
theorem Sm.same (h : Alk F P P') (he : s.e = s'.e) : Sm F P P' (P, s) (P', s') := ⟨h, he, .refl _, .refl _⟩
theorem Sm.more {Q Q' : Nms} {q q' r r' : Nms × CS} (h : Sm F P P' q q') (k : Sm F q.1 q'.1 r r') : Sm F P P' r r' := ⟨k.alk, k.e, h.k.trans k.k, h.k'.trans k.k'⟩
theorem failC_e (e a a' : Int) (he : s.e = s'.e) : (failC e a s).e = (failC e a' s').e := by
  unfold failC
  rw [he]
  split
  · rfl
  · exact he
theorem mem_addN {x y : List UInt8} : y ∈ addN P x ↔ y ∈ P ∨ y = x := by
  unfold addN
  split
  · rename_i h
    exact ⟨.inl, fun h9 => h9.elim id (fun e => by rw [e]; exact h)⟩
  · simp
theorem Sm.add {x : List UInt8} (h : Alk F P P') (hx : ¬ F x) (he : s.e = s'.e) : Sm F P P' (addN P x, s) (addN P' x, s') :=
  ⟨fun y hy => by rw [mem_addN, mem_addN, h y hy], he, fun y hy => by
    rw [mem_addN]
    exact ⟨fun h9 => h9.resolve_right (fun e => hx (by rw [← e]; exact hy)), .inl⟩, fun y hy => by
    rw [mem_addN]
    exact ⟨fun h9 => h9.resolve_right (fun e => hx (by rw [← e]; exact hy)), .inl⟩⟩
theorem stripL_len (l : List ND) : (ND.stripL l).length = l.length := by
  induction l with
  | nil => rfl
  | cons t r ih => simp [ND.stripL, ih]
theorem kidI_strip (l : List ND) : kidI (ND.stripL l) = kidI l := by
  cases l with
  | nil => rfl
  | cons t r => cases t; rfl
mutual
theorem pat_sm : ∀ (n : ND) (P P' : Nms) (s s' : CS), (∀ y, F y → ¬ occN y n) → Alk F P P' → s.e = s'.e → Sm F P P' (patC P n s) (patC P' n.strip s')
  | .mk k n nm a l m r, P, P', s, s', hf, hP, he => by
    simp only [patC, ND.strip, kidI_strip]
    split
    · rename_i h
      exact .add hP (fun h9 => hf nm h9 (by simp [occN, h.1])) he
    split
    · exact .same hP he
    split
    · exact .same hP he
    split
    · exact patL_sm l P P' s s' (fun y hy h9 => hf y hy (by simp only [occN]; exact .inr (.inl h9))) hP he
    · exact .same hP (failC_e _ _ _ he)
theorem patL_sm : ∀ (l : List ND) (P P' : Nms) (s s' : CS), (∀ y, F y → ¬ occL y l) → Alk F P P' → s.e = s'.e → Sm F P P' (patCL P l s) (patCL P' (ND.stripL l) s')
  | [], P, P', s, s', _, hP, he => by
    simp only [patCL, ND.stripL]
    exact .same hP he
  | t :: r, P, P', s, s', hf, hP, he => by
    simp only [patCL, ND.stripL]
    have h1 := pat_sm t P P' s s' (fun y hy h9 => hf y hy (by simp only [occL]; exact .inl h9)) hP he
    have h2 := patL_sm r _ _ _ _ (fun y hy h9 => hf y hy (by simp only [occL]; exact .inr h9)) h1.alk h1.e
    exact ⟨h2.alk, h2.e, h1.k.trans h2.k, h1.k'.trans h2.k'⟩
end
variable {blt : List UInt8 → Nat → Int} {nm? : List UInt8 → Nat → Bool}
theorem mem_if (hP : Alk F P P') {nm : List UInt8} (hx : ¬ F nm) (he : s.e = s'.e) (a a' : Int) : (if nm ∈ P then s else failC 124 a s).e = (if nm ∈ P' then s' else failC 124 a' s').e := by
  by_cases h : nm ∈ P
  · rw [if_pos h, if_pos ((hP nm hx).1 h)]; exact he
  · rw [if_neg h, if_neg (fun h9 => h ((hP nm hx).2 h9))]; exact failC_e _ _ _ he
theorem grdH_sm (hP : Alk F P P') {k : Int} {nm : List UInt8} (hx : k = 3 → ¬ F nm) (he : s.e = s'.e) (a a' : Int) (n : Nat) : (grdH blt P k nm a n s).e = (grdH blt P' k nm a' n s').e := by
  unfold grdH
  split
  · rename_i h
    exact mem_if hP (hx h) he _ _
  split
  · exact he
  split
  · split
    · exact he
    · exact failC_e _ _ _ he
  · exact failC_e _ _ _ he
mutual
theorem grd_sm : ∀ (n : ND) (P P' : Nms) (s s' : CS), (∀ y, F y → ¬ occN y n) → Alk F P P' → s.e = s'.e → (grdC blt P n s).e = (grdC blt P' n.strip s').e
  | .mk k n nm a l m r, P, P', s, s', hf, hP, he => by
    simp only [grdC, ND.strip, stripL_len]
    exact grdL_sm l P P' _ _ (fun y hy h9 => hf y hy (by simp only [occN]; exact .inr (.inl h9))) hP (grdH_sm hP (fun h h9 => hf nm h9 (by simp [occN, h])) he _ _ _)
theorem grdL_sm : ∀ (l : List ND) (P P' : Nms) (s s' : CS), (∀ y, F y → ¬ occL y l) → Alk F P P' → s.e = s'.e → (grdCL blt P l s).e = (grdCL blt P' (ND.stripL l) s').e
  | [], P, P', s, s', _, hP, he => by
    simp only [grdCL, ND.stripL]
    exact he
  | t :: r, P, P', s, s', hf, hP, he => by
    simp only [grdCL, ND.stripL]
    exact grdL_sm r _ _ _ _ (fun y hy h9 => hf y hy (by simp only [occL]; exact .inr h9)) hP (grd_sm t P P' s s' (fun y hy h9 => hf y hy (by simp only [occL]; exact .inl h9)) hP he)
end
theorem fun_sm (z : Nat) : ∀ (m : List CD) (s s' : CS), s.e = s'.e → (funC z m s).e = (funC z (CD.stripL m) s').e
  | [], s, s', he => by simp only [funC, CD.stripL]; exact he
  | .mk p g b nm a :: r, s, s', he => by
    simp only [funC, CD.stripL, CD.strip, CD.patterns, CD.at_, stripL_len]
    refine fun_sm z r _ _ ?_
    unfold funH
    split
    · exact failC_e _ _ _ he
    · exact he
theorem firstN_strip (m : List CD) : firstN (CD.stripL m) = firstN m := by
  cases m with
  | nil => rfl
  | cons x r => cases x; simp only [firstN, CD.stripL, CD.strip, CD.patterns, stripL_len]
mutual
theorem exp_sm : ∀ (n : ND) (P P' : Nms) (s s' : CS), (∀ y, F y → ¬ occN y n) → Alk F P P' → s.e = s'.e → Sm F P P' (expC blt nm? P n s) (expC blt nm? P' n.strip s')
  | .mk k n nm a l m r, P, P', s, s', hf, hP, he => by
    have fl : ∀ y, F y → ¬ occL y l := fun y hy h9 => hf y hy (by simp only [occN]; exact .inr (.inl h9))
    have fm : ∀ y, F y → ¬ occK y m := fun y hy h9 => hf y hy (by simp only [occN]; exact .inr (.inr (.inl h9)))
    have fr : ∀ y, F y → ¬ occL y r := fun y hy h9 => hf y hy (by simp only [occN]; exact .inr (.inr (.inr h9)))
    simp only [expC, ND.strip, stripL_len, firstN_strip, he]
    split
    · exact .same hP he
    split
    · rename_i h
      exact .same hP (mem_if hP (fun h9 => hf nm h9 (by simp [occN, h])) he _ _)
    split
    · refine row_sm l P P' _ _ fl hP ?_
      split
      · exact failC_e _ _ _ he
      · exact he
    split
    · exact mtc_sm l P P' s s' fl hP he
    split
    · exact .same hP (cls_sm m P P' _ _ fm hP (row_sm r P P' s s' fr hP he).e)
    split
    · exact .same hP (cls_sm m P P' _ _ fm hP (fun_sm _ m s s' he))
    · have h1 := row_sm l P P' s s' fl hP he
      have h2 := cls_sm m _ _ _ _ fm h1.alk h1.e
      have h3 := row_sm r _ _ _ _ fr h1.alk h2
      exact ⟨h1.alk, h3.e, h1.k, h1.k'⟩
theorem mtc_sm : ∀ (l : List ND) (P P' : Nms) (s s' : CS), (∀ y, F y → ¬ occL y l) → Alk F P P' → s.e = s'.e → Sm F P P' (mtcC blt nm? P l s) (mtcC blt nm? P' (ND.stripL l) s')
  | [], P, P', s, s', _, hP, he => by
    simp only [mtcC, ND.stripL]
    exact .same hP he
  | x :: r, P, P', s, s', hf, hP, he => by
    simp only [mtcC, ND.stripL]
    have h1 := hd_sm r P P' s s' (fun y hy h9 => hf y hy (by simp only [occL]; exact .inr h9)) hP he
    have h2 := pat_sm x _ _ _ _ (fun y hy h9 => hf y hy (by simp only [occL]; exact .inl h9)) h1.alk h1.e
    exact ⟨h2.alk, h2.e, h1.k.trans h2.k, h1.k'.trans h2.k'⟩
theorem hd_sm : ∀ (l : List ND) (P P' : Nms) (s s' : CS), (∀ y, F y → ¬ occL y l) → Alk F P P' → s.e = s'.e → Sm F P P' (hdC blt nm? P l s) (hdC blt nm? P' (ND.stripL l) s')
  | [], P, P', s, s', _, hP, he => by
    simp only [hdC, ND.stripL]
    exact .same hP he
  | x :: r, P, P', s, s', hf, hP, he => by
    simp only [hdC, ND.stripL]
    exact exp_sm x P P' s s' (fun y hy h9 => hf y hy (by simp only [occL]; exact .inl h9)) hP he
theorem row_sm : ∀ (l : List ND) (P P' : Nms) (s s' : CS), (∀ y, F y → ¬ occL y l) → Alk F P P' → s.e = s'.e → Sm F P P' (rowC blt nm? P l s) (rowC blt nm? P' (ND.stripL l) s')
  | [], P, P', s, s', _, hP, he => by
    simp only [rowC, ND.stripL]
    exact .same hP he
  | t :: r, P, P', s, s', hf, hP, he => by
    simp only [rowC, ND.stripL]
    have h1 := exp_sm t P P' s s' (fun y hy h9 => hf y hy (by simp only [occL]; exact .inl h9)) hP he
    have h2 := row_sm r _ _ _ _ (fun y hy h9 => hf y hy (by simp only [occL]; exact .inr h9)) h1.alk h1.e
    exact ⟨h2.alk, h2.e, h1.k.trans h2.k, h1.k'.trans h2.k'⟩
theorem cls_sm : ∀ (m : List CD) (P P' : Nms) (s s' : CS), (∀ y, F y → ¬ occK y m) → Alk F P P' → s.e = s'.e → (clsC blt nm? P m s).e = (clsC blt nm? P' (CD.stripL m) s').e
  | [], P, P', s, s', _, hP, he => by
    simp only [clsC, CD.stripL]
    exact he
  | .mk p g b nm a :: r, P, P', s, s', hf, hP, he => by
    simp only [clsC, CD.stripL, CD.strip]
    have h1 := patL_sm p P P' s s' (fun y hy h9 => hf y hy (by simp only [occK, occC]; exact .inl (.inl h9))) hP he
    have h2 := grdL_sm (blt := blt) g _ _ _ _ (fun y hy h9 => hf y hy (by simp only [occK, occC]; exact .inl (.inr (.inl h9)))) h1.alk h1.e
    have h3 := row_sm b _ _ _ _ (fun y hy h9 => hf y hy (by simp only [occK, occC]; exact .inl (.inr (.inr h9)))) h1.alk h2
    exact cls_sm r P P' _ _ (fun y hy h9 => hf y hy (by simp only [occK]; exact .inr h9)) hP h3.e
end
end
end
end Go.Proofs.Ythhindnjnijglaa
