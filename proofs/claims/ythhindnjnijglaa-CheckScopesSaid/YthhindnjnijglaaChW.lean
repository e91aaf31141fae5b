/- Layer 11, the document's parser in plain functions: every node has the kids that the check asks for. Written by chgenw.py. No program is named here. -/
import Derived.Test.YthhindnjnijglaaPaU
namespace Go.Proofs.Ythhindnjnijglaa
open Go.RowKit
set_option linter.unusedVariables false

mutual
/-- Nodes of some kinds have kids. -/
def ND.wf : ND → Prop
  | .mk k _ _ _ l m r => (k = 10 → l ≠ []) ∧ (k = 11 → 2 ≤ l.length) ∧ ND.wfL l ∧ CD.wfL m ∧ ND.wfL r
def ND.wfL : List ND → Prop
  | [] => True
  | t :: r => t.wf ∧ ND.wfL r
def CD.wf : CD → Prop
  | .mk p g r _ _ => ND.wfL p ∧ ND.wfL g ∧ ND.wfL r
def CD.wfL : List CD → Prop
  | [] => True
  | t :: r => t.wf ∧ CD.wfL r
end
mutual
/-- How great a tree is. -/
def ND.sz : ND → Nat
  | .mk _ _ _ _ l m r => ND.szL l + CD.szL m + ND.szL r + 1
def ND.szL : List ND → Nat
  | [] => 0
  | t :: r => t.sz + ND.szL r
def CD.sz : CD → Nat
  | .mk p g r _ _ => ND.szL p + ND.szL g + ND.szL r + 1
def CD.szL : List CD → Nat
  | [] => 0
  | t :: r => t.sz + CD.szL r
end
theorem ND.sz_pos (t : ND) : 1 ≤ t.sz := by cases t; simp [ND.sz]
theorem ndsz_at : ∀ (l : List ND) (k : Nat) (h : k < l.length), l[k].sz ≤ ND.szL l
  | t :: r, 0, _ => by simp [ND.szL]
  | t :: r, k + 1, h => by
    have := ndsz_at r k (by simpa using h)
    simp only [ND.szL, List.getElem_cons_succ]
    omega
theorem cdsz_at : ∀ (l : List CD) (k : Nat) (h : k < l.length), l[k].sz ≤ CD.szL l
  | t :: r, 0, _ => by simp [CD.szL]
  | t :: r, k + 1, h => by
    have := cdsz_at r k (by simpa using h)
    simp only [CD.szL, List.getElem_cons_succ]
    omega
theorem ndwf_at : ∀ {l : List ND}, ND.wfL l → ∀ {k : Nat} (h : k < l.length), l[k].wf
  | t :: r, h, 0, _ => by simp only [ND.wfL] at h; exact h.1
  | t :: r, h, k + 1, hk => by simp only [ND.wfL] at h; exact ndwf_at h.2 (by simpa using hk)
theorem cdwf_at : ∀ {l : List CD}, CD.wfL l → ∀ {k : Nat} (h : k < l.length), l[k].wf
  | t :: r, h, 0, _ => by simp only [CD.wfL] at h; exact h.1
  | t :: r, h, k + 1, hk => by simp only [CD.wfL] at h; exact cdwf_at h.2 (by simpa using hk)
theorem cdall_at {Q : List UInt8 → Prop} : ∀ {l : List CD}, CD.allL Q l → ∀ {k : Nat} (h : k < l.length), l[k].all Q
  | t :: r, h, 0, _ => by simp only [CD.allL] at h; exact h.1
  | t :: r, h, k + 1, hk => by simp only [CD.allL] at h; exact cdall_at h.2 (by simpa using hk)
/-- Whatever the rules give is formed. -/
structure WGood (L : Lang) : Prop where
  expr : ∀ d s r, L.expr d s = some r → r.1.wf
  list : ∀ d s r, L.list d s = some r → ND.wfL r.1
  listL : ∀ d out s r, ND.wfL out → L.listL d out s = some r → ND.wfL r.1
  maybe_ : ∀ w d s r, L.maybe_ w d s = some r → ND.wfL r.1
  or_ : ∀ d s r, L.or_ d s = some r → r.1.wf
  orL : ∀ d a s r, a.wf → L.orL d a s = some r → r.1.wf
  and_ : ∀ d s r, L.and_ d s = some r → r.1.wf
  andL : ∀ d a s r, a.wf → L.andL d a s = some r → r.1.wf
  rel : ∀ d s r, L.rel d s = some r → r.1.wf
  sum : ∀ d s r, L.sum d s = some r → r.1.wf
  sumL : ∀ d a s r, a.wf → L.sumL d a s = some r → r.1.wf
  prod : ∀ d s r, L.prod d s = some r → r.1.wf
  prodL : ∀ d a s r, a.wf → L.prodL d a s = some r → r.1.wf
  sign : ∀ d s r, L.sign d s = some r → r.1.wf
  call : ∀ d s r, L.call d s = some r → r.1.wf
  callL : ∀ d b a s r, a.wf → L.callL d b a s = some r → r.1.wf
  tail : ∀ d ps nm a s r, ND.wfL ps → L.tail d ps nm a s = some r → r.1.wf
  head : ∀ d nm a s r, L.head d nm a s = some r → r.1.wf
  arms : ∀ d out s r, CD.wfL out → L.arms d out s = some r → CD.wfL r.1
  funs : ∀ d out s r, CD.wfL out → L.funs d out s = some r → CD.wfL r.1
  rest : ∀ d s r, L.rest d s = some r → r.1.wf
  prim : ∀ d s r, L.prim d s = some r → r.1.wf
theorem WGood.none_ : WGood .none_ := by
  constructor <;> intros <;> rename_i h <;> exact absurd h (by simp [Lang.none_])
section
variable {T : List Tok} {fin : Nat} {L : Lang}
theorem wf_mk {k n : Int} {s : List UInt8} {a : Int} {l : List ND} {m : List CD} {r : List ND} (h1 : (k = 10 → l ≠ []) ∧ (k = 11 → 2 ≤ l.length)) (h2 : ND.wfL l) (h3 : CD.wfL m) (h4 : ND.wfL r) : (ND.mk k n s a l m r).wf := by simp only [ND.wf]; exact ⟨h1.1, h1.2, h2, h3, h4⟩
theorem wall_nil : ND.wfL [] := by simp [ND.wfL]
theorem wcall_nil : CD.wfL [] := by simp [CD.wfL]
theorem wall_one {t : ND} (h : t.wf) : ND.wfL [t] := by simp only [ND.wfL, and_true]; exact h
theorem wall_two {t u : ND} (h : t.wf) (k : u.wf) : ND.wfL [t, u] := by simp only [ND.wfL, and_true]; exact ⟨h, k⟩
theorem wcall_one {t : CD} (h : t.wf) : CD.wfL [t] := by simp only [CD.wfL, and_true]; exact h
theorem ndwf_append {l m : List ND} : ND.wfL (l ++ m) ↔ ND.wfL l ∧ ND.wfL m := by
  induction l with
  | nil => simp [ND.wfL]
  | cons t r ih => simp [ND.wfL, ih, and_assoc]
theorem cdwf_append {l m : List CD} : CD.wfL (l ++ m) ↔ CD.wfL l ∧ CD.wfL m := by
  induction l with
  | nil => simp [CD.wfL]
  | cons t r ih => simp [CD.wfL, ih, and_assoc]
theorem bin_wf {sub : Nat → PS → Option (ND × PS)} {lp : Nat → ND → PS → Option (ND × PS)} (h1 : ∀ d s r, sub d s = some r → r.1.wf) (h2 : ∀ d a s r, a.wf → lp d a s = some r → r.1.wf) (d : Nat) (s : PS) (r : ND × PS) (h : binN sub lp d s = some r) : r.1.wf := by
  unfold binN at h
  obtain ⟨q, hq, h⟩ := bind_inv h
  exact h2 _ _ _ _ (h1 _ _ _ hq) h
theorem binL_wf {l : List (List UInt8)} {sub : Nat → PS → Option (ND × PS)} {lp : Nat → ND → PS → Option (ND × PS)} (h1 : ∀ d s r, sub d s = some r → r.1.wf) (h2 : ∀ d a s r, a.wf → lp d a s = some r → r.1.wf) (d : Nat) (a : ND) (s : PS) (r : ND × PS) (ha : a.wf) (h : binLN T fin l sub lp d a s = some r) : r.1.wf := by
  unfold binLN at h
  cases ho : opP T l s with
  | none => rw [ho] at h; cases h; exact ha
  | some w =>
    rw [ho] at h
    obtain ⟨q, hq, h⟩ := bind_inv h
    exact h2 _ _ _ _ (wf_mk (by simp) (wall_two ha (h1 _ _ _ hq)) wcall_nil wall_nil) h
theorem WGood.next (M : WGood L) : WGood (L.next T fin) where
  expr d s r h := by
    simp only [Lang.next, exprN] at h
    obtain ⟨q, hq, h⟩ := bind_inv h
    have h1 := M.or_ _ _ _ hq
    split at h
    · obtain ⟨p, hp, h⟩ := bind_inv h
      cases h
      exact wf_mk (by simp) (wall_two h1 (M.expr _ _ _ hp)) wcall_nil wall_nil
    · split at h
      · obtain ⟨p, hp, h⟩ := bind_inv h
        cases h
        exact wf_mk (by simp) (wall_two h1 (M.expr _ _ _ hp)) wcall_nil wall_nil
      · cases h; exact h1
  list d s r h := by
    simp only [Lang.next, listN] at h
    obtain ⟨q, hq, h⟩ := bind_inv h
    exact M.listL _ _ _ _ (wall_one (M.expr _ _ _ hq)) h
  listL d out s r ho h := by
    simp only [Lang.next, listLN] at h
    split at h
    · obtain ⟨q, hq, h⟩ := bind_inv h
      exact M.listL _ _ _ _ (ndwf_append.2 ⟨ho, wall_one (M.expr _ _ _ hq)⟩) h
    · cases h; exact ho
  maybe_ w d s r h := by
    simp only [Lang.next, maybeN] at h
    split at h
    · cases h; exact wall_nil
    · obtain ⟨q, hq, h⟩ := bind_inv h
      have h1 := M.list _ _ _ hq
      cases h
      exact h1
  or_ := bin_wf M.and_ M.orL
  orL := binL_wf M.and_ M.orL
  and_ := bin_wf M.rel M.andL
  andL := binL_wf M.rel M.andL
  rel d s r h := by
    simp only [Lang.next, relN] at h
    obtain ⟨q, hq, h⟩ := bind_inv h
    have h1 := M.sum _ _ _ hq
    cases ho : opP T sRel q.2 with
    | none => rw [ho] at h; cases h; exact h1
    | some w =>
      rw [ho] at h
      obtain ⟨p, hp, h⟩ := bind_inv h
      cases h
      exact wf_mk (by simp) (wall_two h1 (M.sum _ _ _ hp)) wcall_nil wall_nil
  sum := bin_wf M.prod M.sumL
  sumL := binL_wf M.prod M.sumL
  prod := bin_wf M.sign M.prodL
  prodL := binL_wf M.sign M.prodL
  sign d s r h := by
    simp only [Lang.next, signN] at h
    cases ho : opP T sSign (deepP T fin d s) with
    | none => rw [ho] at h; exact M.call _ _ _ h
    | some w =>
      rw [ho] at h
      obtain ⟨p, hp, h⟩ := bind_inv h
      cases h
      exact wf_mk (by simp) (wall_one (M.sign _ _ _ hp)) wcall_nil wall_nil
  call d s r h := by
    simp only [Lang.next, callN] at h
    obtain ⟨q, hq, h⟩ := bind_inv h
    exact M.callL _ _ _ _ _ (M.prim _ _ _ hq) h
  callL d b a s r ha h := by
    simp only [Lang.next, callLN] at h
    split at h
    · obtain ⟨q, hq, h⟩ := bind_inv h
      have hl := M.maybe_ _ _ _ _ hq
      refine M.callL _ _ _ _ _ ?_ h
      split
      · exact wf_mk (by simp) hl wcall_nil wall_nil
      · exact wf_mk (by simp) (by simp only [ND.wfL]; exact ⟨ha, hl⟩) wcall_nil wall_nil
    · cases h; exact ha
  tail d ps nm a s r hp h := by
    simp only [Lang.next, tailN] at h
    obtain ⟨g, hg, h⟩ := bind_inv h
    obtain ⟨b, hb, h⟩ := bind_inv h
    cases h
    have h1 : ND.wfL g.1 := by
      split at hg
      · exact M.list _ _ _ hg
      · cases hg; exact wall_nil
    simp only [CD.wf]
    exact ⟨hp, h1, M.list _ _ _ hb⟩
  head d nm a s r h := by
    simp only [Lang.next, headN] at h
    obtain ⟨q, hq, h⟩ := bind_inv h
    exact M.tail _ _ _ _ _ _ (M.maybe_ _ _ _ _ hq) h
  arms d out s r ho h := by
    simp only [Lang.next, armsN] at h
    split at h
    · obtain ⟨q, hq, h⟩ := bind_inv h
      obtain ⟨c, hc, h⟩ := bind_inv h
      have h1 := M.tail _ _ _ _ _ _ (wall_one (M.expr _ _ _ hq)) hc
      split at h
      · exact M.arms _ _ _ _ (cdwf_append.2 ⟨ho, wcall_one h1⟩) h
      · cases h; exact cdwf_append.2 ⟨ho, wcall_one h1⟩
    · cases h; exact ho
  funs d out s r ho h := by
    simp only [Lang.next, funsN] at h
    split at h
    · obtain ⟨c, hc, h⟩ := bind_inv h
      have h1 := M.head _ _ _ _ _ hc
      split at h
      · exact M.funs _ _ _ _ (cdwf_append.2 ⟨ho, wcall_one h1⟩) h
      · cases h; exact cdwf_append.2 ⟨ho, wcall_one h1⟩
    · cases h; exact ho
  rest d s r h := by
    simp only [Lang.next, restN] at h
    obtain ⟨q, hq, h⟩ := bind_inv h
    have h1 := M.expr _ _ _ hq
    split at h
    · obtain ⟨p, hp, h⟩ := bind_inv h
      cases h
      exact wf_mk (by simp) (wall_two h1 (M.rest _ _ _ hp)) wcall_nil wall_nil
    · split at h
      · obtain ⟨p, hp, h⟩ := bind_inv h
        cases h
        exact wf_mk (by simp) (wall_two h1 (M.expr _ _ _ hp)) wcall_nil wall_nil
      · cases h
        exact wf_mk (by simp) (wall_two h1 (wf_mk (by simp) wall_nil wcall_nil wall_nil)) wcall_nil wall_nil
  prim d s r h := by
    simp only [Lang.next, primN] at h
    have hz : ND.zero.wf := wf_mk (by simp) wall_nil wcall_nil wall_nil
    have recv : ∀ at_ cl d s r, CD.wfL cl → recvB T fin L at_ cl d s = some r → r.1.wf := by
      intro at_ cl d s r hcl h
      unfold recvB at h
      split at h
      · obtain ⟨x, hx, h⟩ := bind_inv h
        obtain ⟨b, hb, h⟩ := bind_inv h
        cases h
        exact wf_mk (by simp) (wall_one (M.expr _ _ _ hx)) hcl (M.list _ _ _ hb)
      · cases h; exact wf_mk (by simp) wall_nil hcl wall_nil
    split at h
    · cases h; exact hz
    · cases ht : T[s.i]? with
      | none => rw [ht] at h; cases h; exact hz
      | some t =>
        rw [ht] at h
        simp only at h
        split at h
        · cases h; exact wf_mk (by simp) wall_nil wcall_nil wall_nil
        split at h
        · cases h; exact wf_mk (by simp) wall_nil wcall_nil wall_nil
        split at h
        · cases h; exact wf_mk (by simp) wall_nil wcall_nil wall_nil
        unfold primW at h
        split at h
        · obtain ⟨q, hq, h⟩ := bind_inv h
          have h1 := M.expr _ _ _ hq
          cases h
          exact h1
        split at h
        · obtain ⟨q, hq, h⟩ := bind_inv h
          cases h
          exact wf_mk (by simp) (M.maybe_ _ _ _ _ hq) wcall_nil wall_nil
        split at h
        · split at h
          · cases h; exact wf_mk (by simp) wall_nil wcall_nil wall_nil
          · obtain ⟨q, hq, h⟩ := bind_inv h
            cases h
            have h9 := M.rest _ _ _ hq
            cases hx : q.1 with
            | mk k n s9 a l m r9 =>
              rw [hx] at h9
              simp only [ND.wf] at h9
              simp only [ND.withAt, ND.wf]
              exact h9
        split at h
        · obtain ⟨q, hq, h⟩ := bind_inv h
          cases h
          exact wf_mk (by simp) wall_nil (M.funs _ _ _ _ wcall_nil hq) wall_nil
        split at h
        · obtain ⟨x, hx, h⟩ := bind_inv h
          obtain ⟨q, hq, h⟩ := bind_inv h
          cases h
          exact wf_mk (by simp) (wall_one (M.expr _ _ _ hx)) (M.arms _ _ _ _ wcall_nil hq) wall_nil
        split at h
        · split at h
          · exact recv _ _ _ _ _ wcall_nil h
          · obtain ⟨q, hq, h⟩ := bind_inv h
            exact recv _ _ _ _ _ (M.arms _ _ _ _ wcall_nil hq) h
        split at h
        · obtain ⟨x, hx, h⟩ := bind_inv h
          obtain ⟨q, hq, h⟩ := bind_inv h
          cases h
          exact wf_mk (by simp) wall_nil (M.arms _ _ _ _ wcall_nil hq) (M.list _ _ _ hx)
        · cases h; exact hz
end
theorem lang_wf {T : List Tok} (fin : Nat) : ∀ n, WGood (lang T fin n)
  | 0 => .none_
  | n + 1 => (lang_wf fin n).next
end Go.Proofs.Ythhindnjnijglaa
