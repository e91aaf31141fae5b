/- Layer 11, the document's parser in plain functions: no node has more kids than there are tokens, and two. No program is named here. -/
import Derived.Test.YtmpknhdfglbocaaGreatPaU
import Derived.Test.YtmpknhdfglbocaaGreatPaB
namespace Go.Proofs.YtmpknhdfglbocaaGreat
open Go.RowKit
set_option linter.unusedVariables false

/-- Kids that are few. -/
def Few (B : Nat) (p : ND) : Prop := p.kids.length ≤ B
/-- Whatever node the rules give, its kids are few. -/
structure KGood (B : Nat) (L : Lang) : Prop where
  expr : ∀ d s r, L.expr d s = some r → Few B r.1
  or_ : ∀ d s r, L.or_ d s = some r → Few B r.1
  orL : ∀ d a s r, Few B a → L.orL d a s = some r → Few B r.1
  and_ : ∀ d s r, L.and_ d s = some r → Few B r.1
  andL : ∀ d a s r, Few B a → L.andL d a s = some r → Few B r.1
  rel : ∀ d s r, L.rel d s = some r → Few B r.1
  sum : ∀ d s r, L.sum d s = some r → Few B r.1
  sumL : ∀ d a s r, Few B a → L.sumL d a s = some r → Few B r.1
  prod : ∀ d s r, L.prod d s = some r → Few B r.1
  prodL : ∀ d a s r, Few B a → L.prodL d a s = some r → Few B r.1
  sign : ∀ d s r, L.sign d s = some r → Few B r.1
  call : ∀ d s r, L.call d s = some r → Few B r.1
  callL : ∀ d b a s r, Few B a → L.callL d b a s = some r → Few B r.1
  rest : ∀ d s r, L.rest d s = some r → Few B r.1
  prim : ∀ d s r, L.prim d s = some r → Few B r.1
theorem KGood.none_ (B : Nat) : KGood B .none_ := by
  constructor <;> intros <;> rename_i h <;> exact absurd h (by simp [Lang.none_])
section
variable {B : Nat} {T : List Tok} {fin : Nat} {L : Lang}
theorem few_mk {k n : Int} {s : List UInt8} {a : Int} {l : List ND} {m : List CD} {r : List ND} (h : l.length ≤ B) : Few B (ND.mk k n s a l m r) := h
theorem bin_few {sub : Nat → PS → Option (ND × PS)} {lp : Nat → ND → PS → Option (ND × PS)} (h1 : ∀ d s r, sub d s = some r → Few B r.1) (h2 : ∀ d a s r, Few B a → lp d a s = some r → Few B r.1) (d : Nat) (s : PS) (r : ND × PS) (h : binN sub lp d s = some r) : Few B r.1 := by
  unfold binN at h
  obtain ⟨q, hq, h⟩ := bind_inv h
  exact h2 _ _ _ _ (h1 _ _ _ hq) h
theorem binL_few (hB : 2 ≤ B) {l : List (List UInt8)} {sub : Nat → PS → Option (ND × PS)} {lp : Nat → ND → PS → Option (ND × PS)} (h1 : ∀ d s r, sub d s = some r → Few B r.1) (h2 : ∀ d a s r, Few B a → lp d a s = some r → Few B r.1) (d : Nat) (a : ND) (s : PS) (r : ND × PS) (ha : Few B a) (h : binLN T fin l sub lp d a s = some r) : Few B r.1 := by
  unfold binLN at h
  cases ho : opP T l s with
  | none => rw [ho] at h; cases h; exact ha
  | some w =>
    rw [ho] at h
    obtain ⟨q, hq, h⟩ := bind_inv h
    exact h2 _ _ _ _ (by unfold Few; simpa [ND.kids] using hB) h
theorem KGood.next (hB : T.length + 2 ≤ B) (N : Mono T L) (M : KGood B L) : KGood B (L.next T fin) where
  expr d s r h := by
    simp only [Lang.next, exprN] at h
    obtain ⟨q, hq, h⟩ := bind_inv h
    have h1 := M.or_ _ _ _ hq
    split at h
    · obtain ⟨p, hp, h⟩ := bind_inv h
      cases h
      exact few_mk (show 2 ≤ B by omega)
    · split at h
      · obtain ⟨p, hp, h⟩ := bind_inv h
        cases h
        exact few_mk (show 2 ≤ B by omega)
      · cases h; exact h1
  or_ := bin_few M.and_ M.orL
  orL := binL_few (by omega) M.and_ M.orL
  and_ := bin_few M.rel M.andL
  andL := binL_few (by omega) M.rel M.andL
  rel d s r h := by
    simp only [Lang.next, relN] at h
    obtain ⟨q, hq, h⟩ := bind_inv h
    have h1 := M.sum _ _ _ hq
    cases ho : opP T sRel q.2 with
    | none => rw [ho] at h; cases h; exact h1
    | some w =>
      rw [ho] at h
      obtain ⟨p, hp, h⟩ := bind_inv h
      cases h
      exact few_mk (show 2 ≤ B by omega)
  sum := bin_few M.prod M.sumL
  sumL := binL_few (by omega) M.prod M.sumL
  prod := bin_few M.sign M.prodL
  prodL := binL_few (by omega) M.sign M.prodL
  sign d s r h := by
    simp only [Lang.next, signN] at h
    cases ho : opP T sSign (deepP T fin d s) with
    | none => rw [ho] at h; exact M.call _ _ _ h
    | some w =>
      rw [ho] at h
      obtain ⟨p, hp, h⟩ := bind_inv h
      cases h
      exact few_mk (show 1 ≤ B by omega)
  call d s r h := by
    simp only [Lang.next, callN] at h
    obtain ⟨q, hq, h⟩ := bind_inv h
    exact M.callL _ _ _ _ _ (M.prim _ _ _ hq) h
  callL d b a s r ha h := by
    simp only [Lang.next, callLN] at h
    split at h
    · rename_i hi
      obtain ⟨q, hq, h⟩ := bind_inv h
      obtain ⟨h1, h2⟩ := N.maybe_ _ _ _ _ hq
      have h3 := (isP_lt hi).2
      have h4 := h1.hi (by simp only [nextP]; omega)
      refine M.callL _ _ _ _ _ ?_ h
      split
      · exact few_mk (by omega)
      · exact few_mk (by simp only [List.length_cons]; omega)
    · cases h; exact ha
  rest d s r h := by
    simp only [Lang.next, restN] at h
    obtain ⟨q, hq, h⟩ := bind_inv h
    split at h
    · obtain ⟨p, hp, h⟩ := bind_inv h
      cases h
      exact few_mk (show 2 ≤ B by omega)
    · split at h
      · obtain ⟨p, hp, h⟩ := bind_inv h
        cases h
        exact few_mk (show 2 ≤ B by omega)
      · cases h
        exact few_mk (show 2 ≤ B by omega)
  prim d s r h := by
    simp only [Lang.next, primN] at h
    have hz : Few B ND.zero := few_mk (show 0 ≤ B by omega)
    have recv : ∀ at_ cl d s r, recvB T fin L at_ cl d s = some r → Few B r.1 := by
      intro at_ cl d s r h
      unfold recvB at h
      split at h
      · obtain ⟨x, hx, h⟩ := bind_inv h
        obtain ⟨b, hb, h⟩ := bind_inv h
        cases h
        exact few_mk (show 1 ≤ B by omega)
      · cases h; exact few_mk (show 0 ≤ B by omega)
    split at h
    · cases h; exact hz
    · cases ht : T[s.i]? with
      | none => rw [ht] at h; cases h; exact hz
      | some t =>
        rw [ht] at h
        simp only at h
        split at h
        · cases h; exact few_mk (show 0 ≤ B by omega)
        split at h
        · cases h; exact few_mk (show 0 ≤ B by omega)
        split at h
        · cases h; exact few_mk (show 0 ≤ B by omega)
        unfold primW at h
        split at h
        · obtain ⟨q, hq, h⟩ := bind_inv h
          have h1 := M.expr _ _ _ hq
          cases h
          exact h1
        split at h
        · rename_i hi
          obtain ⟨q, hq, h⟩ := bind_inv h
          obtain ⟨h1, h2⟩ := N.maybe_ _ _ _ _ hq
          have h3 := (isP_lt hi).2
          have h4 := h1.hi (by simp only [nextP]; omega)
          cases h
          exact few_mk (by omega)
        split at h
        · split at h
          · cases h; exact few_mk (show 0 ≤ B by omega)
          · obtain ⟨q, hq, h⟩ := bind_inv h
            cases h
            have h9 := M.rest _ _ _ hq
            cases hx : q.1 with
            | mk k n s9 a l m r9 =>
              rw [hx] at h9
              exact h9
        split at h
        · obtain ⟨q, hq, h⟩ := bind_inv h
          cases h
          exact few_mk (show 0 ≤ B by omega)
        split at h
        · obtain ⟨x, hx, h⟩ := bind_inv h
          obtain ⟨q, hq, h⟩ := bind_inv h
          cases h
          exact few_mk (show 1 ≤ B by omega)
        split at h
        · split at h
          · exact recv _ _ _ _ _ h
          · obtain ⟨q, hq, h⟩ := bind_inv h
            exact recv _ _ _ _ _ h
        split at h
        · obtain ⟨x, hx, h⟩ := bind_inv h
          obtain ⟨q, hq, h⟩ := bind_inv h
          cases h
          exact few_mk (show 0 ≤ B by omega)
        · cases h; exact hz
end
theorem lang_few {B : Nat} {T : List Tok} (fin : Nat) (hB : T.length + 2 ≤ B) : ∀ n, KGood B (lang T fin n)
  | 0 => .none_ B
  | n + 1 => (lang_few fin hB n).next hB (lang_mono T fin n)
/-- What Expr gives has few kids. -/
theorem exprP_few {s : List UInt8} {r : ND × Int × Int} (h : exprP s = some r) : r.1.kids.length ≤ 20002 := by
  have hl : (scanP s).toks.length + 2 ≤ 20002 := by
    have := namesP_len s
    simp only [namesP, List.length_cons, List.length_map] at this
    omega
  unfold exprP at h
  obtain ⟨q, hq, h⟩ := bind_inv h
  have h1 := (lang_few _ hl _).expr _ _ _ hq
  simp only [Option.some.injEq] at h
  rw [← h]
  generalize (if q.2.i < (scanP s).toks.length then failP (scanP s).toks s.length 110 q.2 else q.2) = p
  by_cases he : p.e = 0
  · rw [if_neg (by simp [he])]; exact h1
  · rw [if_pos he]; exact (show 0 ≤ 20002 by omega)
end Go.Proofs.YtmpknhdfglbocaaGreat
