/- Layer 11, the document's parser in plain functions: every name in a tree is a token's text, or empty. No program is named here. -/
import Derived.Test.YthhindnjnijglaaPaT
import Derived.Test.YthhindnjnijglaaScA
namespace Go.Proofs.Ythhindnjnijglaa
open Go.RowKit
set_option linter.unusedVariables false

/-- Whatever the rules give, its names have the property. -/
structure Good (Q : List UInt8 → Prop) (L : Lang) : Prop where
  expr : ∀ d s r, L.expr d s = some r → r.1.all Q
  list : ∀ d s r, L.list d s = some r → ND.allL Q r.1
  listL : ∀ d out s r, ND.allL Q out → L.listL d out s = some r → ND.allL Q r.1
  maybe_ : ∀ w d s r, L.maybe_ w d s = some r → ND.allL Q r.1
  or_ : ∀ d s r, L.or_ d s = some r → r.1.all Q
  orL : ∀ d a s r, a.all Q → L.orL d a s = some r → r.1.all Q
  and_ : ∀ d s r, L.and_ d s = some r → r.1.all Q
  andL : ∀ d a s r, a.all Q → L.andL d a s = some r → r.1.all Q
  rel : ∀ d s r, L.rel d s = some r → r.1.all Q
  sum : ∀ d s r, L.sum d s = some r → r.1.all Q
  sumL : ∀ d a s r, a.all Q → L.sumL d a s = some r → r.1.all Q
  prod : ∀ d s r, L.prod d s = some r → r.1.all Q
  prodL : ∀ d a s r, a.all Q → L.prodL d a s = some r → r.1.all Q
  sign : ∀ d s r, L.sign d s = some r → r.1.all Q
  call : ∀ d s r, L.call d s = some r → r.1.all Q
  callL : ∀ d b a s r, a.all Q → L.callL d b a s = some r → r.1.all Q
  tail : ∀ d ps nm a s r, ND.allL Q ps → Q nm → L.tail d ps nm a s = some r → r.1.all Q
  head : ∀ d nm a s r, Q nm → L.head d nm a s = some r → r.1.all Q
  arms : ∀ d out s r, CD.allL Q out → L.arms d out s = some r → CD.allL Q r.1
  funs : ∀ d out s r, CD.allL Q out → L.funs d out s = some r → CD.allL Q r.1
  rest : ∀ d s r, L.rest d s = some r → r.1.all Q
  prim : ∀ d s r, L.prim d s = some r → r.1.all Q
theorem Good.none_ (Q : List UInt8 → Prop) : Good Q .none_ := by
  constructor <;> intros <;> rename_i h <;> exact absurd h (by simp [Lang.none_])
section
variable {Q : List UInt8 → Prop} {T : List Tok} {fin : Nat} {L : Lang}
theorem isP_text {w : List UInt8} {s : PS} (h : isP T w s = true) : ∃ t ∈ T, t.text = w := by
  unfold isP at h
  simp only [Bool.and_eq_true, beq_iff_eq] at h
  cases ht : T[s.i]? with
  | none => rw [ht] at h; simp at h
  | some t =>
    rw [ht] at h
    simp only [Bool.and_eq_true, beq_iff_eq] at h
    exact ⟨t, List.mem_of_getElem? ht, h.2.2⟩
theorem opP_text {l : List (List UInt8)} {w : List UInt8} {s : PS} (h : opP T l s = some w) : ∃ t ∈ T, t.text = w := isP_text (opP_is h)
theorem all_mk {k n : Int} {s : List UInt8} {a : Int} {l : List ND} {m : List CD} {r : List ND} (h1 : Q s) (h2 : ND.allL Q l) (h3 : CD.allL Q m) (h4 : ND.allL Q r) : (ND.mk k n s a l m r).all Q := by simp only [ND.all]; exact ⟨h1, h2, h3, h4⟩
theorem all_nil : ND.allL Q [] := by simp [ND.allL]
theorem call_nil : CD.allL Q [] := by simp [CD.allL]
theorem all_one {t : ND} (h : t.all Q) : ND.allL Q [t] := by simp only [ND.allL, and_true]; exact h
theorem all_two {t u : ND} (h : t.all Q) (k : u.all Q) : ND.allL Q [t, u] := by simp only [ND.allL, and_true]; exact ⟨h, k⟩
theorem call_one {t : CD} (h : t.all Q) : CD.allL Q [t] := by simp only [CD.allL, and_true]; exact h
theorem bin_good {sub : Nat → PS → Option (ND × PS)} {lp : Nat → ND → PS → Option (ND × PS)} (h1 : ∀ d s r, sub d s = some r → r.1.all Q) (h2 : ∀ d a s r, a.all Q → lp d a s = some r → r.1.all Q) (d : Nat) (s : PS) (r : ND × PS) (h : binN sub lp d s = some r) : r.1.all Q := by
  unfold binN at h
  obtain ⟨q, hq, h⟩ := bind_inv h
  exact h2 _ _ _ _ (h1 _ _ _ hq) h
theorem binL_good (hT : ∀ t ∈ T, Q t.text) {l : List (List UInt8)} {sub : Nat → PS → Option (ND × PS)} {lp : Nat → ND → PS → Option (ND × PS)} (h1 : ∀ d s r, sub d s = some r → r.1.all Q) (h2 : ∀ d a s r, a.all Q → lp d a s = some r → r.1.all Q) (d : Nat) (a : ND) (s : PS) (r : ND × PS) (ha : a.all Q) (h : binLN T fin l sub lp d a s = some r) : r.1.all Q := by
  unfold binLN at h
  cases ho : opP T l s with
  | none => rw [ho] at h; cases h; exact ha
  | some w =>
    rw [ho] at h
    obtain ⟨q, hq, h⟩ := bind_inv h
    obtain ⟨t, ht, rfl⟩ := opP_text ho
    exact h2 _ _ _ _ (all_mk (hT t ht) (all_two ha (h1 _ _ _ hq)) call_nil all_nil) h
theorem Good.next (h0 : Q []) (hT : ∀ t ∈ T, Q t.text) (M : Good Q L) : Good Q (L.next T fin) where
  expr d s r h := by
    simp only [Lang.next, exprN] at h
    obtain ⟨q, hq, h⟩ := bind_inv h
    have h1 := M.or_ _ _ _ hq
    split at h
    · obtain ⟨p, hp, h⟩ := bind_inv h
      cases h
      exact all_mk h0 (all_two h1 (M.expr _ _ _ hp)) call_nil all_nil
    · split at h
      · obtain ⟨p, hp, h⟩ := bind_inv h
        cases h
        exact all_mk h0 (all_two h1 (M.expr _ _ _ hp)) call_nil all_nil
      · cases h; exact h1
  list d s r h := by
    simp only [Lang.next, listN] at h
    obtain ⟨q, hq, h⟩ := bind_inv h
    exact M.listL _ _ _ _ (all_one (M.expr _ _ _ hq)) h
  listL d out s r ho h := by
    simp only [Lang.next, listLN] at h
    split at h
    · obtain ⟨q, hq, h⟩ := bind_inv h
      exact M.listL _ _ _ _ (ndall_append.2 ⟨ho, all_one (M.expr _ _ _ hq)⟩) h
    · cases h; exact ho
  maybe_ w d s r h := by
    simp only [Lang.next, maybeN] at h
    split at h
    · cases h; exact all_nil
    · obtain ⟨q, hq, h⟩ := bind_inv h
      have h1 := M.list _ _ _ hq
      cases h
      exact h1
  or_ := bin_good M.and_ M.orL
  orL := binL_good hT M.and_ M.orL
  and_ := bin_good M.rel M.andL
  andL := binL_good hT M.rel M.andL
  rel d s r h := by
    simp only [Lang.next, relN] at h
    obtain ⟨q, hq, h⟩ := bind_inv h
    have h1 := M.sum _ _ _ hq
    cases ho : opP T sRel q.2 with
    | none => rw [ho] at h; cases h; exact h1
    | some w =>
      rw [ho] at h
      obtain ⟨p, hp, h⟩ := bind_inv h
      cases h
      obtain ⟨t, ht, rfl⟩ := opP_text ho
      exact all_mk (hT t ht) (all_two h1 (M.sum _ _ _ hp)) call_nil all_nil
  sum := bin_good M.prod M.sumL
  sumL := binL_good hT M.prod M.sumL
  prod := bin_good M.sign M.prodL
  prodL := binL_good hT M.sign M.prodL
  sign d s r h := by
    simp only [Lang.next, signN] at h
    cases ho : opP T sSign (deepP T fin d s) with
    | none => rw [ho] at h; exact M.call _ _ _ h
    | some w =>
      rw [ho] at h
      obtain ⟨p, hp, h⟩ := bind_inv h
      cases h
      obtain ⟨t, ht, rfl⟩ := opP_text ho
      exact all_mk (hT t ht) (all_one (M.sign _ _ _ hp)) call_nil all_nil
  call d s r h := by
    simp only [Lang.next, callN] at h
    obtain ⟨q, hq, h⟩ := bind_inv h
    exact M.callL _ _ _ _ _ (M.prim _ _ _ hq) h
  callL d b a s r ha h := by
    simp only [Lang.next, callLN] at h
    split at h
    · obtain ⟨q, hq, h⟩ := bind_inv h
      have hl := M.maybe_ _ _ _ _ hq
      refine M.callL _ _ _ _ _ ?_ h
      split
      · exact all_mk ((ND.all_iff a).1 ha).1 hl call_nil all_nil
      · exact all_mk h0 (by simp only [ND.allL]; exact ⟨ha, hl⟩) call_nil all_nil
    · cases h; exact ha
  tail d ps nm a s r hp hn h := by
    simp only [Lang.next, tailN] at h
    obtain ⟨g, hg, h⟩ := bind_inv h
    obtain ⟨b, hb, h⟩ := bind_inv h
    cases h
    have h1 : ND.allL Q g.1 := by
      split at hg
      · exact M.list _ _ _ hg
      · cases hg; exact all_nil
    simp only [CD.all]
    exact ⟨hn, hp, h1, M.list _ _ _ hb⟩
  head d nm a s r hn h := by
    simp only [Lang.next, headN] at h
    obtain ⟨q, hq, h⟩ := bind_inv h
    exact M.tail _ _ _ _ _ _ (M.maybe_ _ _ _ _ hq) hn h
  arms d out s r ho h := by
    simp only [Lang.next, armsN] at h
    split at h
    · obtain ⟨q, hq, h⟩ := bind_inv h
      obtain ⟨c, hc, h⟩ := bind_inv h
      have h1 := M.tail _ _ _ _ _ _ (all_one (M.expr _ _ _ hq)) h0 hc
      split at h
      · exact M.arms _ _ _ _ (cdall_append.2 ⟨ho, call_one h1⟩) h
      · cases h; exact cdall_append.2 ⟨ho, call_one h1⟩
    · cases h; exact ho
  funs d out s r ho h := by
    simp only [Lang.next, funsN] at h
    split at h
    · obtain ⟨c, hc, h⟩ := bind_inv h
      have h1 := M.head _ _ _ _ _ h0 hc
      split at h
      · exact M.funs _ _ _ _ (cdall_append.2 ⟨ho, call_one h1⟩) h
      · cases h; exact cdall_append.2 ⟨ho, call_one h1⟩
    · cases h; exact ho
  rest d s r h := by
    simp only [Lang.next, restN] at h
    obtain ⟨q, hq, h⟩ := bind_inv h
    have h1 := M.expr _ _ _ hq
    split at h
    · obtain ⟨p, hp, h⟩ := bind_inv h
      cases h
      exact all_mk h0 (all_two h1 (M.rest _ _ _ hp)) call_nil all_nil
    · split at h
      · obtain ⟨p, hp, h⟩ := bind_inv h
        cases h
        exact all_mk h0 (all_two h1 (M.expr _ _ _ hp)) call_nil all_nil
      · cases h
        exact all_mk h0 (all_two h1 (all_mk h0 all_nil call_nil all_nil)) call_nil all_nil
  prim d s r h := by
    simp only [Lang.next, primN] at h
    have hz : ND.zero.all Q := all_mk h0 all_nil call_nil all_nil
    have recv : ∀ at_ cl d s r, CD.allL Q cl → recvB T fin L at_ cl d s = some r → r.1.all Q := by
      intro at_ cl d s r hcl h
      unfold recvB at h
      split at h
      · obtain ⟨x, hx, h⟩ := bind_inv h
        obtain ⟨b, hb, h⟩ := bind_inv h
        cases h
        exact all_mk h0 (all_one (M.expr _ _ _ hx)) hcl (M.list _ _ _ hb)
      · cases h; exact all_mk h0 all_nil hcl all_nil
    split at h
    · cases h; exact hz
    · cases ht : T[s.i]? with
      | none => rw [ht] at h; cases h; exact hz
      | some t =>
        have hQ := hT t (List.mem_of_getElem? ht)
        rw [ht] at h
        simp only at h
        split at h
        · cases h; exact all_mk h0 all_nil call_nil all_nil
        split at h
        · cases h; exact all_mk hQ all_nil call_nil all_nil
        split at h
        · cases h; exact all_mk hQ all_nil call_nil all_nil
        unfold primW at h
        split at h
        · obtain ⟨q, hq, h⟩ := bind_inv h
          have h1 := M.expr _ _ _ hq
          cases h
          exact h1
        split at h
        · obtain ⟨q, hq, h⟩ := bind_inv h
          cases h
          exact all_mk h0 (M.maybe_ _ _ _ _ hq) call_nil all_nil
        split at h
        · split at h
          · cases h; exact all_mk h0 all_nil call_nil all_nil
          · obtain ⟨q, hq, h⟩ := bind_inv h
            cases h
            have h9 := M.rest _ _ _ hq
            cases hx : q.1 with
            | mk k n s9 a l m r9 =>
              rw [hx] at h9
              simp only [ND.all] at h9
              simp only [ND.withAt, ND.all]
              exact h9
        split at h
        · obtain ⟨q, hq, h⟩ := bind_inv h
          cases h
          exact all_mk h0 all_nil (M.funs _ _ _ _ call_nil hq) all_nil
        split at h
        · obtain ⟨x, hx, h⟩ := bind_inv h
          obtain ⟨q, hq, h⟩ := bind_inv h
          cases h
          exact all_mk h0 (all_one (M.expr _ _ _ hx)) (M.arms _ _ _ _ call_nil hq) all_nil
        split at h
        · split at h
          · exact recv _ _ _ _ _ call_nil h
          · obtain ⟨q, hq, h⟩ := bind_inv h
            exact recv _ _ _ _ _ (M.arms _ _ _ _ call_nil hq) h
        split at h
        · obtain ⟨x, hx, h⟩ := bind_inv h
          obtain ⟨q, hq, h⟩ := bind_inv h
          cases h
          exact all_mk h0 all_nil (M.arms _ _ _ _ call_nil hq) (M.list _ _ _ hx)
        · cases h; exact hz
end
theorem lang_good {Q : List UInt8 → Prop} {T : List Tok} (fin : Nat) (h0 : Q []) (hT : ∀ t ∈ T, Q t.text) : ∀ n, Good Q (lang T fin n)
  | 0 => .none_ Q
  | n + 1 => (lang_good fin h0 hT n).next h0 hT

/-! ### tokens' texts -/
theorem cutB_le (s : List UInt8) (i j : Nat) : (cutB s i j).length ≤ s.length := by
  unfold cutB
  rw [List.length_take, List.length_drop]
  omega
theorem quoL_name (s : List UInt8) (a : Nat) : ∀ (m i : Nat) (b : List UInt8) (r : QR), quoL s a m i b = some r → r.name.length ≤ 255 
  | 0, _, _, _, h => by simp [quoL] at h
  | m + 1, i, b, r, h => by
    unfold quoL at h
    split at h
    · cases h; simp [QR.bad]
    · split at h
      · split at h
        · cases h; simp [QR.bad]
        · rename_i hb
          cases h
          show b.length ≤ 255
          omega
      · split at h
        · split at h
          · cases h; simp [QR.bad]
          · split at h
            · exact quoL_name s a m _ _ r h
            · split at h
              · exact quoL_name s a m _ _ r h
              · cases h; simp [QR.bad]
        · split at h
          · cases h; simp [QR.bad]
          · exact quoL_name s a m _ _ r h
theorem tokP_text {s : List UInt8} {i c : Nat} {t : Tok} (h : tokP s i c = .ok t) : t.text.length ≤ s.length + 255 := by
  unfold tokP at h
  split at h
  · split at h
    · cases h
    · cases h; simp
  · split at h
    · split at h
      · cases h
      · cases h
        have := cutB_le s i (spanE morN s i)
        show (cutB s i (spanE morN s i)).length ≤ _
        omega
    · split at h
      · split at h
        · cases h
        · cases h
          have := quoL_name s i _ _ _ _ (quoP_eq s i)
          show (quoP s i).name.length ≤ _
          omega
      · split at h
        · cases h
        · cases h
          have := cutB_le s i (i + signP (s.drop i))
          show (cutB s i (i + signP (s.drop i))).length ≤ _
          omega
theorem scanL_text (s : List UInt8) : ∀ (m i : Nat) (out : List Tok) (r : SR), (∀ t ∈ out, t.text.length ≤ s.length + 255) → scanL s m i out = some r → ∀ t ∈ r.toks, t.text.length ≤ s.length + 255
  | 0, _, _, _, _, h => by simp [scanL] at h
  | m + 1, i, out, r, ho, h => by
    unfold scanL at h
    split at h
    · cases h; exact ho
    · split at h
      · exact scanL_text s m _ _ r ho h
      · split at h
        · exact scanL_text s m _ _ r ho h
        · split at h
          · cases h; intro t ht; simp at ht
          · rename_i t ht
            refine scanL_text s m _ _ r (fun u hu => ?_) h
            rcases List.mem_append.1 hu with hu | hu
            · exact ho u hu
            · rw [List.mem_singleton.1 hu]; exact tokP_text ht
theorem scanP_text (s : List UInt8) : ∀ t ∈ (scanP s).toks, t.text.length ≤ 20000 := by
  by_cases h : s.length ≤ 16384
  · intro t ht
    have := scanL_text s _ _ _ _ (fun u hu => by simp at hu) (scanP_eq h) t ht
    omega
  · unfold scanP
    rw [if_pos (by omega)]
    intro t ht
    simp at ht
/-- The names that may stand in a text's tree. -/
def namesP (s : List UInt8) : List (List UInt8) := [] :: (scanP s).toks.map (·.text)
theorem namesP_len (s : List UInt8) : (namesP s).length ≤ 20000 := by
  have := scanP_len s
  simp [namesP]
  omega
theorem namesP_text (s : List UInt8) : ∀ w ∈ namesP s, w.length ≤ 20000 := by
  intro w hw
  rcases List.mem_cons.1 hw with rfl | hw
  · simp
  · obtain ⟨t, ht, rfl⟩ := List.mem_map.1 hw
    exact scanP_text s t ht
theorem exprP_all {s : List UInt8} {r : ND × Int × Int} (h : exprP s = some r) {Q : List UInt8 → Prop} (h0 : Q []) (hT : ∀ t ∈ (scanP s).toks, Q t.text) : r.1.all Q := by
  unfold exprP at h
  obtain ⟨q, hq, h⟩ := bind_inv h
  have h1 := (lang_good _ h0 hT _).expr _ _ _ hq
  simp only [Option.some.injEq] at h
  rw [← h]
  generalize (if q.2.i < (scanP s).toks.length then failP (scanP s).toks s.length 110 q.2 else q.2) = p
  by_cases he : p.e = 0
  · rw [if_neg (by simp [he])]; exact h1
  · rw [if_pos he]; exact all_mk h0 all_nil call_nil all_nil
theorem exprP_names {s : List UInt8} {r : ND × Int × Int} (h : exprP s = some r) : r.1.all (fun w => w ∈ namesP s) :=
  exprP_all h (List.mem_cons_self ..) fun t ht => List.mem_cons_of_mem _ (List.mem_map_of_mem ht)
mutual
theorem ND.all_mono {Q P : List UInt8 → Prop} (hQ : ∀ w, Q w → P w) : ∀ t : ND, t.all Q → t.all P
  | .mk k n s a l m r, h => by
    simp only [ND.all] at h ⊢
    exact ⟨hQ _ h.1, ND.allL_mono hQ l h.2.1, CD.allL_mono hQ m h.2.2.1, ND.allL_mono hQ r h.2.2.2⟩
theorem ND.allL_mono {Q P : List UInt8 → Prop} (hQ : ∀ w, Q w → P w) : ∀ l : List ND, ND.allL Q l → ND.allL P l
  | [], _ => by simp [ND.allL]
  | t :: r, h => by
    simp only [ND.allL] at h ⊢
    exact ⟨ND.all_mono hQ t h.1, ND.allL_mono hQ r h.2⟩
theorem CD.all_mono {Q P : List UInt8 → Prop} (hQ : ∀ w, Q w → P w) : ∀ t : CD, t.all Q → t.all P
  | .mk p g b s a, h => by
    simp only [CD.all] at h ⊢
    exact ⟨hQ _ h.1, ND.allL_mono hQ p h.2.1, ND.allL_mono hQ g h.2.2.1, ND.allL_mono hQ b h.2.2.2⟩
theorem CD.allL_mono {Q P : List UInt8 → Prop} (hQ : ∀ w, Q w → P w) : ∀ l : List CD, CD.allL Q l → CD.allL P l
  | [], _ => by simp [CD.allL]
  | t :: r, h => by
    simp only [CD.allL] at h ⊢
    exact ⟨CD.all_mono hQ t h.1, CD.allL_mono hQ r h.2⟩
end
end Go.Proofs.Ythhindnjnijglaa
