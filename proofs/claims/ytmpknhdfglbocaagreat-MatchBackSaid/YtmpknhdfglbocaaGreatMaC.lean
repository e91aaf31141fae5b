/- Layer 13: a scope in memory: a map from names to terms, of the call's own. -/
import Derived.Test.YtmpknhdfglbocaaGreatMaB
import Derived.Test.YtmpknhdfglbocaaGreatTE
import Derived.WalkArith
namespace Go.Proofs.YtmpknhdfglbocaaGreat
open Go.RowKit Go.Maps Go.WideMaps
set_option linter.unusedVariables false

theorem getG_find {α : Type} {L : List (BG α)} (h : SrtG L) (s : List UInt8) : getG s L = (L.find? (fun q => q.1 == s)).map (·.2) := by
  induction L with
  | nil => rfl
  | cons x r ih =>
    obtain ⟨h1, h2⟩ := List.pairwise_cons.1 h
    by_cases hx : x.1 = s
    · have : getG s r = none := getG_none.2 fun q hq e => lt_ne (h1 q hq) (by rw [hx, e])
      rw [getG, this, if_pos hx, List.find?_cons, beq_iff_eq.2 hx]
      rfl
    · rw [getG, ih h2, List.find?_cons, beq_eq_false_iff_ne.2 hx]
      simp only [if_neg hx]
      cases (List.find? (fun q => q.1 == s) r).map (·.2) <;> rfl
section
variable {w0 : World}
/-- How an element reads: as itself. -/
abbrev holdE (v : Value) : Option (DataW Value × List MemPlace) := some (.held v, [])
def bdat (L : List (BG (TE w0))) : DataW Value := .map (L.map fun q => (.string q.1, .held q.2.agg))
theorem at_bdat {L : List (BG (TE w0))} (h : SrtG L) (s : List UInt8) (z : Value) : (bdat L).atKey (.string s) (.held z) = .held (((getG s L).map TE.agg).getD z) := by
  rw [getG_find h]
  unfold DataW.atKey bdat
  clear h
  induction L with
  | nil => rfl
  | cons q r ih =>
    simp only [List.map_cons, List.find?_cons, Lit.sameKey] at ih ⊢
    cases hq : (q.1 == s) with
    | true => simp
    | false => simpa using ih
theorem has_bdat {L : List (BG (TE w0))} (h : SrtG L) (s : List UInt8) : Maps.has (bdat L) (.string s) = (getG s L).isSome := by
  rw [getG_find h]
  unfold Maps.has bdat
  clear h
  induction L with
  | nil => rfl
  | cons q r ih =>
    simp only [List.map_cons, List.any_cons, List.find?_cons, Lit.sameKey] at ih ⊢
    cases hq : (q.1 == s) with
    | true => simp
    | false => simpa using ih
theorem put_bdat {L : List (BG (TE w0))} (h : SrtG L) (s : List UInt8) (e : TE w0) : (bdat L).put (.string s) (.held e.agg) = bdat (insG (s, e) L) := by
  unfold DataW.put bdat
  simp only
  congr 1
  have keep : ∀ M : List (BG (TE w0)), (∀ q ∈ M, q.1 ≠ s) → (M.map fun q => ((Lit.string q.1, DataW.held q.2.agg) : Lit × DataW Value)).filter (fun p => !p.1.sameKey (.string s)) = M.map fun q => (Lit.string q.1, DataW.held q.2.agg) := fun M hM => by
    refine List.filter_eq_self.2 fun q hq => ?_
    obtain ⟨x, hx, rfl⟩ := List.mem_map.1 hq
    simpa [Lit.sameKey] using hM x hx
  have front : ∀ M : List (BG (TE w0)), (∀ q ∈ M, s < q.1) → DataW.insert (.string s, .held e.agg) (M.map fun q => ((Lit.string q.1, DataW.held q.2.agg) : Lit × DataW Value)) = (Lit.string s, DataW.held e.agg) :: M.map fun q => (Lit.string q.1, DataW.held q.2.agg) := fun M hM => by
    cases M with
    | nil => rfl
    | cons y r =>
      have hy := (before_iff _ _).2 (hM y (List.mem_cons_self ..))
      simp [DataW.insert, Lit.before, hy]
  induction L with
  | nil => rfl
  | cons x r ih =>
    obtain ⟨h1, h2⟩ := List.pairwise_cons.1 h
    simp only [insG]
    by_cases hl : Op.bytesLess x.1 s = true
    · rw [if_pos hl]
      have hlt := (lessB_iff _ _).1 hl
      have hne : (x.1 == s) = false := beq_eq_false_iff_ne.2 (lt_ne hlt)
      have hnb : bytesBefore s x.1 = false := by
        cases hb : bytesBefore s x.1 with
        | false => rfl
        | true => exact absurd (List.lt_trans ((before_iff _ _).1 hb) hlt) (List.lt_irrefl _)
      simp only [List.map_cons, List.filter_cons, Lit.sameKey, hne, Bool.not_false, if_true, DataW.insert, Lit.before, hnb, Bool.false_eq_true, if_false]
      rw [← ih h2]
      rfl
    · rw [if_neg hl]
      have hnl : ¬ x.1 < s := fun h9 => hl ((lessB_iff _ _).2 h9)
      by_cases he : x.1 = s
      · rw [if_pos he]
        have hq : (x.1 == s) = true := beq_iff_eq.2 he
        have hr : ∀ q ∈ r, s < q.1 := fun q hq => by rw [← he]; exact h1 q hq
        simp only [List.map_cons, List.filter_cons, Lit.sameKey, hq, Bool.not_true, Bool.false_eq_true, if_false]
        have hk := keep r fun q hq => (lt_ne (hr q hq)).symm
        simp only [Lit.sameKey] at hk
        rw [hk, front r hr, he]
      · rw [if_neg he]
        have hsx : s < x.1 := lt_or hnl he
        have hall : ∀ q ∈ x :: r, s < q.1 := fun q hq => by
          rcases List.mem_cons.1 hq with rfl | hq
          · exact hsx
          · exact List.lt_trans hsx (h1 q hq)
        rw [keep (x :: r) fun q hq => (lt_ne (hall q hq)).symm, front (x :: r) hall]
        rfl
end
theorem size_bdat {w0 : World} (L : List (BG (TE w0))) : Maps.size (bdat L) = L.length := by simp [Maps.size, bdat]
theorem tks : Keyed Tryz.prog 9 := string_keyed Tryz.underlying9
theorem tkey {s : List UInt8} (h : s.length ≤ maxLen) : keyOf Tryz.prog 9 (.string ⟨s.toArray⟩) = some (.string s) := by
  have := keyOf_string_mk Tryz.underlying9 (s := ⟨s.toArray⟩) (by simpa [ByteArray.size] using h)
  simpa using this
theorem tzero (w : World) : (zeroValue 35).run Tryz.prog w = .ok (.agg #[.int .i64 0, .int .i64 0, .string ⟨#[]⟩, .slice none 0 0]) w := by kernel_rfl
/-- A scope, in memory. -/
structure SM {w0 : World} (W : World) (b : Nat) (L : List (BG (TE w0))) : Prop where
  srt : SrtG L
  own : W.ownsMap (H := Value) Tryz.prog 9 holdE b L.length (bdat L)
section
variable {w0 W W' : World} {b : Nat} {L : List (BG (TE w0))}
theorem SM.look (h : SM W b L) {s : List UInt8} (hs : s.length ≤ maxLen) :
    (Instr.lookup 65 (.map (some b)) (.string ⟨s.toArray⟩) true).run Tryz.prog W = .ok (.tuple #[((getG s L).map TE.agg).getD (.agg #[.int .i64 0, .int .i64 0, .string ⟨#[]⟩, .slice none 0 0]), .bool (getG s L).isSome]) W := by
  obtain ⟨v, ps, hrun, hv⟩ := World.ownsMap.look_ok h.own tks Tryz.underlying65 (tzero W) rfl (tkey hs)
  rw [at_bdat h.srt] at hv
  simp only [holdE, Option.some.injEq, Prod.mk.injEq, DataW.held.injEq] at hv
  rw [hrun, has_bdat h.srt, hv.1]
theorem SM.get (h : SM W b L) {s : List UInt8} (hs : s.length ≤ maxLen) :
    (Instr.lookup 65 (.map (some b)) (.string ⟨s.toArray⟩) false).run Tryz.prog W = .ok (((getG s L).map TE.agg).getD (.agg #[.int .i64 0, .int .i64 0, .string ⟨#[]⟩, .slice none 0 0])) W := by
  obtain ⟨v, ps, hrun, hv⟩ := World.ownsMap.lookup h.own tks Tryz.underlying65 (tzero W) rfl (tkey hs)
  rw [at_bdat h.srt] at hv
  simp only [holdE, Option.some.injEq, Prod.mk.injEq, DataW.held.injEq] at hv
  rw [hrun, hv.1]
theorem SM.store (h : SM W b L) {s : List UInt8} (hs : s.length ≤ maxLen) (hL : L.length < maxLen) (e : TE w0) :
    ∃ w', (Instr.mapUpdate 65 (.map (some b)) (.string ⟨s.toArray⟩) (.agg #[.int .i64 e.t.kind, .int .i64 e.t.int, .string ⟨e.t.name.toArray⟩, .slice e.A e.t.items.length e.c])).run Tryz.prog W = .ok () w' ∧ SM w' b (insG (s, e) L) ∧ Fr (fun k => k = b) W w' := by
  obtain ⟨wu, h1, h2, h3⟩ := World.ownsMap.store (val := e.agg) h.own tks Tryz.underlying65 hL (tkey hs) rfl
  rw [put_bdat h.srt] at h2
  refine ⟨wu, h1, ⟨insG_srt h.srt, ?_⟩, Fr.of_grown h3.grown fun k hk _ => (Option.some.inj hk).symm⟩
  have := owns_size h2
  rwa [size_bdat] at this
theorem SM.lt (h : SM W b L) : b < W.heap.size := World.ownsMap.lt h.own
theorem SM.fr {F : Nat → Prop} (h : SM W b L) (hf : Fr F W W') (hn : ¬ F b) : SM W' b L := ⟨h.srt, owns_fr h.own hf hn⟩
theorem SM.keep (h : SM W b L) (hb : Below W.heap.size W W') : SM W' b L := ⟨h.srt, owns_keep h.own hb⟩
theorem SM.made (W : World) : SM (w0 := w0) (W.alloc (.map #[] 0)) W.heap.size [] := ⟨List.Pairwise.nil, World.ownsMap_made W _ _ _⟩
end
end Go.Proofs.YtmpknhdfglbocaaGreat
