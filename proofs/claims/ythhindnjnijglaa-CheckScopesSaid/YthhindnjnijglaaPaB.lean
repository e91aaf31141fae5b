/- Layer 11, the document's parser, as plain functions: tokens, trees, the rules with fuel. No program is named here. Layer 11, the document's parser in plain functions: it goes forward, and the fuel is enough. No program is named here. -/
import Derived.Test.YthhindnjnijglaaFr
namespace Go.Proofs.Ythhindnjnijglaa
section
open Go.RowKit
set_option linter.unusedVariables false

/-- A token. -/
structure Tok where
  kind : Int
  int : Int
  text : List UInt8
  at_ : Nat
  fin : Nat
mutual
/-- A piece of a program. -/
inductive ND where
  | mk (kind int : Int) (name : List UInt8) (at_ : Int) (kids : List ND) (clauses : List CD) (body : List ND)
/-- A clause. -/
inductive CD where
  | mk (patterns guards body : List ND) (name : List UInt8) (at_ : Int)
end
def ND.kind : ND → Int | .mk k _ _ _ _ _ _ => k
def ND.int : ND → Int | .mk _ n _ _ _ _ _ => n
def ND.name : ND → List UInt8 | .mk _ _ s _ _ _ _ => s
def ND.at_ : ND → Int | .mk _ _ _ a _ _ _ => a
def ND.kids : ND → List ND | .mk _ _ _ _ l _ _ => l
def ND.clauses : ND → List CD | .mk _ _ _ _ _ l _ => l
def ND.body : ND → List ND | .mk _ _ _ _ _ _ l => l
def CD.patterns : CD → List ND | .mk l _ _ _ _ => l
def CD.guards : CD → List ND | .mk _ l _ _ _ => l
def CD.body : CD → List ND | .mk _ _ l _ _ => l
def CD.name : CD → List UInt8 | .mk _ _ _ s _ => s
def CD.at_ : CD → Int | .mk _ _ _ _ a => a
def ND.zero : ND := .mk 0 0 [] 0 [] [] []
/-- What the parser has come to: a place among the tokens, the first error and its place. -/
structure PS where
  i : Nat
  e : Int
  at_ : Int

section
variable (T : List Tok) (fin : Nat)
def placeP (s : PS) : Int := match T[s.i]? with
  | some t => t.at_
  | none => fin
def failP (e : Int) (s : PS) : PS := if s.e = 0 then { s with e := e, at_ := placeP T fin s } else s
def nextP (s : PS) : PS := { s with i := s.i + 1 }
def isP (w : List UInt8) (s : PS) : Bool := s.e == 0 && match T[s.i]? with
  | some t => (t.kind == 5 || t.kind == 4) && t.text == w
  | none => false
def kindP (k : Int) (s : PS) : Bool := s.e == 0 && match T[s.i]? with
  | some t => t.kind == k
  | none => false
def mustP (w : List UInt8) (s : PS) : PS := if isP T w s then nextP s else failP T fin 110 s
def opP (l : List (List UInt8)) (s : PS) : Option (List UInt8) := l.find? (fun w => isP T w s)
def deepP (deep : Nat) (s : PS) : PS := if 64 < deep then failP T fin 111 s else s
end
def sOr : List UInt8 := [111, 114]
def sAnd : List UInt8 := [97, 110, 100]
def sRel : List (List UInt8) := [[61, 61], [47, 61], [60], [62], [61, 60], [62, 61]]
def sSum : List (List UInt8) := [[43], [45]]
def sProd : List (List UInt8) := [[42], [100, 105, 118], [114, 101, 109]]
def sSign : List (List UInt8) := [[45], [110, 111, 116]]
def sEq : List UInt8 := [61]
def sBang : List UInt8 := [33]
def sOpen : List UInt8 := [40]
def sShut : List UInt8 := [41]
def sLb : List UInt8 := [91]
def sRb : List UInt8 := [93]
def sLc : List UInt8 := [123]
def sRc : List UInt8 := [125]
def sComma : List UInt8 := [44]
def sSemi : List UInt8 := [59]
def sBar : List UInt8 := [124]
def sArrow : List UInt8 := [45, 62]
def sDot : List UInt8 := [46]
def sWhen : List UInt8 := [119, 104, 101, 110]
def sFun : List UInt8 := [102, 117, 110]
def sEnd : List UInt8 := [101, 110, 100]
def sCase : List UInt8 := [99, 97, 115, 101]
def sOf : List UInt8 := [111, 102]
def sReceive : List UInt8 := [114, 101, 99, 101, 105, 118, 101]
def sAfter : List UInt8 := [97, 102, 116, 101, 114]
def sTry : List UInt8 := [116, 114, 121]
def sCatch : List UInt8 := [99, 97, 116, 99, 104]

/-- The rules, as functions; none: the fuel is out. -/
structure Lang where
  expr : Nat → PS → Option (ND × PS)
  list : Nat → PS → Option (List ND × PS)
  listL : Nat → List ND → PS → Option (List ND × PS)
  maybe_ : List UInt8 → Nat → PS → Option (List ND × PS)
  or_ : Nat → PS → Option (ND × PS)
  orL : Nat → ND → PS → Option (ND × PS)
  and_ : Nat → PS → Option (ND × PS)
  andL : Nat → ND → PS → Option (ND × PS)
  rel : Nat → PS → Option (ND × PS)
  sum : Nat → PS → Option (ND × PS)
  sumL : Nat → ND → PS → Option (ND × PS)
  prod : Nat → PS → Option (ND × PS)
  prodL : Nat → ND → PS → Option (ND × PS)
  sign : Nat → PS → Option (ND × PS)
  call : Nat → PS → Option (ND × PS)
  callL : Nat → Bool → ND → PS → Option (ND × PS)
  tail : Nat → List ND → List UInt8 → Int → PS → Option (CD × PS)
  head : Nat → List UInt8 → Int → PS → Option (CD × PS)
  arms : Nat → List CD → PS → Option (List CD × PS)
  funs : Nat → List CD → PS → Option (List CD × PS)
  rest : Nat → PS → Option (ND × PS)
  prim : Nat → PS → Option (ND × PS)
def Lang.none_ : Lang := ⟨fun _ _ => none, fun _ _ => none, fun _ _ _ => none, fun _ _ _ => none, fun _ _ => none, fun _ _ _ => none, fun _ _ => none, fun _ _ _ => none, fun _ _ => none, fun _ _ => none, fun _ _ _ => none, fun _ _ => none, fun _ _ _ => none, fun _ _ => none, fun _ _ => none, fun _ _ _ _ => none, fun _ _ _ _ _ => none, fun _ _ _ _ => none, fun _ _ _ => none, fun _ _ _ => none, fun _ _ => none, fun _ _ => none⟩

section
variable (T : List Tok) (fin : Nat) (L : Lang)
def exprN (deep : Nat) (s : PS) : Option (ND × PS) := (L.or_ deep (deepP T fin deep s)).bind fun r =>
  if isP T sEq r.2 then (L.expr (deep + 1) (nextP r.2)).bind fun q => some (.mk 11 0 [] (placeP T fin r.2) [r.1, q.1] [] [], q.2)
  else if isP T sBang r.2 then (L.expr (deep + 1) (nextP r.2)).bind fun q => some (.mk 12 0 [] (placeP T fin r.2) [r.1, q.1] [] [], q.2)
  else some r
def listN (deep : Nat) (s : PS) : Option (List ND × PS) := (L.expr deep s).bind fun r => L.listL deep [r.1] r.2
def listLN (deep : Nat) (out : List ND) (s : PS) : Option (List ND × PS) :=
  if isP T sComma s then (L.expr deep (nextP s)).bind fun r => L.listL deep (out ++ [r.1]) r.2 else some (out, s)
def maybeN (w : List UInt8) (deep : Nat) (s : PS) : Option (List ND × PS) :=
  if isP T w s then some ([], nextP s) else (L.list deep s).bind fun r => some (r.1, mustP T fin w r.2)
/-- operators that join from the left: a loop. -/
def binN (sub : Nat → PS → Option (ND × PS)) (lp : Nat → ND → PS → Option (ND × PS)) (deep : Nat) (s : PS) : Option (ND × PS) := (sub deep s).bind fun r => lp deep r.1 r.2
def binLN (l : List (List UInt8)) (sub : Nat → PS → Option (ND × PS)) (lp : Nat → ND → PS → Option (ND × PS)) (deep : Nat) (a : ND) (s : PS) : Option (ND × PS) := match opP T l s with
  | some w => (sub deep (nextP s)).bind fun r => lp deep (.mk 9 0 w (placeP T fin s) [a, r.1] [] []) r.2
  | none => some (a, s)
def relN (deep : Nat) (s : PS) : Option (ND × PS) := (L.sum deep s).bind fun r => match opP T sRel r.2 with
  | some w => (L.sum deep (nextP r.2)).bind fun q => some (.mk 9 0 w (placeP T fin r.2) [r.1, q.1] [] [], q.2)
  | none => some r
def signN (deep : Nat) (s : PS) : Option (ND × PS) := match opP T sSign (deepP T fin deep s) with
  | some w => (L.sign (deep + 1) (nextP (deepP T fin deep s))).bind fun r => some (.mk 10 0 w (placeP T fin (deepP T fin deep s)) [r.1] [] [], r.2)
  | none => L.call deep (deepP T fin deep s)
def callN (deep : Nat) (s : PS) : Option (ND × PS) := (L.prim deep s).bind fun r => L.callL deep (kindP T 2 s) r.1 r.2
def callLN (deep : Nat) (bare : Bool) (a : ND) (s : PS) : Option (ND × PS) :=
  if isP T sOpen s then (L.maybe_ sShut (deep + 1) (nextP s)).bind fun r => L.callL deep false (if bare then .mk 7 0 a.name a.at_ r.1 [] [] else .mk 8 0 [] (placeP T fin s) (a :: r.1) [] []) r.2 else some (a, s)
def tailN (deep : Nat) (ps : List ND) (nm : List UInt8) (at_ : Int) (s : PS) : Option (CD × PS) :=
  (if isP T sWhen s then L.list deep (nextP s) else some ([], s)).bind fun g => (L.list deep (mustP T fin sArrow g.2)).bind fun b => some (.mk ps g.1 b.1 nm at_, b.2)
def headN (deep : Nat) (nm : List UInt8) (at_ : Int) (s : PS) : Option (CD × PS) := (L.maybe_ sShut deep (mustP T fin sOpen s)).bind fun r => L.tail deep r.1 nm at_ r.2
def armsN (deep : Nat) (out : List CD) (s : PS) : Option (List CD × PS) :=
  if s.e = 0 then (L.expr deep s).bind fun r => (L.tail deep [r.1] [] (placeP T fin s) r.2).bind fun c => if isP T sSemi c.2 then L.arms deep (out ++ [c.1]) (nextP c.2) else some (out ++ [c.1], c.2) else some (out, s)
def funsN (deep : Nat) (out : List CD) (s : PS) : Option (List CD × PS) :=
  if s.e = 0 then (L.head deep [] (placeP T fin s) s).bind fun c => if isP T sSemi c.2 then L.funs deep (out ++ [c.1]) (nextP c.2) else some (out ++ [c.1], c.2) else some (out, s)
def restN (deep : Nat) (s : PS) : Option (ND × PS) := (L.expr deep s).bind fun r =>
  if isP T sComma r.2 then (L.rest deep (nextP r.2)).bind fun q => some (.mk 6 0 [] r.1.at_ [r.1, q.1] [] [], q.2)
  else if isP T sBar r.2 then (L.expr deep (nextP r.2)).bind fun q => some (.mk 6 0 [] r.1.at_ [r.1, q.1] [] [], mustP T fin sRb q.2)
  else some (.mk 6 0 [] r.1.at_ [r.1, .mk 5 0 [] (placeP T fin r.2) [] [] []] [] [], mustP T fin sRb r.2)
def ND.withAt (a : Int) : ND → ND | .mk k n s _ x y z => .mk k n s a x y z
def recvB (at_ : Int) (cl : List CD) (deep : Nat) (s : PS) : Option (ND × PS) :=
  if isP T sAfter s then (L.expr deep (nextP s)).bind fun x => (L.list deep (mustP T fin sArrow x.2)).bind fun b => some (.mk 15 0 [] at_ [x.1] cl b.1, mustP T fin sEnd b.2)
  else some (.mk 15 0 [] at_ [] cl [], mustP T fin sEnd s)
/-- what begins with a sign or a word. -/
def primW (deep : Nat) (s : PS) : Option (ND × PS) :=
  if isP T sOpen s then (L.expr (deep + 1) (nextP s)).bind fun r => some (r.1, mustP T fin sShut r.2)
  else if isP T sLc s then (L.maybe_ sRc (deep + 1) (nextP s)).bind fun r => some (.mk 4 0 [] (placeP T fin s) r.1 [] [], r.2)
  else if isP T sLb s then (if isP T sRb (nextP s) then some (.mk 5 0 [] (placeP T fin s) [] [] [], nextP (nextP s)) else (L.rest (deep + 1) (nextP s)).bind fun r => some (r.1.withAt (placeP T fin s), r.2))
  else if isP T sFun s then (L.funs (deep + 1) [] (nextP s)).bind fun r => some (.mk 13 0 [] (placeP T fin s) [] r.1 [], mustP T fin sEnd r.2)
  else if isP T sCase s then (L.expr (deep + 1) (nextP s)).bind fun x => (L.arms (deep + 1) [] (mustP T fin sOf x.2)).bind fun r => some (.mk 14 0 [] (placeP T fin s) [x.1] r.1 [], mustP T fin sEnd r.2)
  else if isP T sReceive s then (if isP T sAfter (nextP s) then recvB T fin L (placeP T fin s) [] (deep + 1) (nextP s) else (L.arms (deep + 1) [] (nextP s)).bind fun r => recvB T fin L (placeP T fin s) r.1 (deep + 1) r.2)
  else if isP T sTry s then (L.list (deep + 1) (nextP s)).bind fun b => (L.arms (deep + 1) [] (mustP T fin sCatch b.2)).bind fun r => some (.mk 16 0 [] (placeP T fin s) [] r.1 b.1, mustP T fin sEnd r.2)
  else some (.zero, failP T fin 110 s)
def primN (deep : Nat) (s : PS) : Option (ND × PS) := if s.e ≠ 0 then some (.zero, s) else match T[s.i]? with
  | none => some (.zero, failP T fin 110 s)
  | some t => if t.kind = 1 then some (.mk 1 t.int [] t.at_ [] [] [], nextP s) else if t.kind = 2 then some (.mk 2 0 t.text t.at_ [] [] [], nextP s) else if t.kind = 3 then some (.mk 3 0 t.text t.at_ [] [] [], nextP s) else primW T fin L deep s
def Lang.next : Lang where
  expr := exprN T fin L
  list := listN L
  listL := listLN T L
  maybe_ := maybeN T fin L
  or_ := binN L.and_ L.orL
  orL := binLN T fin [sOr] L.and_ L.orL
  and_ := binN L.rel L.andL
  andL := binLN T fin [sAnd] L.rel L.andL
  rel := relN T fin L
  sum := binN L.prod L.sumL
  sumL := binLN T fin sSum L.prod L.sumL
  prod := binN L.sign L.prodL
  prodL := binLN T fin sProd L.sign L.prodL
  sign := signN T fin L
  call := callN T L
  callL := callLN T fin L
  tail := tailN T fin L
  head := headN T fin L
  arms := armsN T fin L
  funs := funsN T fin L
  rest := restN T fin L
  prim := primN T fin L
def lang : Nat → Lang
  | 0 => .none_
  | n + 1 => (lang n).next T fin
end

/-! ### Expr -/
def fuelP (T : List Tok) : Nat := 20 * (T.length + 1) + 20
/-- A whole text's tree: none: the fuel is out (it never is); an error and its place. -/
def exprT (T : List Tok) (fin : Nat) (n : Nat) : Option (ND × PS) := ((lang T fin n).expr 0 ⟨0, 0, 0⟩).bind fun r => some (r.1, if r.2.i < T.length then failP T fin 110 r.2 else r.2)
end
section
open Go.RowKit
set_option linter.unusedVariables false

section
variable {T : List Tok} {fin : Nat} {s s' s'' : PS}
/-- Going forward. -/
structure Stp (T : List Tok) (s s' : PS) : Prop where
  i : s.i ≤ s'.i
  hi : s.i ≤ T.length → s'.i ≤ T.length
  e : s.e ≠ 0 → s' = s
theorem Stp.refl (s : PS) : Stp T s s := ⟨Nat.le_refl _, id, fun _ => rfl⟩
theorem Stp.trans (h : Stp T s s') (k : Stp T s' s'') : Stp T s s'' := ⟨Nat.le_trans h.i k.i, fun q => k.hi (h.hi q), fun q => by
  have h1 := h.e q
  subst h1
  exact k.e q⟩
theorem isP_lt {w : List UInt8} (h : isP T w s = true) : s.e = 0 ∧ s.i < T.length := by
  unfold isP at h
  simp only [Bool.and_eq_true, beq_iff_eq] at h
  refine ⟨h.1, ?_⟩
  have h2 := h.2
  cases ht : T[s.i]? with
  | none => rw [ht] at h2; simp at h2
  | some t => exact (List.getElem?_eq_some_iff.1 ht).1
theorem opP_is {l : List (List UInt8)} {w : List UInt8} (h : opP T l s = some w) : isP T w s = true := by
  have h1 := List.find?_some h
  exact h1
theorem Stp.next_lt (h : s.e = 0 ∧ s.i < T.length) : Stp T s (nextP s) := ⟨by simp [nextP], fun _ => h.2, fun q => absurd h.1 q⟩
theorem Stp.next {w : List UInt8} (h : isP T w s = true) : Stp T s (nextP s) := .next_lt (isP_lt h)
theorem Stp.fail (e : Int) (s : PS) : Stp T s (failP T fin e s) := by
  unfold failP
  split
  · exact ⟨Nat.le_refl _, id, fun q => absurd (by assumption) q⟩
  · exact .refl _
theorem Stp.must (w : List UInt8) (s : PS) : Stp T s (mustP T fin w s) := by
  unfold mustP
  split
  · rename_i h; exact .next h
  · exact .fail _ _
theorem Stp.deep (d : Nat) (s : PS) : Stp T s (deepP T fin d s) := by
  unfold deepP
  split
  · exact .fail _ _
  · exact .refl _
/-- How many tokens are left, and one more; 0: an error stands. -/
def leftP (T : List Tok) (s : PS) : Nat := if s.e = 0 then T.length - s.i + 1 else 0
theorem Stp.left (h : Stp T s s') : leftP T s' ≤ leftP T s := by
  unfold leftP
  by_cases he : s.e = 0
  · have := h.i
    rw [if_pos he]
    split <;> omega
  · rw [h.e he]; exact Nat.le_refl _
theorem left_next_lt (h : s.e = 0 ∧ s.i < T.length) : leftP T (nextP s) + 1 = leftP T s := by
  obtain ⟨h1, h2⟩ := h
  unfold leftP nextP
  simp only [h1, if_true]
  omega
theorem left_next {w : List UInt8} (h : isP T w s = true) : leftP T (nextP s) + 1 = leftP T s := left_next_lt (isP_lt h)
end

/-- Whatever the rules give, they have gone forward. -/
structure Mono (T : List Tok) (L : Lang) : Prop where
  expr : ∀ d s r, L.expr d s = some r → Stp T s r.2
  list : ∀ d s r, L.list d s = some r → Stp T s r.2 ∧ r.1.length + s.i ≤ r.2.i + 1
  listL : ∀ d out s r, L.listL d out s = some r → Stp T s r.2 ∧ r.1.length + s.i ≤ out.length + r.2.i
  maybe_ : ∀ w d s r, L.maybe_ w d s = some r → Stp T s r.2 ∧ r.1.length + s.i ≤ r.2.i + 1
  or_ : ∀ d s r, L.or_ d s = some r → Stp T s r.2
  orL : ∀ d a s r, L.orL d a s = some r → Stp T s r.2
  and_ : ∀ d s r, L.and_ d s = some r → Stp T s r.2
  andL : ∀ d a s r, L.andL d a s = some r → Stp T s r.2
  rel : ∀ d s r, L.rel d s = some r → Stp T s r.2
  sum : ∀ d s r, L.sum d s = some r → Stp T s r.2
  sumL : ∀ d a s r, L.sumL d a s = some r → Stp T s r.2
  prod : ∀ d s r, L.prod d s = some r → Stp T s r.2
  prodL : ∀ d a s r, L.prodL d a s = some r → Stp T s r.2
  sign : ∀ d s r, L.sign d s = some r → Stp T s r.2
  call : ∀ d s r, L.call d s = some r → Stp T s r.2
  callL : ∀ d b a s r, L.callL d b a s = some r → Stp T s r.2
  tail : ∀ d ps nm a s r, L.tail d ps nm a s = some r → Stp T s r.2
  head : ∀ d nm a s r, L.head d nm a s = some r → Stp T s r.2
  arms : ∀ d out s r, L.arms d out s = some r → Stp T s r.2 ∧ r.1.length + s.i ≤ out.length + r.2.i + 1
  funs : ∀ d out s r, L.funs d out s = some r → Stp T s r.2 ∧ r.1.length + s.i ≤ out.length + r.2.i + 1
  rest : ∀ d s r, L.rest d s = some r → Stp T s r.2
  prim : ∀ d s r, L.prim d s = some r → Stp T s r.2
theorem Mono.none_ (T : List Tok) : Mono T .none_ := by
  constructor <;> intros <;> rename_i h <;> exact absurd h (by simp [Lang.none_])

section
variable {T : List Tok} {fin : Nat} {L : Lang} {s : PS}
theorem bind_inv {α β : Type} {o : Option α} {f : α → Option β} {r : β} (h : o.bind f = some r) : ∃ a, o = some a ∧ f a = some r := Option.bind_eq_some_iff.1 h
theorem bin_mono {sub : Nat → PS → Option (ND × PS)} {lp : Nat → ND → PS → Option (ND × PS)} (h1 : ∀ d s r, sub d s = some r → Stp T s r.2) (h2 : ∀ d a s r, lp d a s = some r → Stp T s r.2) (d : Nat) (s : PS) (r : ND × PS) (h : binN sub lp d s = some r) : Stp T s r.2 := by
  unfold binN at h
  obtain ⟨q, hq, h⟩ := bind_inv h
  exact (h1 _ _ _ hq).trans (h2 _ _ _ _ h)
theorem binL_mono {l : List (List UInt8)} {sub : Nat → PS → Option (ND × PS)} {lp : Nat → ND → PS → Option (ND × PS)} (h1 : ∀ d s r, sub d s = some r → Stp T s r.2) (h2 : ∀ d a s r, lp d a s = some r → Stp T s r.2) (d : Nat) (a : ND) (s : PS) (r : ND × PS) (h : binLN T fin l sub lp d a s = some r) : Stp T s r.2 := by
  unfold binLN at h
  cases ho : opP T l s with
  | none => rw [ho] at h; cases h; exact .refl _
  | some w =>
    rw [ho] at h
    obtain ⟨q, hq, h⟩ := bind_inv h
    exact ((Stp.next (opP_is ho)).trans (h1 _ _ _ hq)).trans (h2 _ _ _ _ h)
theorem Mono.next (M : Mono T L) : Mono T (L.next T fin) where
  expr d s r h := by
    simp only [Lang.next, exprN] at h
    obtain ⟨q, hq, h⟩ := bind_inv h
    have h1 := (Stp.deep (fin := fin) d s).trans (M.or_ _ _ _ hq)
    split at h
    · rename_i hi
      obtain ⟨p, hp, h⟩ := bind_inv h
      cases h
      exact (h1.trans (.next hi)).trans (show Stp T _ p.2 from M.expr _ _ _ hp)
    · split at h
      · rename_i hi
        obtain ⟨p, hp, h⟩ := bind_inv h
        cases h
        exact (h1.trans (.next hi)).trans (show Stp T _ p.2 from M.expr _ _ _ hp)
      · cases h; exact h1
  list d s r h := by
    simp only [Lang.next, listN] at h
    obtain ⟨q, hq, h⟩ := bind_inv h
    have h1 := M.expr _ _ _ hq
    obtain ⟨h2, h3⟩ := M.listL _ _ _ _ h
    refine ⟨h1.trans h2, ?_⟩
    have := h1.i
    simp only [List.length_cons, List.length_nil] at h3
    omega
  listL d out s r h := by
    simp only [Lang.next, listLN] at h
    split at h
    · rename_i hi
      obtain ⟨q, hq, h⟩ := bind_inv h
      have h1 := M.expr _ _ _ hq
      obtain ⟨h2, h3⟩ := M.listL _ _ _ _ h
      refine ⟨((Stp.next hi).trans h1).trans h2, ?_⟩
      have := h1.i
      simp only [nextP, List.length_append, List.length_cons, List.length_nil] at this h3
      omega
    · cases h; exact ⟨.refl _, Nat.le_refl _⟩
  maybe_ w d s r h := by
    simp only [Lang.next, maybeN] at h
    split at h
    · rename_i hi
      cases h
      exact ⟨.next hi, by simp [nextP]; omega⟩
    · obtain ⟨q, hq, h⟩ := bind_inv h
      cases h
      obtain ⟨h1, h2⟩ := M.list _ _ _ hq
      refine ⟨h1.trans (.must _ _), ?_⟩
      have := (Stp.must (T := T) (fin := fin) w q.2).i
      simp only
      omega
  or_ := bin_mono M.and_ M.orL
  orL := binL_mono M.and_ M.orL
  and_ := bin_mono M.rel M.andL
  andL := binL_mono M.rel M.andL
  rel d s r h := by
    simp only [Lang.next, relN] at h
    obtain ⟨q, hq, h⟩ := bind_inv h
    have h1 := M.sum _ _ _ hq
    cases ho : opP T sRel q.2 with
    | none => rw [ho] at h; cases h; exact h1
    | some w =>
      rw [ho] at h
      obtain ⟨p, hp, h⟩ := bind_inv h
      cases h
      exact (h1.trans (.next (opP_is ho))).trans (show Stp T _ p.2 from M.sum _ _ _ hp)
  sum := bin_mono M.prod M.sumL
  sumL := binL_mono M.prod M.sumL
  prod := bin_mono M.sign M.prodL
  prodL := binL_mono M.sign M.prodL
  sign d s r h := by
    simp only [Lang.next, signN] at h
    have h1 := Stp.deep (T := T) (fin := fin) d s
    cases ho : opP T sSign (deepP T fin d s) with
    | none => rw [ho] at h; exact h1.trans (M.call _ _ _ h)
    | some w =>
      rw [ho] at h
      obtain ⟨p, hp, h⟩ := bind_inv h
      cases h
      exact (h1.trans (.next (opP_is ho))).trans (show Stp T _ p.2 from M.sign _ _ _ hp)
  call d s r h := by
    simp only [Lang.next, callN] at h
    obtain ⟨q, hq, h⟩ := bind_inv h
    exact (M.prim _ _ _ hq).trans (M.callL _ _ _ _ _ h)
  callL d b a s r h := by
    simp only [Lang.next, callLN] at h
    split at h
    · rename_i hi
      obtain ⟨q, hq, h⟩ := bind_inv h
      exact ((Stp.next hi).trans (M.maybe_ _ _ _ _ hq).1).trans (M.callL _ _ _ _ _ h)
    · cases h; exact .refl _
  tail d ps nm a s r h := by
    simp only [Lang.next, tailN] at h
    obtain ⟨g, hg, h⟩ := bind_inv h
    obtain ⟨b, hb, h⟩ := bind_inv h
    cases h
    refine Stp.trans ?_ (Stp.trans (.must (fin := fin) sArrow g.2) (M.list _ _ _ hb).1)
    split at hg
    · rename_i hi
      exact (Stp.next hi).trans (M.list _ _ _ hg).1
    · cases hg; exact .refl _
  head d nm a s r h := by
    simp only [Lang.next, headN] at h
    obtain ⟨q, hq, h⟩ := bind_inv h
    exact ((Stp.must (fin := fin) sOpen s).trans (M.maybe_ _ _ _ _ hq).1).trans (M.tail _ _ _ _ _ _ h)
  arms d out s r h := by
    simp only [Lang.next, armsN] at h
    split at h
    · obtain ⟨q, hq, h⟩ := bind_inv h
      obtain ⟨c, hc, h⟩ := bind_inv h
      have h1 := (M.expr _ _ _ hq).trans (M.tail _ _ _ _ _ _ hc)
      split at h
      · rename_i hi
        obtain ⟨h2, h3⟩ := M.arms _ _ _ _ h
        refine ⟨(h1.trans (.next hi)).trans h2, ?_⟩
        have := h1.i
        simp only [nextP, List.length_append, List.length_cons, List.length_nil] at h3
        omega
      · cases h
        refine ⟨h1, ?_⟩
        have := h1.i
        simp
        omega
    · cases h; exact ⟨.refl _, Nat.le_succ _⟩
  funs d out s r h := by
    simp only [Lang.next, funsN] at h
    split at h
    · obtain ⟨c, hc, h⟩ := bind_inv h
      have h1 := M.head _ _ _ _ _ hc
      split at h
      · rename_i hi
        obtain ⟨h2, h3⟩ := M.funs _ _ _ _ h
        refine ⟨(h1.trans (.next hi)).trans h2, ?_⟩
        have := h1.i
        simp only [nextP, List.length_append, List.length_cons, List.length_nil] at h3
        omega
      · cases h
        refine ⟨h1, ?_⟩
        have := h1.i
        simp
        omega
    · cases h; exact ⟨.refl _, Nat.le_succ _⟩
  rest d s r h := by
    simp only [Lang.next, restN] at h
    obtain ⟨q, hq, h⟩ := bind_inv h
    have h1 := M.expr _ _ _ hq
    split at h
    · rename_i hi
      obtain ⟨p, hp, h⟩ := bind_inv h
      cases h
      exact (h1.trans (.next hi)).trans (show Stp T _ p.2 from M.rest _ _ _ hp)
    · split at h
      · rename_i hi
        obtain ⟨p, hp, h⟩ := bind_inv h
        cases h
        exact ((h1.trans (.next hi)).trans (show Stp T _ p.2 from M.expr _ _ _ hp)).trans (.must _ _)
      · cases h; exact h1.trans (.must _ _)
  prim d s r h := by
    simp only [Lang.next, primN] at h
    have recv : ∀ at_ cl d s r, recvB T fin L at_ cl d s = some r → Stp T s r.2 := by
      intro at_ cl d s r h
      unfold recvB at h
      split at h
      · rename_i hi
        obtain ⟨x, hx, h⟩ := bind_inv h
        obtain ⟨b, hb, h⟩ := bind_inv h
        cases h
        exact ((((Stp.next hi).trans (M.expr _ _ _ hx)).trans (.must (fin := fin) _ _)).trans (M.list _ _ _ hb).1).trans (.must _ _)
      · cases h; exact .must _ _
    split at h
    · cases h; exact .refl _
    · rename_i he
      have he' : s.e = 0 := by simpa using he
      cases ht : T[s.i]? with
      | none => rw [ht] at h; cases h; exact .fail _ _
      | some t =>
        have hlt : s.e = 0 ∧ s.i < T.length := ⟨he', (List.getElem?_eq_some_iff.1 ht).1⟩
        rw [ht] at h
        simp only at h
        split at h
        · cases h; exact .next_lt hlt
        split at h
        · cases h; exact .next_lt hlt
        split at h
        · cases h; exact .next_lt hlt
        unfold primW at h
        split at h
        · rename_i hi
          obtain ⟨q, hq, h⟩ := bind_inv h
          cases h
          exact ((Stp.next hi).trans (M.expr _ _ _ hq)).trans (.must _ _)
        split at h
        · rename_i hi
          obtain ⟨q, hq, h⟩ := bind_inv h
          cases h
          exact (Stp.next hi).trans (M.maybe_ _ _ _ _ hq).1
        split at h
        · rename_i hi
          split at h
          · rename_i hj
            cases h
            exact (Stp.next hi).trans (.next hj)
          · obtain ⟨q, hq, h⟩ := bind_inv h
            cases h
            exact (Stp.next hi).trans (show Stp T _ q.2 from M.rest _ _ _ hq)
        split at h
        · rename_i hi
          obtain ⟨q, hq, h⟩ := bind_inv h
          cases h
          exact ((Stp.next hi).trans (M.funs _ _ _ _ hq).1).trans (.must _ _)
        split at h
        · rename_i hi
          obtain ⟨x, hx, h⟩ := bind_inv h
          obtain ⟨q, hq, h⟩ := bind_inv h
          cases h
          exact ((((Stp.next hi).trans (M.expr _ _ _ hx)).trans (.must (fin := fin) _ _)).trans (M.arms _ _ _ _ hq).1).trans (.must _ _)
        split at h
        · rename_i hi
          split at h
          · exact (Stp.next hi).trans (recv _ _ _ _ _ h)
          · obtain ⟨q, hq, h⟩ := bind_inv h
            exact ((Stp.next hi).trans (M.arms _ _ _ _ hq).1).trans (recv _ _ _ _ _ h)
        split at h
        · rename_i hi
          obtain ⟨x, hx, h⟩ := bind_inv h
          obtain ⟨q, hq, h⟩ := bind_inv h
          cases h
          exact ((((Stp.next hi).trans (M.list _ _ _ hx).1).trans (.must (fin := fin) _ _)).trans (M.arms _ _ _ _ hq).1).trans (.must _ _)
        · cases h; exact .fail _ _
end
theorem lang_mono (T : List Tok) (fin : Nat) : ∀ n, Mono T (lang T fin n)
  | 0 => .none_ T
  | n + 1 => (lang_mono T fin n).next

/-! ### the fuel is enough -/
def Has {α : Type} (o : Option α) : Prop := ∃ r, o = some r
structure TotL (T : List Tok) (n : Nat) (L : Lang) : Prop where
  expr : ∀ d s, 20 * leftP T s + 9 ≤ n → Has (L.expr d s)
  list : ∀ d s, 20 * leftP T s + 10 ≤ n → Has (L.list d s)
  listL : ∀ d out s, 20 * leftP T s + 1 ≤ n → Has (L.listL d out s)
  maybe_ : ∀ w d s, 20 * leftP T s + 11 ≤ n → Has (L.maybe_ w d s)
  or_ : ∀ d s, 20 * leftP T s + 8 ≤ n → Has (L.or_ d s)
  orL : ∀ d a s, 20 * leftP T s + 1 ≤ n → Has (L.orL d a s)
  and_ : ∀ d s, 20 * leftP T s + 7 ≤ n → Has (L.and_ d s)
  andL : ∀ d a s, 20 * leftP T s + 1 ≤ n → Has (L.andL d a s)
  rel : ∀ d s, 20 * leftP T s + 6 ≤ n → Has (L.rel d s)
  sum : ∀ d s, 20 * leftP T s + 5 ≤ n → Has (L.sum d s)
  sumL : ∀ d a s, 20 * leftP T s + 1 ≤ n → Has (L.sumL d a s)
  prod : ∀ d s, 20 * leftP T s + 4 ≤ n → Has (L.prod d s)
  prodL : ∀ d a s, 20 * leftP T s + 1 ≤ n → Has (L.prodL d a s)
  sign : ∀ d s, 20 * leftP T s + 3 ≤ n → Has (L.sign d s)
  call : ∀ d s, 20 * leftP T s + 2 ≤ n → Has (L.call d s)
  callL : ∀ d b a s, 20 * leftP T s + 1 ≤ n → Has (L.callL d b a s)
  tail : ∀ d ps nm a s, 20 * leftP T s + 11 ≤ n → Has (L.tail d ps nm a s)
  head : ∀ d nm a s, 20 * leftP T s + 12 ≤ n → Has (L.head d nm a s)
  arms : ∀ d out s, 20 * leftP T s + 12 ≤ n → Has (L.arms d out s)
  funs : ∀ d out s, 20 * leftP T s + 13 ≤ n → Has (L.funs d out s)
  rest : ∀ d s, 20 * leftP T s + 10 ≤ n → Has (L.rest d s)
  prim : ∀ d s, 20 * leftP T s + 1 ≤ n → Has (L.prim d s)
theorem TotL.none_ (T : List Tok) : TotL T 0 .none_ := by
  constructor <;> intros <;> rename_i h <;> exact absurd h (by omega)
theorem Has.bind {α β : Type} {o : Option α} {f : α → Option β} (h : Has o) (k : ∀ a, o = some a → Has (f a)) : Has (o.bind f) := by
  obtain ⟨a, rfl⟩ := h
  exact k a rfl
theorem Has.one {α : Type} (a : α) : Has (some a) := ⟨a, rfl⟩
section
variable {T : List Tok} {fin : Nat} {L : Lang} {n : Nat}
theorem TotL.next (M : Mono T L) (H : TotL T n L) : TotL T (n + 1) (L.next T fin) where
  expr d s h := by
    simp only [Lang.next, exprN]
    have h0 := (Stp.deep (T := T) (fin := fin) d s).left
    refine (H.or_ _ _ (by omega)).bind fun q hq => ?_
    have h1 := (M.or_ _ _ _ hq).left
    split
    · rename_i hi
      have := left_next hi
      exact (H.expr _ _ (by omega)).bind fun _ _ => .one _
    · split
      · rename_i hi
        have := left_next hi
        exact (H.expr _ _ (by omega)).bind fun _ _ => .one _
      · exact .one _
  list d s h := by
    simp only [Lang.next, listN]
    refine (H.expr _ _ (by omega)).bind fun q hq => ?_
    have h1 := (M.expr _ _ _ hq).left
    exact H.listL _ _ _ (by omega)
  listL d out s h := by
    simp only [Lang.next, listLN]
    split
    · rename_i hi
      have := left_next hi
      refine (H.expr _ _ (by omega)).bind fun q hq => ?_
      have h1 := (M.expr _ _ _ hq).left
      exact H.listL _ _ _ (by omega)
    · exact .one _
  maybe_ w d s h := by
    simp only [Lang.next, maybeN]
    split
    · exact .one _
    · exact (H.list _ _ (by omega)).bind fun _ _ => .one _
  or_ d s h := by
    simp only [Lang.next, binN]
    refine (H.and_ _ _ (by omega)).bind fun q hq => ?_
    have h1 := (M.and_ _ _ _ hq).left
    exact H.orL _ _ _ (by omega)
  orL d a s h := by
    simp only [Lang.next, binLN]
    split
    · rename_i w ho
      have := left_next (opP_is ho)
      refine (H.and_ _ _ (by omega)).bind fun q hq => ?_
      have h1 := (M.and_ _ _ _ hq).left
      exact H.orL _ _ _ (by omega)
    · exact .one _
  and_ d s h := by
    simp only [Lang.next, binN]
    refine (H.rel _ _ (by omega)).bind fun q hq => ?_
    have h1 := (M.rel _ _ _ hq).left
    exact H.andL _ _ _ (by omega)
  andL d a s h := by
    simp only [Lang.next, binLN]
    split
    · rename_i w ho
      have := left_next (opP_is ho)
      refine (H.rel _ _ (by omega)).bind fun q hq => ?_
      have h1 := (M.rel _ _ _ hq).left
      exact H.andL _ _ _ (by omega)
    · exact .one _
  rel d s h := by
    simp only [Lang.next, relN]
    refine (H.sum _ _ (by omega)).bind fun q hq => ?_
    have h1 := (M.sum _ _ _ hq).left
    split
    · rename_i w ho
      have := left_next (opP_is ho)
      exact (H.sum _ _ (by omega)).bind fun _ _ => .one _
    · exact .one _
  sum d s h := by
    simp only [Lang.next, binN]
    refine (H.prod _ _ (by omega)).bind fun q hq => ?_
    have h1 := (M.prod _ _ _ hq).left
    exact H.sumL _ _ _ (by omega)
  sumL d a s h := by
    simp only [Lang.next, binLN]
    split
    · rename_i w ho
      have := left_next (opP_is ho)
      refine (H.prod _ _ (by omega)).bind fun q hq => ?_
      have h1 := (M.prod _ _ _ hq).left
      exact H.sumL _ _ _ (by omega)
    · exact .one _
  prod d s h := by
    simp only [Lang.next, binN]
    refine (H.sign _ _ (by omega)).bind fun q hq => ?_
    have h1 := (M.sign _ _ _ hq).left
    exact H.prodL _ _ _ (by omega)
  prodL d a s h := by
    simp only [Lang.next, binLN]
    split
    · rename_i w ho
      have := left_next (opP_is ho)
      refine (H.sign _ _ (by omega)).bind fun q hq => ?_
      have h1 := (M.sign _ _ _ hq).left
      exact H.prodL _ _ _ (by omega)
    · exact .one _
  sign d s h := by
    simp only [Lang.next, signN]
    have h0 := (Stp.deep (T := T) (fin := fin) d s).left
    split
    · rename_i w ho
      have := left_next (opP_is ho)
      exact (H.sign _ _ (by omega)).bind fun _ _ => .one _
    · exact H.call _ _ (by omega)
  call d s h := by
    simp only [Lang.next, callN]
    refine (H.prim _ _ (by omega)).bind fun q hq => ?_
    have h1 := (M.prim _ _ _ hq).left
    exact H.callL _ _ _ _ (by omega)
  callL d b a s h := by
    simp only [Lang.next, callLN]
    split
    · rename_i hi
      have := left_next hi
      refine (H.maybe_ _ _ _ (by omega)).bind fun q hq => ?_
      have h1 := (M.maybe_ _ _ _ _ hq).1.left
      exact H.callL _ _ _ _ (by omega)
    · exact .one _
  tail d ps nm a s h := by
    simp only [Lang.next, tailN]
    have hg : Has (if isP T sWhen s then L.list d (nextP s) else some ([], s)) := by
      split
      · rename_i hi
        have := left_next hi
        exact H.list _ _ (by omega)
      · exact .one _
    refine hg.bind fun g hg => ?_
    have h1 : leftP T g.2 ≤ leftP T s := by
      split at hg
      · rename_i hi
        exact ((Stp.next hi).trans (M.list _ _ _ hg).1).left
      · cases hg; exact Nat.le_refl _
    have h2 := (Stp.must (T := T) (fin := fin) sArrow g.2).left
    exact (H.list _ _ (by omega)).bind fun _ _ => .one _
  head d nm a s h := by
    simp only [Lang.next, headN]
    have h0 := (Stp.must (T := T) (fin := fin) sOpen s).left
    refine (H.maybe_ _ _ _ (by omega)).bind fun q hq => ?_
    have h1 := (M.maybe_ _ _ _ _ hq).1.left
    exact H.tail _ _ _ _ _ (by omega)
  arms d out s h := by
    simp only [Lang.next, armsN]
    split
    · refine (H.expr _ _ (by omega)).bind fun q hq => ?_
      have h1 := (M.expr _ _ _ hq).left
      refine (H.tail _ _ _ _ _ (by omega)).bind fun c hc => ?_
      have h2 := (M.tail _ _ _ _ _ _ hc).left
      split
      · rename_i hi
        have := left_next hi
        exact H.arms _ _ _ (by omega)
      · exact .one _
    · exact .one _
  funs d out s h := by
    simp only [Lang.next, funsN]
    split
    · refine (H.head _ _ _ _ (by omega)).bind fun c hc => ?_
      have h2 := (M.head _ _ _ _ _ hc).left
      split
      · rename_i hi
        have := left_next hi
        exact H.funs _ _ _ (by omega)
      · exact .one _
    · exact .one _
  rest d s h := by
    simp only [Lang.next, restN]
    refine (H.expr _ _ (by omega)).bind fun q hq => ?_
    have h1 := (M.expr _ _ _ hq).left
    split
    · rename_i hi
      have := left_next hi
      exact (H.rest _ _ (by omega)).bind fun _ _ => .one _
    · split
      · rename_i hi
        have := left_next hi
        exact (H.expr _ _ (by omega)).bind fun _ _ => .one _
      · exact .one _
  prim d s h := by
    simp only [Lang.next, primN]
    have recv : ∀ at_ cl d s, 20 * leftP T s + 15 ≤ n → Has (recvB T fin L at_ cl d s) := by
      intro at_ cl d s h
      unfold recvB
      split
      · rename_i hi
        have := left_next hi
        refine (H.expr _ _ (by omega)).bind fun x hx => ?_
        have h1 := (M.expr _ _ _ hx).left
        have h2 := (Stp.must (T := T) (fin := fin) sArrow x.2).left
        exact (H.list _ _ (by omega)).bind fun _ _ => .one _
      · exact .one _
    split
    · exact .one _
    · rename_i he
      have he' : s.e = 0 := by simpa using he
      cases ht : T[s.i]? with
      | none => exact .one _
      | some t =>
        simp only
        split
        · exact .one _
        split
        · exact .one _
        split
        · exact .one _
        unfold primW
        split
        · rename_i hi
          have := left_next hi
          exact (H.expr _ _ (by omega)).bind fun _ _ => .one _
        split
        · rename_i hi
          have := left_next hi
          exact (H.maybe_ _ _ _ (by omega)).bind fun _ _ => .one _
        split
        · rename_i hi
          have := left_next hi
          split
          · exact .one _
          · exact (H.rest _ _ (by omega)).bind fun _ _ => .one _
        split
        · rename_i hi
          have := left_next hi
          exact (H.funs _ _ _ (by omega)).bind fun _ _ => .one _
        split
        · rename_i hi
          have := left_next hi
          refine (H.expr _ _ (by omega)).bind fun x hx => ?_
          have h1 := (M.expr _ _ _ hx).left
          have h2 := (Stp.must (T := T) (fin := fin) sOf x.2).left
          exact (H.arms _ _ _ (by omega)).bind fun _ _ => .one _
        split
        · rename_i hi
          have := left_next hi
          split
          · exact recv _ _ _ _ (by omega)
          · refine (H.arms _ _ _ (by omega)).bind fun q hq => ?_
            have h1 := (M.arms _ _ _ _ hq).1.left
            exact recv _ _ _ _ (by omega)
        split
        · rename_i hi
          have := left_next hi
          refine (H.list _ _ (by omega)).bind fun x hx => ?_
          have h1 := (M.list _ _ _ hx).1.left
          have h2 := (Stp.must (T := T) (fin := fin) sCatch x.2).left
          exact (H.arms _ _ _ (by omega)).bind fun _ _ => .one _
        · exact .one _
end
theorem lang_tot (T : List Tok) (fin : Nat) : ∀ n, TotL T n (lang T fin n)
  | 0 => .none_ T
  | n + 1 => (lang_tot T fin n).next (lang_mono T fin n)
theorem exprT_has (T : List Tok) (fin : Nat) : Has (exprT T fin (fuelP T)) := by
  unfold exprT
  refine ((lang_tot T fin _).expr _ _ ?_).bind fun _ _ => .one _
  simp only [leftP, fuelP, if_true]
  omega
end
end Go.Proofs.Ythhindnjnijglaa
