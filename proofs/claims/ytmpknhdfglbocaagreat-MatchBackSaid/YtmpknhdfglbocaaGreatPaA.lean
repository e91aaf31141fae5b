/- Layer 11, the document's parser, as plain functions: tokens, trees, the rules with fuel. No program is named here. -/
import Derived.Test.YtmpknhdfglbocaaGreatFr
namespace Go.Proofs.YtmpknhdfglbocaaGreat
open Go.RowKit
set_option linter.unusedVariables false

/-- A token. -/
structure Tok where
  kind : Int
  int : Int
  text : List UInt8
  at_ : Nat
  fin : Nat
mutual
/-- A piece of a program. -/
inductive ND where
  | mk (kind int : Int) (name : List UInt8) (at_ : Int) (kids : List ND) (clauses : List CD) (body : List ND)
/-- A clause. -/
inductive CD where
  | mk (patterns guards body : List ND) (name : List UInt8) (at_ : Int)
end
def ND.kind : ND → Int | .mk k _ _ _ _ _ _ => k
def ND.int : ND → Int | .mk _ n _ _ _ _ _ => n
def ND.name : ND → List UInt8 | .mk _ _ s _ _ _ _ => s
def ND.at_ : ND → Int | .mk _ _ _ a _ _ _ => a
def ND.kids : ND → List ND | .mk _ _ _ _ l _ _ => l
def ND.clauses : ND → List CD | .mk _ _ _ _ _ l _ => l
def ND.body : ND → List ND | .mk _ _ _ _ _ _ l => l
def CD.patterns : CD → List ND | .mk l _ _ _ _ => l
def CD.guards : CD → List ND | .mk _ l _ _ _ => l
def CD.body : CD → List ND | .mk _ _ l _ _ => l
def CD.name : CD → List UInt8 | .mk _ _ _ s _ => s
def CD.at_ : CD → Int | .mk _ _ _ _ a => a
def ND.zero : ND := .mk 0 0 [] 0 [] [] []
/-- What the parser has come to: a place among the tokens, the first error and its place. -/
structure PS where
  i : Nat
  e : Int
  at_ : Int

section
variable (T : List Tok) (fin : Nat)
def placeP (s : PS) : Int := match T[s.i]? with
  | some t => t.at_
  | none => fin
def failP (e : Int) (s : PS) : PS := if s.e = 0 then { s with e := e, at_ := placeP T fin s } else s
def nextP (s : PS) : PS := { s with i := s.i + 1 }
def isP (w : List UInt8) (s : PS) : Bool := s.e == 0 && match T[s.i]? with
  | some t => (t.kind == 5 || t.kind == 4) && t.text == w
  | none => false
def kindP (k : Int) (s : PS) : Bool := s.e == 0 && match T[s.i]? with
  | some t => t.kind == k
  | none => false
def mustP (w : List UInt8) (s : PS) : PS := if isP T w s then nextP s else failP T fin 110 s
def opP (l : List (List UInt8)) (s : PS) : Option (List UInt8) := l.find? (fun w => isP T w s)
def deepP (deep : Nat) (s : PS) : PS := if 64 < deep then failP T fin 111 s else s
end
def sOr : List UInt8 := [111, 114]
def sAnd : List UInt8 := [97, 110, 100]
def sRel : List (List UInt8) := [[61, 61], [47, 61], [60], [62], [61, 60], [62, 61]]
def sSum : List (List UInt8) := [[43], [45]]
def sProd : List (List UInt8) := [[42], [100, 105, 118], [114, 101, 109]]
def sSign : List (List UInt8) := [[45], [110, 111, 116]]
def sEq : List UInt8 := [61]
def sBang : List UInt8 := [33]
def sOpen : List UInt8 := [40]
def sShut : List UInt8 := [41]
def sLb : List UInt8 := [91]
def sRb : List UInt8 := [93]
def sLc : List UInt8 := [123]
def sRc : List UInt8 := [125]
def sComma : List UInt8 := [44]
def sSemi : List UInt8 := [59]
def sBar : List UInt8 := [124]
def sArrow : List UInt8 := [45, 62]
def sWhen : List UInt8 := [119, 104, 101, 110]
def sFun : List UInt8 := [102, 117, 110]
def sEnd : List UInt8 := [101, 110, 100]
def sCase : List UInt8 := [99, 97, 115, 101]
def sOf : List UInt8 := [111, 102]
def sReceive : List UInt8 := [114, 101, 99, 101, 105, 118, 101]
def sAfter : List UInt8 := [97, 102, 116, 101, 114]
def sTry : List UInt8 := [116, 114, 121]
def sCatch : List UInt8 := [99, 97, 116, 99, 104]

/-- The rules, as functions; none: the fuel is out. -/
structure Lang where
  expr : Nat → PS → Option (ND × PS)
  list : Nat → PS → Option (List ND × PS)
  listL : Nat → List ND → PS → Option (List ND × PS)
  maybe_ : List UInt8 → Nat → PS → Option (List ND × PS)
  or_ : Nat → PS → Option (ND × PS)
  orL : Nat → ND → PS → Option (ND × PS)
  and_ : Nat → PS → Option (ND × PS)
  andL : Nat → ND → PS → Option (ND × PS)
  rel : Nat → PS → Option (ND × PS)
  sum : Nat → PS → Option (ND × PS)
  sumL : Nat → ND → PS → Option (ND × PS)
  prod : Nat → PS → Option (ND × PS)
  prodL : Nat → ND → PS → Option (ND × PS)
  sign : Nat → PS → Option (ND × PS)
  call : Nat → PS → Option (ND × PS)
  callL : Nat → Bool → ND → PS → Option (ND × PS)
  tail : Nat → List ND → List UInt8 → Int → PS → Option (CD × PS)
  head : Nat → List UInt8 → Int → PS → Option (CD × PS)
  arms : Nat → List CD → PS → Option (List CD × PS)
  funs : Nat → List CD → PS → Option (List CD × PS)
  rest : Nat → PS → Option (ND × PS)
  prim : Nat → PS → Option (ND × PS)
def Lang.none_ : Lang := ⟨fun _ _ => none, fun _ _ => none, fun _ _ _ => none, fun _ _ _ => none, fun _ _ => none, fun _ _ _ => none, fun _ _ => none, fun _ _ _ => none, fun _ _ => none, fun _ _ => none, fun _ _ _ => none, fun _ _ => none, fun _ _ _ => none, fun _ _ => none, fun _ _ => none, fun _ _ _ _ => none, fun _ _ _ _ _ => none, fun _ _ _ _ => none, fun _ _ _ => none, fun _ _ _ => none, fun _ _ => none, fun _ _ => none⟩

section
variable (T : List Tok) (fin : Nat) (L : Lang)
def exprN (deep : Nat) (s : PS) : Option (ND × PS) := (L.or_ deep (deepP T fin deep s)).bind fun r =>
  if isP T sEq r.2 then (L.expr (deep + 1) (nextP r.2)).bind fun q => some (.mk 11 0 [] (placeP T fin r.2) [r.1, q.1] [] [], q.2)
  else if isP T sBang r.2 then (L.expr (deep + 1) (nextP r.2)).bind fun q => some (.mk 12 0 [] (placeP T fin r.2) [r.1, q.1] [] [], q.2)
  else some r
def listN (deep : Nat) (s : PS) : Option (List ND × PS) := (L.expr deep s).bind fun r => L.listL deep [r.1] r.2
def listLN (deep : Nat) (out : List ND) (s : PS) : Option (List ND × PS) :=
  if isP T sComma s then (L.expr deep (nextP s)).bind fun r => L.listL deep (out ++ [r.1]) r.2 else some (out, s)
def maybeN (w : List UInt8) (deep : Nat) (s : PS) : Option (List ND × PS) :=
  if isP T w s then some ([], nextP s) else (L.list deep s).bind fun r => some (r.1, mustP T fin w r.2)
/-- operators that join from the left: a loop. -/
def binN (sub : Nat → PS → Option (ND × PS)) (lp : Nat → ND → PS → Option (ND × PS)) (deep : Nat) (s : PS) : Option (ND × PS) := (sub deep s).bind fun r => lp deep r.1 r.2
def binLN (l : List (List UInt8)) (sub : Nat → PS → Option (ND × PS)) (lp : Nat → ND → PS → Option (ND × PS)) (deep : Nat) (a : ND) (s : PS) : Option (ND × PS) := match opP T l s with
  | some w => (sub deep (nextP s)).bind fun r => lp deep (.mk 9 0 w (placeP T fin s) [a, r.1] [] []) r.2
  | none => some (a, s)
def relN (deep : Nat) (s : PS) : Option (ND × PS) := (L.sum deep s).bind fun r => match opP T sRel r.2 with
  | some w => (L.sum deep (nextP r.2)).bind fun q => some (.mk 9 0 w (placeP T fin r.2) [r.1, q.1] [] [], q.2)
  | none => some r
def signN (deep : Nat) (s : PS) : Option (ND × PS) := match opP T sSign (deepP T fin deep s) with
  | some w => (L.sign (deep + 1) (nextP (deepP T fin deep s))).bind fun r => some (.mk 10 0 w (placeP T fin (deepP T fin deep s)) [r.1] [] [], r.2)
  | none => L.call deep (deepP T fin deep s)
def callN (deep : Nat) (s : PS) : Option (ND × PS) := (L.prim deep s).bind fun r => L.callL deep (kindP T 2 s) r.1 r.2
def callLN (deep : Nat) (bare : Bool) (a : ND) (s : PS) : Option (ND × PS) :=
  if isP T sOpen s then (L.maybe_ sShut (deep + 1) (nextP s)).bind fun r => L.callL deep false (if bare then .mk 7 0 a.name a.at_ r.1 [] [] else .mk 8 0 [] (placeP T fin s) (a :: r.1) [] []) r.2 else some (a, s)
def tailN (deep : Nat) (ps : List ND) (nm : List UInt8) (at_ : Int) (s : PS) : Option (CD × PS) :=
  (if isP T sWhen s then L.list deep (nextP s) else some ([], s)).bind fun g => (L.list deep (mustP T fin sArrow g.2)).bind fun b => some (.mk ps g.1 b.1 nm at_, b.2)
def headN (deep : Nat) (nm : List UInt8) (at_ : Int) (s : PS) : Option (CD × PS) := (L.maybe_ sShut deep (mustP T fin sOpen s)).bind fun r => L.tail deep r.1 nm at_ r.2
def armsN (deep : Nat) (out : List CD) (s : PS) : Option (List CD × PS) :=
  if s.e = 0 then (L.expr deep s).bind fun r => (L.tail deep [r.1] [] (placeP T fin s) r.2).bind fun c => if isP T sSemi c.2 then L.arms deep (out ++ [c.1]) (nextP c.2) else some (out ++ [c.1], c.2) else some (out, s)
def funsN (deep : Nat) (out : List CD) (s : PS) : Option (List CD × PS) :=
  if s.e = 0 then (L.head deep [] (placeP T fin s) s).bind fun c => if isP T sSemi c.2 then L.funs deep (out ++ [c.1]) (nextP c.2) else some (out ++ [c.1], c.2) else some (out, s)
def restN (deep : Nat) (s : PS) : Option (ND × PS) := (L.expr deep s).bind fun r =>
  if isP T sComma r.2 then (L.rest deep (nextP r.2)).bind fun q => some (.mk 6 0 [] r.1.at_ [r.1, q.1] [] [], q.2)
  else if isP T sBar r.2 then (L.expr deep (nextP r.2)).bind fun q => some (.mk 6 0 [] r.1.at_ [r.1, q.1] [] [], mustP T fin sRb q.2)
  else some (.mk 6 0 [] r.1.at_ [r.1, .mk 5 0 [] (placeP T fin r.2) [] [] []] [] [], mustP T fin sRb r.2)
def ND.withAt (a : Int) : ND → ND | .mk k n s _ x y z => .mk k n s a x y z
def recvB (at_ : Int) (cl : List CD) (deep : Nat) (s : PS) : Option (ND × PS) :=
  if isP T sAfter s then (L.expr deep (nextP s)).bind fun x => (L.list deep (mustP T fin sArrow x.2)).bind fun b => some (.mk 15 0 [] at_ [x.1] cl b.1, mustP T fin sEnd b.2)
  else some (.mk 15 0 [] at_ [] cl [], mustP T fin sEnd s)
/-- what begins with a sign or a word. -/
def primW (deep : Nat) (s : PS) : Option (ND × PS) :=
  if isP T sOpen s then (L.expr (deep + 1) (nextP s)).bind fun r => some (r.1, mustP T fin sShut r.2)
  else if isP T sLc s then (L.maybe_ sRc (deep + 1) (nextP s)).bind fun r => some (.mk 4 0 [] (placeP T fin s) r.1 [] [], r.2)
  else if isP T sLb s then (if isP T sRb (nextP s) then some (.mk 5 0 [] (placeP T fin s) [] [] [], nextP (nextP s)) else (L.rest (deep + 1) (nextP s)).bind fun r => some (r.1.withAt (placeP T fin s), r.2))
  else if isP T sFun s then (L.funs (deep + 1) [] (nextP s)).bind fun r => some (.mk 13 0 [] (placeP T fin s) [] r.1 [], mustP T fin sEnd r.2)
  else if isP T sCase s then (L.expr (deep + 1) (nextP s)).bind fun x => (L.arms (deep + 1) [] (mustP T fin sOf x.2)).bind fun r => some (.mk 14 0 [] (placeP T fin s) [x.1] r.1 [], mustP T fin sEnd r.2)
  else if isP T sReceive s then (if isP T sAfter (nextP s) then recvB T fin L (placeP T fin s) [] (deep + 1) (nextP s) else (L.arms (deep + 1) [] (nextP s)).bind fun r => recvB T fin L (placeP T fin s) r.1 (deep + 1) r.2)
  else if isP T sTry s then (L.list (deep + 1) (nextP s)).bind fun b => (L.arms (deep + 1) [] (mustP T fin sCatch b.2)).bind fun r => some (.mk 16 0 [] (placeP T fin s) [] r.1 b.1, mustP T fin sEnd r.2)
  else some (.zero, failP T fin 110 s)
def primN (deep : Nat) (s : PS) : Option (ND × PS) := if s.e ≠ 0 then some (.zero, s) else match T[s.i]? with
  | none => some (.zero, failP T fin 110 s)
  | some t => if t.kind = 1 then some (.mk 1 t.int [] t.at_ [] [] [], nextP s) else if t.kind = 2 then some (.mk 2 0 t.text t.at_ [] [] [], nextP s) else if t.kind = 3 then some (.mk 3 0 t.text t.at_ [] [] [], nextP s) else primW T fin L deep s
def Lang.next : Lang where
  expr := exprN T fin L
  list := listN L
  listL := listLN T L
  maybe_ := maybeN T fin L
  or_ := binN L.and_ L.orL
  orL := binLN T fin [sOr] L.and_ L.orL
  and_ := binN L.rel L.andL
  andL := binLN T fin [sAnd] L.rel L.andL
  rel := relN T fin L
  sum := binN L.prod L.sumL
  sumL := binLN T fin sSum L.prod L.sumL
  prod := binN L.sign L.prodL
  prodL := binLN T fin sProd L.sign L.prodL
  sign := signN T fin L
  call := callN T L
  callL := callLN T fin L
  tail := tailN T fin L
  head := headN T fin L
  arms := armsN T fin L
  funs := funsN T fin L
  rest := restN T fin L
  prim := primN T fin L
def lang : Nat → Lang
  | 0 => .none_
  | n + 1 => (lang n).next T fin
end

/-! ### Expr -/
def fuelP (T : List Tok) : Nat := 20 * (T.length + 1) + 20
end Go.Proofs.YtmpknhdfglbocaaGreat
