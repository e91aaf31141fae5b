/- Layer 12: the three texts of the law CheckScopes as programs of one clause; what their check comes to. No program is named here. Layer 12: what the check of a program of one clause comes to; the law of the three texts; the law's own texts. No program is named here. -/
import Derived.Test.YthhindnjnijglaaChD
namespace Go.Proofs.Ythhindnjnijglaa
section
open Go.RowKit
set_option linter.unusedVariables false

theorem tk_at {T : List Tok} {L : List K3} (h : T.map tk = L) {i : Nat} {x : K3} (hi : L[i]? = some x) : ∃ t, T[i]? = some t ∧ tk t = x := by
  subst h
  rw [List.getElem?_map] at hi
  cases ht : T[i]? with
  | none => rw [ht] at hi; cases hi
  | some t => rw [ht] at hi; exact ⟨t, rfl, Option.some.inj hi⟩
theorem isP_at {T : List Tok} {L : List K3} (h : T.map tk = L) {s : PS} (he : s.e = 0) {i : Nat} (hs : s.i = i) {k n : Int} {w w' : List UInt8} (hi : L[i]? = some (k, n, w)) : isP T w' s = ((k == 5 || k == 4) && w == w') := by
  subst hs
  obtain ⟨t, h1, h2⟩ := tk_at h hi
  unfold isP
  rw [he, h1]
  unfold tk at h2
  simp only [Prod.mk.injEq] at h2
  obtain ⟨rfl, rfl, rfl⟩ := h2
  rfl
theorem win_of {T T' : List Tok} {A : List K3} {z : K3} {B : List K3} (h : T'.map tk = A ++ (T.map tk ++ z :: B)) (hz : z = sg sComma ∨ z = sg sDot) : Win T T' A.length := by
  refine ⟨fun i t ht => ?_, fun t ht => ?_⟩
  · have hi := (List.getElem?_eq_some_iff.1 ht).1
    have : (A ++ (T.map tk ++ z :: B))[i + A.length]? = some (tk t) := by
      rw [List.getElem?_append_right (by omega), Nat.add_sub_cancel, List.getElem?_append_left (by simpa using hi), List.getElem?_map, ht]
      rfl
    obtain ⟨t', h1, h2⟩ := tk_at h this
    unfold tk at h2
    simp only [Prod.mk.injEq] at h2
    exact ⟨t', h1, h2.1, h2.2.1, h2.2.2⟩
  · have : (A ++ (T.map tk ++ z :: B))[T.length + A.length]? = some z := by
      rw [List.getElem?_append_right (by omega), Nat.add_sub_cancel, List.getElem?_append_right (by simp), List.length_map, Nat.sub_self]
      rfl
    obtain ⟨t', h1, h2⟩ := tk_at h this
    rw [ht] at h1
    obtain rfl := Option.some.inj h1
    unfold tk at h2
    rcases hz with rfl | rfl
    · simp only [Prod.mk.injEq] at h2
      exact ⟨h2.1, .inl h2.2.2⟩
    · simp only [Prod.mk.injEq] at h2
      exact ⟨h2.1, .inr h2.2.2⟩
/-- An expression within a longer row of tokens. -/
theorem tr_run {T T' : List Tok} {d fin : Nat} (fin' : Nat) (W : Win T T' d) {n m : Nat} (hnm : n ≤ m) {a : Int} {r : ND × PS} (h : (lang T fin n).expr 0 ⟨0, 0, a⟩ = some r) (he : r.2.e = 0) (s' : PS) (hs : s'.i = d) (hse : s'.e = 0) :
    ∃ r', (lang T' fin' m).expr 0 s' = some r' ∧ r'.1.strip = r.1.strip ∧ r'.2.e = 0 ∧ r'.2.i = r.2.i + d := by
  obtain ⟨r', h1, h2, h3⟩ := (lang_tr fin fin' W n m hnm).expr 0 ⟨0, 0, a⟩ s' r ⟨rfl, hse, by simp [hs], Nat.zero_le _⟩ h he
  exact ⟨r', h1, h2, h3.e', h3.i⟩
section
variable {T : List Tok} {fin k : Nat}
theorem list_one {s0 : PS} {a : ND × PS} (h : (lang T fin (k + 1)).expr 0 s0 = some a) (hc : isP T sComma a.2 = false) : (lang T fin (k + 2)).list 0 s0 = some ([a.1], a.2) := by
  show listN (lang T fin (k + 1)) 0 s0 = _
  unfold listN
  rw [h]
  show listLN T (lang T fin k) 0 [a.1] a.2 = _
  unfold listLN
  rw [if_neg (by rw [hc]; simp)]
theorem list_three {s0 : PS} {a b c : ND × PS} (h1 : (lang T fin (k + 3)).expr 0 s0 = some a) (c1 : isP T sComma a.2 = true) (h2 : (lang T fin (k + 2)).expr 0 (nextP a.2) = some b) (c2 : isP T sComma b.2 = true) (h3 : (lang T fin (k + 1)).expr 0 (nextP b.2) = some c) (c3 : isP T sComma c.2 = false) :
    (lang T fin (k + 4)).list 0 s0 = some ([a.1, b.1, c.1], c.2) := by
  show listN (lang T fin (k + 3)) 0 s0 = _
  unfold listN
  rw [h1]
  show listLN T (lang T fin (k + 2)) 0 [a.1] a.2 = _
  unfold listLN
  rw [if_pos c1, h2]
  show listLN T (lang T fin (k + 1)) 0 ([a.1] ++ [b.1]) b.2 = _
  unfold listLN
  rw [if_pos c2, h3]
  show listLN T (lang T fin k) 0 ([a.1] ++ [b.1] ++ [c.1]) c.2 = _
  unfold listLN
  rw [if_neg (by rw [c3]; simp)]
  rfl
theorem head_run {R : List K3} (hT : T.map tk = kHd ++ R) {at_ : Int} {l : List ND × PS} (h : (lang T fin (k + 1)).list 0 ⟨4, 0, 0⟩ = some l) : (lang T fin (k + 3)).head 0 kMain at_ ⟨1, 0, 0⟩ = some (.mk [] [] l.1 kMain at_, l.2) := by
  have i1 : isP T sOpen ⟨1, 0, 0⟩ = true := by rw [isP_at hT rfl rfl (i := 1) (k := 5) (n := 0) (w := sOpen) rfl]; rfl
  have i2 : isP T sShut ⟨2, 0, 0⟩ = true := by rw [isP_at hT rfl rfl (i := 2) (k := 5) (n := 0) (w := sShut) rfl]; rfl
  have i3 : isP T sArrow ⟨3, 0, 0⟩ = true := by rw [isP_at hT rfl rfl (i := 3) (k := 5) (n := 0) (w := sArrow) rfl]; rfl
  have i4 : isP T sWhen ⟨3, 0, 0⟩ = false := by rw [isP_at hT rfl rfl (i := 3) (k := 5) (n := 0) (w := sArrow) rfl]; rfl
  have m1 : mustP T fin sOpen ⟨1, 0, 0⟩ = ⟨2, 0, 0⟩ := by unfold mustP; rw [if_pos i1]; rfl
  have m3 : mustP T fin sArrow ⟨3, 0, 0⟩ = ⟨4, 0, 0⟩ := by unfold mustP; rw [if_pos i3]; rfl
  show headN T fin (lang T fin (k + 2)) 0 kMain at_ ⟨1, 0, 0⟩ = _
  unfold headN
  rw [m1]
  show (maybeN T fin (lang T fin (k + 1)) sShut 0 ⟨2, 0, 0⟩).bind _ = _
  unfold maybeN
  rw [if_pos i2]
  show tailN T fin (lang T fin (k + 1)) 0 [] kMain at_ ⟨3, 0, 0⟩ = _
  unfold tailN
  rw [if_neg (by rw [i4]; simp)]
  show ((lang T fin (k + 1)).list 0 (mustP T fin sArrow ⟨3, 0, 0⟩)).bind _ = _
  rw [m3, h]
  rfl
end
/-- A program of one clause. -/
structure One (T : List Tok) (fin : Nat) (cd : CD) : Prop where
  ex : ∃ t0 n s1, T[0]? = some t0 ∧ t0.kind = 2 ∧ n ≤ 4611686018427387904 ∧ (lang T fin n).head 0 t0.text t0.at_ ⟨1, 0, 0⟩ = some (cd, s1) ∧ s1.e = 0 ∧ isP T sSemi s1 = false ∧ isP T sDot s1 = true ∧ s1.i + 1 = T.length
theorem one_main {T : List Tok} {fin k : Nat} {R : List K3} {l : List ND × PS} (hT : T.map tk = kHd ++ R) (hk : k + 3 ≤ 4611686018427387904) (h : (lang T fin (k + 1)).list 0 ⟨4, 0, 0⟩ = some l) (he : l.2.e = 0) {i : Nat} (hi : l.2.i = i) (hd : (kHd ++ R)[i]? = some (sg sDot)) (hl : i + 1 = (kHd ++ R).length) : ∃ a, One T fin (.mk [] [] l.1 kMain a) := by
  obtain ⟨t0, h1, h2⟩ := tk_at hT (i := 0) (x := (2, 0, kMain)) rfl
  unfold tk at h2
  simp only [Prod.mk.injEq] at h2
  refine ⟨t0.at_, ⟨t0, k + 3, l.2, h1, h2.1, hk, ?_, he, ?_, ?_, ?_⟩⟩
  · rw [h2.2.2]; exact head_run hT h
  · rw [isP_at hT he hi hd]; rfl
  · rw [isP_at hT he hi hd]; rfl
  · rw [hi, hl, ← hT, List.length_map]

/-- What Expr takes: all tokens, no error. -/
theorem expr_inv {s : List UInt8} {p : ND} {a : Int} (h : exprP s = some (p, 0, a)) : (scanP s).e = 0 ∧ ∃ r, (lang (scanP s).toks s.length (fuelP (scanP s).toks)).expr 0 ⟨0, 0, (scanP s).at_⟩ = some r ∧ r.1 = p ∧ r.2.e = 0 ∧ r.2.i = (scanP s).toks.length := by
  unfold exprP at h
  obtain ⟨r, hr, h⟩ := bind_inv h
  obtain ⟨x, hx⟩ : ∃ x, (if r.2.i < (scanP s).toks.length then failP (scanP s).toks s.length 110 r.2 else r.2) = x := ⟨_, rfl⟩
  simp only [hx, Option.some.injEq] at h
  have hm := (lang_mono (scanP s).toks s.length (fuelP (scanP s).toks)).expr _ _ _ hr
  have h0 : x.e = 0 ∧ r.1 = p := by
    by_cases hne : x.e = 0
    · rw [if_neg (by simpa using hne)] at h
      exact ⟨hne, congrArg (fun x : ND × Int × Int => x.1) h⟩
    · rw [if_pos hne] at h
      exact absurd (congrArg (fun x : ND × Int × Int => x.2.1) h) hne
  have h1 : ¬ r.2.i < (scanP s).toks.length ∧ r.2.e = 0 := by
    have h2 := h0.1
    by_cases h3 : r.2.i < (scanP s).toks.length
    · rw [if_pos h3] at hx
      rw [← hx] at h2
      unfold failP at h2
      by_cases h4 : r.2.e = 0
      · rw [if_pos h4] at h2; simp at h2
      · rw [if_neg h4] at h2; exact absurd h2 h4
    · rw [if_neg h3] at hx
      rw [← hx] at h2
      exact ⟨h3, h2⟩
  have he : (scanP s).e = 0 := stp_e hm h1.2
  rw [he] at hr
  have := hm.hi (Nat.zero_le _)
  exact ⟨he, r, hr, h0.2, h1.2, by have := h1.1; omega⟩

abbrev nV (w : List UInt8) : ND := .mk 3 0 w 0 [] [] []
abbrev nI : ND := .mk 1 1 [] 0 [] [] []
abbrev nM (w : List UInt8) : ND := .mk 11 0 [] 0 [nV w, nI] [] []
abbrev nC (w : List UInt8) : ND := .mk 14 0 [] 0 [nI] [.mk [nV w] [] [nV w] [] 0] []
def tV (w : List UInt8) : List Tok := [⟨3, 0, w, 0, 0⟩]
def tM (w : List UInt8) : List Tok := [⟨3, 0, w, 0, 0⟩, ⟨5, 0, sEq, 0, 0⟩, ⟨1, 1, [], 0, 0⟩]
def tC (w : List UInt8) : List Tok := [⟨4, 0, sCase, 0, 0⟩, ⟨1, 1, [], 0, 0⟩, ⟨4, 0, sOf, 0, 0⟩, ⟨3, 0, w, 0, 0⟩, ⟨5, 0, sArrow, 0, 0⟩, ⟨3, 0, w, 0, 0⟩, ⟨4, 0, sEnd, 0, 0⟩]
def fst3 (r : ND × PS) : ND × Nat × Int := (r.1.strip, r.2.i, r.2.e)
theorem run_v (w : List UInt8) : ((lang (tV w) 0 60).expr 0 ⟨0, 0, 0⟩).map fst3 = some (nV w, 1, 0) := by kernel_rfl
theorem run_m (w : List UInt8) : ((lang (tM w) 0 60).expr 0 ⟨0, 0, 0⟩).map fst3 = some (nM w, 3, 0) := by kernel_rfl
theorem run_c (w : List UInt8) : ((lang (tC w) 0 60).expr 0 ⟨0, 0, 0⟩).map fst3 = some (nC w, 7, 0) := by kernel_rfl
theorem run_of {T : List Tok} {n : Nat} {x : ND × Nat × Int} (h : ((lang T 0 n).expr 0 ⟨0, 0, 0⟩).map fst3 = some x) : ∃ r, (lang T 0 n).expr 0 ⟨0, 0, 0⟩ = some r ∧ r.1.strip = x.1 ∧ r.2.i = x.2.1 ∧ r.2.e = x.2.2 := by
  cases hr : (lang T 0 n).expr 0 ⟨0, 0, 0⟩ with
  | none => rw [hr] at h; cases h
  | some r =>
    rw [hr] at h
    have := Option.some.inj h
    subst this
    exact ⟨r, rfl, rfl, rfl, rfl⟩
section
variable {s w : List UInt8} {p : ND} {a : Int}
theorem fuel_le (s : List UInt8) : fuelP (scanP s).toks ≤ 400000 := by
  have := scanP_len s
  unfold fuelP
  omega
theorem one_a (h : exprP s = some (p, 0, a)) (hs : s.length ≤ 1000) : ∃ ts b at_, scanP (xA s) = ⟨ts, 0, 0⟩ ∧ One ts (xA s).length (.mk [] [] [b] kMain at_) ∧ b.strip = p.strip := by
  obtain ⟨he, r, hr, hp, hre, hri⟩ := expr_inv h
  obtain ⟨ts, h1, h2⟩ := scan_a hs he
  obtain ⟨K, hK⟩ : ∃ K : Nat, K = 400000 := ⟨_, rfl⟩
  have hf := fuel_le s
  obtain ⟨q, q1, q2, q3, q4⟩ := tr_run (m := K + 1) (xA s).length (win_of h2 (.inr rfl)) (by omega) hr hre ⟨4, 0, 0⟩ rfl rfl
  have hd : (kHd ++ ((scanP s).toks.map tk ++ [sg sDot]))[(scanP s).toks.length + 4]? = some (sg sDot) := by
    rw [List.getElem?_append_right (by simp [kHd]), List.getElem?_append_right (by simp [kHd])]
    simp [kHd]
  have hi : q.2.i = (scanP s).toks.length + 4 := by rw [q4, hri]; rfl
  obtain ⟨at_, ho⟩ := one_main (fin := (xA s).length) (k := K + 1) h2 (by omega) (list_one (k := K) q1 (by rw [isP_at h2 q3 hi hd]; rfl)) q3 hi hd (by simp [kHd])
  exact ⟨ts, q.1, at_, h1, ho, by rw [q2, hp]⟩
/-- Three expressions behind one another. -/
theorem one_three {X : List UInt8} {ts t1 t3 : List Tok} {z1 : ND} {m : Nat} (hX : scanP X = ⟨ts, 0, 0⟩) (h : exprP s = some (p, 0, a)) (hm : ts.map tk = kHd ++ (t1.map tk ++ (sg sComma :: ((scanP s).toks.map tk ++ (sg sComma :: (t3.map tk ++ [sg sDot])))))) (r1 : ((lang t1 0 60).expr 0 ⟨0, 0, 0⟩).map fst3 = some (z1, t1.length, 0)) {z3 : ND} (r3 : ((lang t3 0 60).expr 0 ⟨0, 0, 0⟩).map fst3 = some (z3, t3.length, 0)) :
    ∃ b1 b2 b3 at_, One ts X.length (.mk [] [] [b1, b2, b3] kMain at_) ∧ b1.strip = z1 ∧ b2.strip = p.strip ∧ b3.strip = z3 := by
  obtain ⟨he, r, hr, hp, hre, hri⟩ := expr_inv h
  obtain ⟨x1, x11, x12, x13, x14⟩ := run_of r1
  obtain ⟨x3, x31, x32, x33, x34⟩ := run_of r3
  have w1 : Win t1 ts 4 := win_of (A := kHd) hm (.inl rfl)
  have w2 : Win (scanP s).toks ts (4 + t1.length + 1) := by
    have := win_of (T := (scanP s).toks) (T' := ts) (A := kHd ++ (t1.map tk ++ [sg sComma])) (z := sg sComma) (B := t3.map tk ++ [sg sDot]) (by rw [hm]; simp) (.inl rfl)
    simpa [kHd, Nat.add_assoc, Nat.add_comm, Nat.add_left_comm] using this
  have w3 : Win t3 ts (4 + t1.length + 1 + (scanP s).toks.length + 1) := by
    have := win_of (T := t3) (T' := ts) (A := kHd ++ (t1.map tk ++ (sg sComma :: ((scanP s).toks.map tk ++ [sg sComma])))) (z := sg sDot) (B := []) (by rw [hm]; simp) (.inr rfl)
    rw [show (kHd ++ (t1.map tk ++ (sg sComma :: ((scanP s).toks.map tk ++ [sg sComma])))).length = 4 + t1.length + 1 + (scanP s).toks.length + 1 by simp [kHd]; omega] at this
    exact this
  obtain ⟨K, hK⟩ : ∃ K : Nat, K = 400000 := ⟨_, rfl⟩
  have hf := fuel_le s
  obtain ⟨q1, q11, q12, q13, q14⟩ := tr_run (m := K + 3) X.length w1 (by omega) x11 (by rw [x14]) ⟨4, 0, 0⟩ rfl rfl
  have i1 : q1.2.i = 4 + t1.length := by rw [q14, x13]; simp only; omega
  have g1 : (kHd ++ (t1.map tk ++ (sg sComma :: ((scanP s).toks.map tk ++ (sg sComma :: (t3.map tk ++ [sg sDot]))))))[4 + t1.length]? = some (sg sComma) := by
    rw [List.getElem?_append_right (by simp [kHd]), List.getElem?_append_right (by simp [kHd])]
    simp [kHd]
  have c1 : isP ts sComma q1.2 = true := by rw [isP_at hm q13 i1 g1]; rfl
  obtain ⟨q2, q21, q22, q23, q24⟩ := tr_run (m := K + 2) X.length w2 (by omega) hr hre (nextP q1.2) (by simp only [nextP]; omega) q13
  have i2 : q2.2.i = 4 + t1.length + 1 + (scanP s).toks.length := by rw [q24, hri]; omega
  have g2 : (kHd ++ (t1.map tk ++ (sg sComma :: ((scanP s).toks.map tk ++ (sg sComma :: (t3.map tk ++ [sg sDot]))))))[4 + t1.length + 1 + (scanP s).toks.length]? = some (sg sComma) := by
    have e1 : kHd ++ (t1.map tk ++ (sg sComma :: ((scanP s).toks.map tk ++ (sg sComma :: (t3.map tk ++ [sg sDot]))))) = (kHd ++ (t1.map tk ++ (sg sComma :: (scanP s).toks.map tk))) ++ (sg sComma :: (t3.map tk ++ [sg sDot])) := by simp
    have e2 : (kHd ++ (t1.map tk ++ (sg sComma :: (scanP s).toks.map tk))).length = 4 + t1.length + 1 + (scanP s).toks.length := by simp [kHd]; omega
    rw [e1, List.getElem?_append_right (by omega), e2, Nat.sub_self]
    rfl
  have c2 : isP ts sComma q2.2 = true := by rw [isP_at hm q23 i2 g2]; rfl
  obtain ⟨q3, q31, q32, q33, q34⟩ := tr_run (m := K + 1) X.length w3 (by omega) x31 (by rw [x34]) (nextP q2.2) (by simp only [nextP]; omega) q23
  have i3 : q3.2.i = 4 + t1.length + 1 + (scanP s).toks.length + 1 + t3.length := by rw [q34, x33]; simp only; omega
  have g3 : (kHd ++ (t1.map tk ++ (sg sComma :: ((scanP s).toks.map tk ++ (sg sComma :: (t3.map tk ++ [sg sDot]))))))[4 + t1.length + 1 + (scanP s).toks.length + 1 + t3.length]? = some (sg sDot) := by
    have e1 : kHd ++ (t1.map tk ++ (sg sComma :: ((scanP s).toks.map tk ++ (sg sComma :: (t3.map tk ++ [sg sDot]))))) = (kHd ++ (t1.map tk ++ (sg sComma :: ((scanP s).toks.map tk ++ (sg sComma :: t3.map tk))))) ++ [sg sDot] := by simp
    have e2 : (kHd ++ (t1.map tk ++ (sg sComma :: ((scanP s).toks.map tk ++ (sg sComma :: t3.map tk))))).length = 4 + t1.length + 1 + (scanP s).toks.length + 1 + t3.length := by simp [kHd]; omega
    rw [e1, List.getElem?_append_right (by omega), e2, Nat.sub_self]
    rfl
  have c3 : isP ts sComma q3.2 = false := by rw [isP_at hm q33 i3 g3]; rfl
  obtain ⟨at_, ho⟩ := one_main (fin := X.length) (k := K + 3) hm (by omega) (list_three (k := K) q11 c1 q21 c2 q31 c3) q33 i3 g3 (by simp [kHd]; omega)
  exact ⟨q1.1, q2.1, q3.1, at_, ho, by rw [q12, x12], by rw [q22, hp], by rw [q32, x32]⟩
theorem one_b (h : exprP s = some (p, 0, a)) (hs : s.length ≤ 1000) (hw : VName w) : ∃ ts b1 b2 b3 at_, scanP (xB s w) = ⟨ts, 0, 0⟩ ∧ One ts (xB s w).length (.mk [] [] [b1, b2, b3] kMain at_) ∧ b1.strip = nM w ∧ b2.strip = p.strip ∧ b3.strip = nV w := by
  obtain ⟨ts, h1, h2⟩ := scan_b hs (expr_inv h).1 hw
  obtain ⟨b1, b2, b3, at_, ho, e1, e2, e3⟩ := one_three (t1 := tM w) (t3 := tV w) (m := 0) h1 h h2 (run_m w) (run_v w)
  exact ⟨ts, b1, b2, b3, at_, h1, ho, e1, e2, e3⟩
theorem one_c (h : exprP s = some (p, 0, a)) (hs : s.length ≤ 1000) (hw : VName w) : ∃ ts b1 b2 b3 at_, scanP (xC s w) = ⟨ts, 0, 0⟩ ∧ One ts (xC s w).length (.mk [] [] [b1, b2, b3] kMain at_) ∧ b1.strip = nC w ∧ b2.strip = p.strip ∧ b3.strip = nV w := by
  obtain ⟨ts, h1, h2⟩ := scan_c hs (expr_inv h).1 hw
  obtain ⟨b1, b2, b3, at_, ho, e1, e2, e3⟩ := one_three (t1 := tC w) (t3 := tV w) (m := 0) h1 h h2 (run_c w) (run_v w)
  exact ⟨ts, b1, b2, b3, at_, h1, ho, e1, e2, e3⟩
end
end
section
open Go.RowKit
set_option linter.unusedVariables false

def blt1 : List (List UInt8 × Nat) := [([105, 115, 95, 105, 110, 116, 101, 103, 101, 114], 1), ([105, 115, 95, 97, 116, 111, 109], 1), ([105, 115, 95, 112, 105, 100], 1), ([105, 115, 95, 114, 101, 102, 101, 114, 101, 110, 99, 101], 1), ([105, 115, 95, 102, 117, 110, 99, 116, 105, 111, 110], 1), ([105, 115, 95, 116, 117, 112, 108, 101], 1), ([105, 115, 95, 108, 105, 115, 116], 1), ([104, 100], 1), ([116, 108], 1), ([116, 117, 112, 108, 101, 95, 115, 105, 122, 101], 1), ([108, 101, 110, 103, 116, 104], 1), ([101, 108, 101, 109, 101, 110, 116], 2)]
def blt2 : List (List UInt8 × Nat) := [([108, 105, 115, 116, 95, 116, 111, 95, 116, 117, 112, 108, 101], 1), ([116, 117, 112, 108, 101, 95, 116, 111, 95, 108, 105, 115, 116], 1), ([114, 101, 118, 101, 114, 115, 101], 1), ([116, 104, 114, 111, 119], 1), ([101, 114, 114, 111, 114], 1), ([101, 120, 105, 116], 1), ([97, 112, 112, 101, 110, 100], 2)]
def blt3 : List (List UInt8 × Nat) := [([115, 101, 108, 102], 0), ([110, 111, 119], 0), ([109, 97, 107, 101, 95, 114, 101, 102], 0), ([115, 112, 97, 119, 110], 1), ([108, 105, 110, 107], 1), ([117, 110, 108, 105, 110, 107], 1), ([109, 111, 110, 105, 116, 111, 114], 1), ([100, 101, 109, 111, 110, 105, 116, 111, 114], 1), ([117, 110, 114, 101, 103, 105, 115, 116, 101, 114], 1), ([119, 104, 101, 114, 101, 105, 115], 1), ([116, 114, 97, 112, 95, 101, 120, 105, 116], 1), ([111, 117, 116, 112, 117, 116], 1), ([101, 120, 105, 116], 2), ([114, 101, 103, 105, 115, 116, 101, 114], 2)]
/-- Of which kind a function is that is built in. -/
def bltP (s : List UInt8) (n : Nat) : Int := if blt1.any (fun p => s == p.1 && n == p.2) then 1 else if blt2.any (fun p => s == p.1 && n == p.2) then 2 else if blt3.any (fun p => s == p.1 && n == p.2) then 3 else 0
/-- The names of a program of one clause. -/
def nmC (cd : CD) (s : List UInt8) (n : Nat) : Bool := s == cd.name && n == cd.patterns.length
def startC (cd : CD) : CS := if nmC cd kMain 0 then (if bltP cd.name cd.patterns.length ≠ 0 then failC 121 cd.at_ ⟨0, 0⟩ else ⟨0, 0⟩) else failC 122 0 (if bltP cd.name cd.patterns.length ≠ 0 then failC 121 cd.at_ ⟨0, 0⟩ else ⟨0, 0⟩)
def chkC (cd : CD) : CS := clsC bltP (nmC cd) [] [cd] (startC cd)
def nmM (s : List UInt8) (n : Nat) : Bool := s == kMain && n == 0
theorem start_main (b : List ND) (a : Int) : startC (.mk [] [] b kMain a) = ⟨0, 0⟩ := by rfl
theorem nmC_main (b : List ND) (a : Int) : nmC (.mk [] [] b kMain a) = nmM := by rfl
theorem chk_main (b : List ND) (a : Int) : chkC (.mk [] [] b kMain a) = (rowC bltP nmM [] b ⟨0, 0⟩).2 := by
  unfold chkC
  rw [start_main, nmC_main]
  simp only [clsC, patCL, grdCL]
theorem chk_strip (b : List ND) (a : Int) : (chkC (.mk [] [] b kMain a)).e = (rowC bltP nmM [] (ND.stripL b) ⟨0, 0⟩).2.e := by
  rw [chk_main]
  exact (row_sm (F := fun _ => False) b [] [] _ _ (fun _ h => h.elim) (fun _ _ => Iff.rfl) rfl).e
theorem exp_m (w : List UInt8) (hw : w ≠ [95]) : expC bltP nmM [] (nM w) ⟨0, 0⟩ = ([w], ⟨0, 0⟩) := by
  simp [expC, mtcC, hdC, rowC, clsC, patC, addN, hw]
theorem exp_c (w : List UInt8) (hw : w ≠ [95]) : expC bltP nmM [] (nC w) ⟨0, 0⟩ = ([], ⟨0, 0⟩) := by
  simp [expC, rowC, clsC, patC, patCL, grdCL, addN, hw]
theorem exp_v (P : Nms) (w : List UInt8) (s : CS) : (expC bltP nmM P (nV w) s).2.e = if s.e ≠ 0 then s.e else if w ∈ P then 0 else 124 := by
  unfold expC
  by_cases h : s.e = 0
  · by_cases hm : w ∈ P
    · simp [h, hm]
    · simp [h, hm, failC]
  · simp [h]
/-- A name that is bound ahead is no fault behind; one that an arm binds is none behind the arms. -/
theorem scopes {p b1 b2 b3 c1 c2 c3 d : ND} {w : List UInt8} {x y z : Int} (hw : w ≠ [95]) (ho : ¬ occN w p) (hd : d.strip = p.strip) (h1 : b1.strip = nM w) (h2 : b2.strip = p.strip) (h3 : b3.strip = nV w) (g1 : c1.strip = nC w) (g2 : c2.strip = p.strip) (g3 : c3.strip = nV w) :
    ∃ e : Int, (chkC (.mk [] [] [d] kMain x)).e = e ∧ (chkC (.mk [] [] [b1, b2, b3] kMain y)).e = e ∧ (chkC (.mk [] [] [c1, c2, c3] kMain z)).e = if e ≠ 0 then e else 124 := by
  rw [chk_strip, chk_strip, chk_strip]
  simp only [ND.stripL, hd, h1, h2, h3, g1, g2, g3, rowC, exp_m w hw, exp_c w hw]
  have hf : ∀ y, y = w → ¬ occN y p := fun y hy => by rw [hy]; exact ho
  have A := exp_sm (F := fun y => y = w) (blt := bltP) (nm? := nmM) p [] [] ⟨0, 0⟩ ⟨0, 0⟩ hf (fun _ _ => Iff.rfl) rfl
  have B := exp_sm (F := fun y => y = w) (blt := bltP) (nm? := nmM) p [] [w] ⟨0, 0⟩ ⟨0, 0⟩ hf (fun y hy => by simp [hy]) rfl
  have kB : w ∈ (expC bltP nmM [w] p.strip ⟨0, 0⟩).1 := (B.k' w rfl).2 (by simp)
  have kA : ¬ w ∈ (expC bltP nmM [] p.strip ⟨0, 0⟩).1 := fun h => by simpa using (A.k' w rfl).1 h
  refine ⟨_, rfl, ?_, ?_⟩
  · rw [exp_v, if_pos kB, ← B.e, A.e]
    split
    · rfl
    · rename_i h9
      have h9 : (expC bltP nmM [] p.strip ⟨0, 0⟩).2.e = 0 := by simpa using h9
      exact h9.symm
  · rw [exp_v, if_neg kA]

/-! ### the law's own texts -/
def litR (X : List UInt8) : Option (CD × PS) := match (scanP X).toks[0]? with
  | some t0 => (lang (scanP X).toks X.length 60).head 0 t0.text t0.at_ ⟨1, 0, 0⟩
  | none => none
def litB (X : List UInt8) (e at_ : Int) : Bool := (scanP X).e == 0 && ((scanP X).at_ == 0 && match (scanP X).toks[0]? with
  | some t0 => t0.kind == 2 && match (lang (scanP X).toks X.length 60).head 0 t0.text t0.at_ ⟨1, 0, 0⟩ with
    | some r => r.2.e == 0 && (!isP (scanP X).toks sSemi r.2 && (isP (scanP X).toks sDot r.2 && (r.2.i + 1 == (scanP X).toks.length && ((chkC r.1).e == e && (chkC r.1).at_ == at_))))
    | none => false
  | none => false)
theorem lit_of {X : List UInt8} {e at_ : Int} (h : litB X e at_ = true) : ∃ ts cd, scanP X = ⟨ts, 0, 0⟩ ∧ One ts X.length cd ∧ chkC cd = ⟨e, at_⟩ := by
  unfold litB at h
  simp only [Bool.and_eq_true, beq_iff_eq] at h
  obtain ⟨h1, h2, h3⟩ := h
  cases ht : (scanP X).toks[0]? with
  | none => rw [ht] at h3; cases h3
  | some t0 =>
    rw [ht] at h3
    simp only [Bool.and_eq_true, beq_iff_eq] at h3
    obtain ⟨h4, h5⟩ := h3
    cases hr : (lang (scanP X).toks X.length 60).head 0 t0.text t0.at_ ⟨1, 0, 0⟩ with
    | none => rw [hr] at h5; cases h5
    | some r =>
      rw [hr] at h5
      simp only [Bool.and_eq_true, beq_iff_eq, Bool.not_eq_true'] at h5
      obtain ⟨k1, k2, k3, k4, k5, k6⟩ := h5
      refine ⟨(scanP X).toks, r.1, ?_, ⟨t0, 60, r.2, ht, h4, by omega, hr, k1, k2, k3, k4⟩, ?_⟩
      · cases hX : scanP X with
        | mk ts e2 a2 => rw [hX] at h1 h2; simp only at h1 h2; rw [h1, h2]
      · cases hX : chkC r.1 with
        | mk e2 a2 => rw [hX] at k5 k6; simp only at k5 k6; rw [k5, k6]
def tx1 : List UInt8 := [109, 97, 105, 110, 40, 41, 32, 45, 62, 32, 88, 46]
def tx2 : List UInt8 := [109, 97, 105, 110, 40, 41, 32, 45, 62, 32, 102, 40, 41, 46]
def tx3 : List UInt8 := [102, 40, 41, 32, 45, 62, 32, 49, 46]
def tx4 : List UInt8 := [109, 97, 105, 110, 40, 41, 32, 45, 62, 32, 99, 97, 115, 101, 32, 49, 32, 111, 102, 32, 88, 32, 45, 62, 32, 88, 32, 101, 110, 100, 44, 32, 88, 46]
def tx5 : List UInt8 := [109, 97, 105, 110, 40, 41, 32, 45, 62, 32, 88, 32, 61, 32, 49, 44, 32, 88, 46]
theorem lit1 : litB tx1 124 10 = true := by kernel_rfl
theorem lit2 : litB tx2 125 10 = true := by kernel_rfl
theorem lit3 : litB tx3 122 0 = true := by kernel_rfl
theorem lit4 : litB tx4 124 32 = true := by kernel_rfl
theorem lit5 : litB tx5 0 0 = true := by kernel_rfl
end
end Go.Proofs.Ythhindnjnijglaa
