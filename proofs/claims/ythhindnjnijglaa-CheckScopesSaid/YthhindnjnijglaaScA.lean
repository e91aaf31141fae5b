/- Layer 10, the document's scanner, as plain functions. No program is named here. -/
import Derived.Test.YthhindnjnijglaaPaB
namespace Go.Proofs.Ythhindnjnijglaa
open Go.RowKit
set_option linter.unusedVariables false

def digN (n : Nat) : Bool := decide (48 ≤ n) && decide (n ≤ 57)
def smaN (n : Nat) : Bool := decide (97 ≤ n) && decide (n ≤ 122)
def greN (n : Nat) : Bool := decide (65 ≤ n) && decide (n ≤ 90) || decide (n = 95)
def morN (n : Nat) : Bool := smaN n || digN n || greN n || decide (n = 64)
def wsN (n : Nat) : Bool := decide (n = 32) || decide (n = 9) || decide (n = 10) || decide (n = 13)
def hexN (n : Nat) : Int := if digN n then (n : Int) - 48 else if 97 ≤ n ∧ n ≤ 102 then (n : Int) - 97 + 10 else -1
/-- Where a run ends. -/
def spanE (p : Nat → Bool) (s : List UInt8) (i : Nat) : Nat := i + ((s.drop i).takeWhile (fun c => p c.toNat)).length
def cutB (s : List UInt8) (i j : Nat) : List UInt8 := (s.drop i).take (j - i)
/-- A number's value; none: it is too great. -/
def numP : Nat → List UInt8 → Option Nat
  | n, [] => some n
  | n, c :: r => if (576460752303423487 - (c.toNat - 48)) / 10 < n then none else numP (10 * n + (c.toNat - 48)) r
def wordsW : List (List UInt8) := [[97, 102, 116, 101, 114], [97, 110, 100], [99, 97, 115, 101], [99, 97, 116, 99, 104], [100, 105, 118], [101, 110, 100], [102, 117, 110], [110, 111, 116], [111, 102], [111, 114], [114, 101, 99, 101, 105, 118, 101], [114, 101, 109], [116, 114, 121], [119, 104, 101, 110]]
def wordP (s : List UInt8) : Bool := wordsW.any (fun w => w == s)
def twoW : List (List UInt8) := [[45, 62], [61, 61], [47, 61], [61, 60], [62, 61]]
def signW : List UInt8 := [40, 41, 91, 93, 123, 125, 44, 59, 46, 124, 33, 43, 45, 42, 60, 62, 61]
def oneP : List UInt8 → Bool
  | [] => false
  | c :: _ => signW.any (fun w => w == c)
def signP (l : List UInt8) : Nat := if decide (2 ≤ l.length) && twoW.any (fun w => w == l.take 2) then 2 else if oneP l then 1 else 0
/-- What an atom in quotes comes to. -/
structure QR where
  name : List UInt8
  to : Nat
  e : Int
  at_ : Nat
def QR.bad (a : Nat) : QR := ⟨[], 0, 100, a⟩
def hexB (s : List UInt8) (i : Nat) : Int := match s[i]? with
  | some c => hexN c.toNat
  | none => -1
def quoL (s : List UInt8) (a : Nat) : Nat → Nat → List UInt8 → Option QR
  | 0, _, _ => none
  | m + 1, i, b => match s[i]? with
    | none => some (.bad a)
    | some c =>
      if c.toNat = 39 then (if b.length < 1 ∨ 255 < b.length then some (.bad a) else some ⟨b, i + 1, 0, 0⟩)
      else if c.toNat = 92 then (match s[i + 1]? with
        | none => some (.bad i)
        | some d => if d.toNat = 39 ∨ d.toNat = 92 then quoL s a m (i + 2) (b ++ [d])
          else if d.toNat = 120 ∧ i + 3 < s.length ∧ 0 ≤ hexB s (i + 2) ∧ 0 ≤ hexB s (i + 3) then quoL s a m (i + 4) (b ++ [UInt8.ofNat (16 * hexB s (i + 2) + hexB s (i + 3)).toNat])
          else some (.bad i))
      else if c.toNat < 32 ∨ 126 < c.toNat then some (.bad i)
      else quoL s a m (i + 1) (b ++ [c])
def quoP (s : List UInt8) (a : Nat) : QR := (quoL s a (s.length + 1) (a + 1) []).getD (.bad 0)
/-- The token at a place: or an error and its place. -/
def tokP (s : List UInt8) (i : Nat) (c : Nat) : Except (Int × Nat) Tok :=
  if digN c then (match numP 0 (cutB s i (spanE digN s i)) with
    | none => .error (101, i)
    | some n => .ok ⟨1, n, [], i, spanE digN s i⟩)
  else if smaN c || greN c then (if 255 < (cutB s i (spanE morN s i)).length then .error (100, i)
    else .ok ⟨if greN c then 3 else if wordP (cutB s i (spanE morN s i)) then 4 else 2, 0, cutB s i (spanE morN s i), i, spanE morN s i⟩)
  else if c = 39 then (if (quoP s i).e ≠ 0 then .error ((quoP s i).e, (quoP s i).at_) else .ok ⟨2, 0, (quoP s i).name, i, (quoP s i).to⟩)
  else if signP (s.drop i) = 0 then .error (100, i)
  else .ok ⟨5, 0, cutB s i (i + signP (s.drop i)), i, i + signP (s.drop i)⟩
/-- What Scan gives. -/
structure SR where
  toks : List Tok
  e : Int
  at_ : Nat
def notNl (n : Nat) : Bool := !decide (n = 10)
def scanL (s : List UInt8) : Nat → Nat → List Tok → Option SR
  | 0, _, _ => none
  | m + 1, i, out => match s[i]? with
    | none => some ⟨out, 0, 0⟩
    | some c => if wsN c.toNat then scanL s m (i + 1) out
      else if c.toNat = 37 then scanL s m (spanE notNl s i) out
      else match tokP s i c.toNat with
        | .error x => some ⟨[], x.1, x.2⟩
        | .ok t => scanL s m t.fin (out ++ [t])
def scanP (s : List UInt8) : SR := if 16384 < s.length then ⟨[], 1, 0⟩ else (scanL s (s.length + 1) 0 []).getD ⟨[], 0, 0⟩

theorem spanE_step {p : Nat → Bool} {s : List UInt8} {i : Nat} (h : i < s.length) : spanE p s i = if p (s[i]).toNat then spanE p s (i + 1) else i := by
  unfold spanE
  rw [List.drop_eq_getElem_cons h, List.takeWhile_cons]
  cases p (s[i]).toNat with
  | true => simp; omega
  | false => simp
theorem spanE_end {p : Nat → Bool} {s : List UInt8} {i : Nat} (h : s.length ≤ i) : spanE p s i = i := by
  unfold spanE
  rw [List.drop_eq_nil_of_le h]
  rfl
theorem spanE_ge (p : Nat → Bool) (s : List UInt8) (i : Nat) : i ≤ spanE p s i := Nat.le_add_right _ _
theorem spanE_le {p : Nat → Bool} {s : List UInt8} {i : Nat} (h : i ≤ s.length) : spanE p s i ≤ s.length := by
  unfold spanE
  have := (List.takeWhile_prefix (fun c : UInt8 => p c.toNat) (l := s.drop i)).length_le
  rw [List.length_drop] at this
  omega
theorem spanE_gt {p : Nat → Bool} {s : List UInt8} {i : Nat} (h : i < s.length) (hp : p (s[i]).toNat = true) : i < spanE p s i := by
  rw [spanE_step h, if_pos hp]
  have := spanE_ge p s (i + 1)
  omega
theorem cutB_span (p : Nat → Bool) (s : List UInt8) (i : Nat) : cutB s i (spanE p s i) = (s.drop i).takeWhile (fun c => p c.toNat) := by
  unfold cutB spanE
  rw [Nat.add_sub_cancel_left]
  have h := List.takeWhile_prefix (fun c : UInt8 => p c.toNat) (l := s.drop i)
  exact (List.prefix_iff_eq_take.1 h).symm
theorem numP_le : ∀ (l : List UInt8) (n m : Nat), n ≤ 576460752303423487 → (∀ c ∈ l, digN c.toNat = true) → numP n l = some m → m ≤ 576460752303423487
  | [], n, m, hn, _, h => by simp only [numP, Option.some.injEq] at h; omega
  | c :: r, n, m, hn, hd, h => by
    unfold numP at h
    split at h
    · cases h
    · rename_i hlt
      have hc := hd c (by simp)
      unfold digN at hc
      simp only [Bool.and_eq_true, decide_eq_true_eq] at hc
      refine numP_le r _ m ?_ (fun x hx => hd x (by simp [hx])) h
      omega
theorem quoL_to (s : List UInt8) (a : Nat) : ∀ (m i : Nat) (b : List UInt8) (r : QR), quoL s a m i b = some r → r.e = 0 → i < r.to ∧ r.to ≤ s.length
  | 0, _, _, _, h, _ => by simp [quoL] at h
  | m + 1, i, b, r, h, he => by
    unfold quoL at h
    split at h
    · cases h; simp [QR.bad] at he
    · rename_i c hc
      have hi := (List.getElem?_eq_some_iff.1 hc).1
      split at h
      · split at h
        · cases h; simp [QR.bad] at he
        · cases h; exact ⟨Nat.lt_succ_self _, hi⟩
      · split at h
        · split at h
          · cases h; simp [QR.bad] at he
          · split at h
            · have := quoL_to s a m _ _ r h he; omega
            · split at h
              · have := quoL_to s a m _ _ r h he; omega
              · cases h; simp [QR.bad] at he
        · split at h
          · cases h; simp [QR.bad] at he
          · have := quoL_to s a m _ _ r h he; omega
theorem quoL_has (s : List UInt8) (a : Nat) : ∀ (m i : Nat) (b : List UInt8), s.length + 1 ≤ i + m → 0 < m → Has (quoL s a m i b)
  | 0, _, _, _, h => absurd h (Nat.lt_irrefl 0)
  | m + 1, i, b, h, _ => by
    unfold quoL
    cases hc : s[i]? with
    | none => exact .one _
    | some c =>
      have hi := (List.getElem?_eq_some_iff.1 hc).1
      simp only
      split
      · split <;> exact .one _
      · split
        · cases hd : s[i + 1]? with
          | none => exact .one _
          | some d =>
            have hi2 := (List.getElem?_eq_some_iff.1 hd).1
            simp only
            split
            · exact quoL_has s a m _ _ (by omega) (by omega)
            · split
              · exact quoL_has s a m _ _ (by omega) (by omega)
              · exact .one _
        · split
          · exact .one _
          · exact quoL_has s a m _ _ (by omega) (by omega)
theorem quoP_eq (s : List UInt8) (a : Nat) : quoL s a (s.length + 1) (a + 1) [] = some (quoP s a) := by
  obtain ⟨r, hr⟩ := quoL_has s a (s.length + 1) (a + 1) [] (by omega) (by omega)
  unfold quoP
  rw [hr]
  rfl
theorem signP_le (l : List UInt8) : signP l ≤ l.length := by
  unfold signP
  split
  · rename_i h
    simp only [Bool.and_eq_true, decide_eq_true_eq] at h
    exact h.1
  · split
    · rename_i h
      cases l with
      | nil => simp [oneP] at h
      | cons c r => simp
    · exact Nat.zero_le _
theorem tokP_ok {s : List UInt8} {i : Nat} {t : Tok} (h : i < s.length) (ht : tokP s i (s[i]).toNat = .ok t) : t.at_ = i ∧ i < t.fin ∧ t.fin ≤ s.length := by
  unfold tokP at ht
  split at ht
  · rename_i hd
    split at ht
    · cases ht
    · cases ht; exact ⟨rfl, spanE_gt h hd, spanE_le (Nat.le_of_lt h)⟩
  · split at ht
    · rename_i hd
      split at ht
      · cases ht
      · cases ht
        refine ⟨rfl, spanE_gt h ?_, spanE_le (Nat.le_of_lt h)⟩
        unfold morN
        simp only [Bool.or_eq_true] at hd ⊢
        rcases hd with hd | hd <;> simp [hd]
    · split at ht
      · split at ht
        · cases ht
        · rename_i he
          cases ht
          have := quoL_to s i _ _ _ _ (quoP_eq s i) (by simpa using he)
          exact ⟨rfl, by show i < (quoP s i).to; omega, this.2⟩
      · split at ht
        · cases ht
        · rename_i h0
          cases ht
          have := signP_le (s.drop i)
          rw [List.length_drop] at this
          exact ⟨rfl, by show i < i + _; omega, by show i + _ ≤ _; omega⟩
theorem scanL_has (s : List UInt8) : ∀ (m i : Nat) (out : List Tok), s.length + 1 ≤ i + m → 0 < m → Has (scanL s m i out)
  | 0, _, _, _, h => absurd h (Nat.lt_irrefl 0)
  | m + 1, i, out, h, _ => by
    unfold scanL
    cases hc : s[i]? with
    | none => exact .one _
    | some c =>
      obtain ⟨hi, hce⟩ := List.getElem?_eq_some_iff.1 hc
      simp only
      split
      · exact scanL_has s m _ _ (by omega) (by omega)
      · split
        · rename_i h37
          have : i < spanE notNl s i := spanE_gt hi (by rw [hce]; simp [notNl, h37])
          exact scanL_has s m _ _ (by omega) (by omega)
        · cases ht : tokP s i c.toNat with
          | error x => exact .one _
          | ok t =>
            have := (tokP_ok hi (by rw [hce]; exact ht)).2.1
            exact scanL_has s m _ _ (by omega) (by omega)
theorem scanP_eq {s : List UInt8} (h : s.length ≤ 16384) : scanL s (s.length + 1) 0 [] = some (scanP s) := by
  obtain ⟨r, hr⟩ := scanL_has s (s.length + 1) 0 [] (by omega) (by omega)
  unfold scanP
  rw [if_neg (by omega), hr]
  rfl
theorem scanL_len (s : List UInt8) : ∀ (m i : Nat) (out : List Tok) (r : SR), scanL s m i out = some r → i ≤ s.length → out.length ≤ i → r.toks.length ≤ s.length
  | 0, _, _, _, h, _, _ => by simp [scanL] at h
  | m + 1, i, out, r, h, hi, ho => by
    unfold scanL at h
    split at h
    · cases h; show out.length ≤ _; omega
    · rename_i c hc
      obtain ⟨hlt, hce⟩ := List.getElem?_eq_some_iff.1 hc
      split at h
      · exact scanL_len s m _ _ r h hlt (by omega)
      · split at h
        · have := spanE_ge notNl s i
          exact scanL_len s m _ _ r h (spanE_le hi) (by omega)
        · split at h
          · cases h; exact Nat.zero_le _
          · rename_i t ht
            have := tokP_ok hlt (by rw [hce]; exact ht)
            exact scanL_len s m _ _ r h this.2.2 (by simp; omega)
theorem scanP_len (s : List UInt8) : (scanP s).toks.length ≤ 16384 := by
  by_cases h : s.length ≤ 16384
  · have := scanL_len s _ _ _ _ (scanP_eq h) (Nat.zero_le _) (Nat.le_refl _)
    omega
  · unfold scanP
    rw [if_pos (by omega)]
    exact Nat.zero_le _
/-- What Expr gives: its tree, the error, its place. -/
def exprP (s : List UInt8) : Option (ND × Int × Int) :=
  ((lang (scanP s).toks s.length (fuelP (scanP s).toks)).expr 0 ⟨0, (scanP s).e, (scanP s).at_⟩).bind fun r =>
    let p := if r.2.i < (scanP s).toks.length then failP (scanP s).toks s.length 110 r.2 else r.2
    some (if p.e ≠ 0 then (.zero, p.e, p.at_) else (r.1, 0, 0))
theorem exprP_has (s : List UInt8) : Has (exprP s) := by
  unfold exprP
  refine ((lang_tot _ _ _).expr _ _ ?_).bind fun _ _ => .one _
  simp only [leftP, fuelP]
  split <;> omega
end Go.Proofs.Ythhindnjnijglaa
