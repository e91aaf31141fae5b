/- Layer 10, the document's scanner in plain functions: a text within a longer one is scanned as it is alone, but for the places. No program is named here. Layer 12: the three texts of the law CheckScopes, as tokens and as programs of one clause. No program is named here. -/
import Derived.Test.YthhindnjnijglaaScA
import Derived.Test.YthhindnjnijglaaChC
namespace Go.Proofs.Ythhindnjnijglaa
section
open Go.RowKit
set_option linter.unusedVariables false

theorem scanL_up (X : List UInt8) : ∀ (m i : Nat) (out : List Tok) (r : SR), scanL X m i out = some r → scanL X (m + 1) i out = some r
  | 0, i, out, r, h => by simp [scanL] at h
  | m + 1, i, out, r, h => by
    unfold scanL at h ⊢
    cases hc : X[i]? with
    | none => rw [hc] at h; exact h
    | some c =>
      rw [hc] at h
      simp only at h ⊢
      split at h
      · rename_i hw
        rw [if_pos hw]
        exact scanL_up X m _ _ _ h
      · rename_i hw
        rw [if_neg hw]
        split at h
        · rename_i h37
          rw [if_pos h37]
          exact scanL_up X m _ _ _ h
        · rename_i h37
          rw [if_neg h37]
          cases ht : tokP X i c.toNat with
          | error x => rw [ht] at h; exact h
          | ok t => rw [ht] at h; exact scanL_up X m _ _ _ h
theorem scanL_more {X : List UInt8} {m n i : Nat} {out : List Tok} {r : SR} (h : scanL X m i out = some r) (hmn : m ≤ n) : scanL X n i out = some r := by
  induction n with
  | zero => obtain rfl : m = 0 := by omega
            exact h
  | succ n ih =>
    by_cases hm : m = n + 1
    · subst hm; exact h
    · exact scanL_up X n _ _ _ (ih (by omega))
/-- From a place on the text is scanned so. -/
def Scans (X : List UInt8) (i : Nat) (out : List Tok) (r : SR) : Prop := ∃ m, scanL X m i out = some r
theorem scanP_of {X : List UInt8} {r : SR} (hl : X.length ≤ 16384) (h : Scans X 0 [] r) : scanP X = r := by
  obtain ⟨m, hm⟩ := h
  have h1 := scanP_eq hl
  have h2 := scanL_more h1 (Nat.le_max_left (X.length + 1) m)
  have h3 := scanL_more hm (Nat.le_max_right (X.length + 1) m)
  rw [h2] at h3
  exact Option.some.inj h3
theorem Scans.end_ {X : List UInt8} {i : Nat} (out : List Tok) (h : X.length ≤ i) : Scans X i out ⟨out, 0, 0⟩ := ⟨1, by
  unfold scanL
  rw [List.getElem?_eq_none h]⟩
theorem Scans.ws {X : List UInt8} {i : Nat} {out : List Tok} {r : SR} {c : UInt8} (hc : X[i]? = some c) (hw : wsN c.toNat = true) (h : Scans X (i + 1) out r) : Scans X i out r := by
  obtain ⟨m, hm⟩ := h
  refine ⟨m + 1, ?_⟩
  unfold scanL
  rw [hc]
  simp only
  rw [if_pos hw]
  exact hm
def Tok.sh (d : Nat) (t : Tok) : Tok := ⟨t.kind, t.int, t.text, d + t.at_, d + t.fin⟩

/-- What stands behind a text does not go on with its last token. -/
structure StopB (A B : List UInt8) : Prop where
  dig : ∀ c ∈ B.head?, digN c.toNat = false
  mor : ∀ c ∈ B.head?, morN c.toNat = false
  sgn : ∀ c ∈ B.head?, c ≠ 60 ∧ c ≠ 61 ∧ c ≠ 62
  com : (∀ c ∈ B.head?, c = 10) ∨ (37 : UInt8) ∉ A
section
variable {P A B : List UInt8} {i : Nat}
theorem win_drop (hi : i ≤ A.length) : (P ++ (A ++ B)).drop (P.length + i) = A.drop i ++ B := by
  rw [List.drop_append, List.drop_eq_nil_of_le (by omega), List.nil_append, Nat.add_sub_cancel_left, List.drop_append_of_le_length hi]
theorem win_get (hi : i < A.length) : (P ++ (A ++ B))[P.length + i]? = A[i]? := by
  rw [List.getElem?_append_right (by omega), Nat.add_sub_cancel_left, List.getElem?_append_left hi]
theorem take_stop (p : UInt8 → Bool) (hB : ∀ c ∈ B.head?, p c = false) (l : List UInt8) : (l ++ B).takeWhile p = l.takeWhile p := by
  induction l with
  | nil =>
    cases B with
    | nil => rfl
    | cons b r => simp [hB b rfl]
  | cons c r ih =>
    rw [List.cons_append, List.takeWhile_cons, List.takeWhile_cons, ih]
theorem win_span {p : Nat → Bool} (hB : ∀ c ∈ B.head?, p c.toNat = false) (hi : i ≤ A.length) : spanE p (P ++ (A ++ B)) (P.length + i) = P.length + spanE p A i := by
  unfold spanE
  rw [win_drop hi, take_stop (fun c => p c.toNat) hB, Nat.add_assoc]
theorem win_cut {j : Nat} (hi : i ≤ A.length) (hj : j ≤ A.length) : cutB (P ++ (A ++ B)) (P.length + i) (P.length + j) = cutB A i j := by
  unfold cutB
  rw [win_drop hi, Nat.add_sub_add_left, List.take_append_of_le_length (by rw [List.length_drop]; omega)]
theorem win_hex (hi : i < A.length) : hexB (P ++ (A ++ B)) (P.length + i) = hexB A i := by
  unfold hexB
  rw [win_get hi]
theorem win_sign (hB : ∀ c ∈ B.head?, c ≠ 60 ∧ c ≠ 61 ∧ c ≠ 62) (l : List UInt8) (hl : l ≠ []) : signP (l ++ B) = signP l := by
  match l, hl with
  | [c], _ =>
    cases B with
    | nil => rfl
    | cons b r =>
      obtain ⟨h1, h2, h3⟩ := hB b rfl
      have hn : twoW.any (fun w => w == [c, b]) = false := by
        simp only [twoW, List.any_cons, List.any_nil, Bool.or_false, Bool.or_eq_false_iff, beq_eq_false_iff_ne, ne_eq, List.cons.injEq, and_true, not_and]
        exact ⟨fun _ e => h3 e.symm, fun _ e => h2 e.symm, fun _ e => h2 e.symm, fun _ e => h1 e.symm, fun _ e => h2 e.symm⟩
      unfold signP
      simp only [List.cons_append, List.nil_append, List.take_succ_cons, List.take_zero, hn, Bool.and_false, Bool.false_eq_true, if_false, List.length_cons, List.length_nil]
      simp [oneP]
  | c :: d :: r, _ =>
    unfold signP
    simp [oneP]
theorem quoL_win (a a' : Nat) : ∀ (m i : Nat) (b : List UInt8) (r : QR), quoL A a m i b = some r → r.e = 0 → ∀ m', m ≤ m' → quoL (P ++ (A ++ B)) a' m' (P.length + i) b = some ⟨r.name, P.length + r.to, 0, 0⟩
  | 0, i, b, r, h, _, _, _ => by simp [quoL] at h
  | m + 1, i, b, r, h, he, 0, hm => absurd hm (by omega)
  | m + 1, i, b, r, h, he, m' + 1, hm => by
    unfold quoL at h ⊢
    cases hc : A[i]? with
    | none => rw [hc] at h; cases h; simp [QR.bad] at he
    | some c =>
      have hi := (List.getElem?_eq_some_iff.1 hc).1
      rw [hc] at h
      rw [win_get hi, hc]
      simp only at h ⊢
      split at h
      · rename_i h39
        rw [if_pos h39]
        split at h
        · cases h; simp [QR.bad] at he
        · rename_i hb
          cases h
          rw [if_neg hb]
          rfl
      rename_i h39
      rw [if_neg h39]
      split at h
      · rename_i h92
        rw [if_pos h92]
        cases hd : A[i + 1]? with
        | none => rw [hd] at h; cases h; simp [QR.bad] at he
        | some e =>
          have hi1 := (List.getElem?_eq_some_iff.1 hd).1
          rw [hd] at h
          rw [Nat.add_assoc, win_get hi1, hd]
          simp only at h ⊢
          split at h
          · rename_i h1
            rw [if_pos h1]
            exact quoL_win a a' m _ _ r h he m' (by omega)
          rename_i h1
          rw [if_neg h1]
          split at h
          · rename_i h2
            simp only [Nat.add_assoc]
            rw [win_hex (i := i + 2) (by omega), win_hex (i := i + 3) (by omega), if_pos ⟨h2.1, by simp only [List.length_append]; omega, h2.2.2.1, h2.2.2.2⟩]
            exact quoL_win a a' m _ _ r h he m' (by omega)
          · cases h; simp [QR.bad] at he
      rename_i h92
      rw [if_neg h92]
      split at h
      · cases h; simp [QR.bad] at he
      rename_i hr
      rw [if_neg hr, Nat.add_assoc]
      exact quoL_win a a' m _ _ r h he m' (by omega)
theorem quoP_win (he : (quoP A i).e = 0) : quoP (P ++ (A ++ B)) (P.length + i) = ⟨(quoP A i).name, P.length + (quoP A i).to, 0, 0⟩ := by
  have h := quoL_win (P := P) (B := B) i (P.length + i) _ _ _ _ (quoP_eq A i) he ((P ++ (A ++ B)).length + 1) (by simp only [List.length_append]; omega)
  have h2 := quoP_eq (P ++ (A ++ B)) (P.length + i)
  rw [Nat.add_assoc] at h2
  rw [h2] at h
  exact Option.some.inj h
theorem tokP_win (hS : StopB A B) (hi : i < A.length) {t : Tok} (h : tokP A i (A[i]).toNat = .ok t) : tokP (P ++ (A ++ B)) (P.length + i) (A[i]).toNat = .ok (t.sh P.length) := by
  have hle := Nat.le_of_lt hi
  unfold tokP at h ⊢
  split at h
  · rename_i hd
    rw [if_pos hd, win_span hS.dig hle, win_cut hle (spanE_le hle)]
    split at h
    · cases h
    · rename_i n hn
      cases h
      simp only [Tok.sh]
  rename_i hd
  rw [if_neg hd]
  split at h
  · rename_i hs
    rw [if_pos hs, win_span hS.mor hle, win_cut hle (spanE_le hle)]
    split at h
    · cases h
    · rename_i hn
      cases h
      rw [if_neg hn]
      simp only [Tok.sh]
  rename_i hs
  rw [if_neg hs]
  split at h
  · rename_i hq
    rw [if_pos hq]
    split at h
    · cases h
    · rename_i he
      cases h
      have he : (quoP A i).e = 0 := by simpa using he
      rw [quoP_win he, if_neg (by simp)]
      simp only [Tok.sh]
  rename_i hq
  rw [if_neg hq, win_drop hle, win_sign hS.sgn _ (by rw [ne_eq, List.drop_eq_nil_iff]; omega)]
  split at h
  · cases h
  · rename_i hn
    cases h
    have h9 := signP_le (A.drop i)
    rw [List.length_drop] at h9
    rw [if_neg hn, Nat.add_assoc, win_cut hle (by omega)]
    simp only [Tok.sh]
theorem scan_win (hS : StopB A B) : ∀ (m i : Nat) (out : List Tok) (r : SR), scanL A m i out = some r → r.e = 0 → i ≤ A.length →
    ∃ new, r.toks = out ++ new ∧ ∀ out' r', Scans (P ++ (A ++ B)) (P.length + A.length) (out' ++ new.map (Tok.sh P.length)) r' → Scans (P ++ (A ++ B)) (P.length + i) out' r'
  | 0, i, out, r, h, _, _ => by simp [scanL] at h
  | m + 1, i, out, r, h, he, hi => by
    unfold scanL at h
    cases hc : A[i]? with
    | none =>
      rw [hc] at h
      cases h
      have := List.getElem?_eq_none_iff.1 hc
      obtain rfl : i = A.length := by omega
      exact ⟨[], by simp, fun out' r' h => by simpa using h⟩
    | some c =>
      obtain ⟨hlt, hce⟩ := List.getElem?_eq_some_iff.1 hc
      rw [hc] at h
      simp only at h
      split at h
      · rename_i hw
        obtain ⟨new, h1, h2⟩ := scan_win hS m (i + 1) out r h he hlt
        exact ⟨new, h1, fun out' r' h3 => Scans.ws ((win_get hlt).trans hc) hw (h2 out' r' h3)⟩
      rename_i hw
      split at h
      · rename_i h37
        have hB : ∀ c ∈ B.head?, notNl c.toNat = false := by
          rcases hS.com with hB | hB
          · intro c hc
            rw [hB c hc]
            rfl
          · exact absurd (by
              have : c = 37 := by
                have h9 : c.toNat = (37 : UInt8).toNat := h37
                exact UInt8.toNat_inj.1 h9
              rw [← this]
              exact List.mem_of_getElem? hc) hB
        obtain ⟨new, h1, h2⟩ := scan_win hS m (spanE notNl A i) out r h he (spanE_le hi)
        refine ⟨new, h1, fun out' r' h3 => ?_⟩
        obtain ⟨n, hn⟩ := h2 out' r' h3
        refine ⟨n + 1, ?_⟩
        unfold scanL
        rw [win_get hlt, hc]
        simp only
        rw [if_neg hw, if_pos h37, win_span hB hi]
        exact hn
      rename_i h37
      cases ht : tokP A i c.toNat with
      | error x => rw [ht] at h; cases h; exact absurd he (by
          intro h0
          have : ∀ (X : List UInt8) (i c : Nat) (x : Int × Nat), tokP X i c = .error x → x.1 ≠ 0 := by
            intro X i c x hx
            unfold tokP at hx
            split at hx
            · split at hx
              · cases hx; simp
              · cases hx
            split at hx
            · split at hx
              · cases hx; simp
              · cases hx
            split at hx
            · split at hx
              · rename_i hq
                cases hx
                simpa using hq
              · cases hx
            split at hx
            · cases hx; simp
            · cases hx
          exact this _ _ _ _ ht h0)
      | ok t =>
        rw [ht] at h
        simp only at h
        have hok := tokP_ok hlt (by rw [hce]; exact ht)
        obtain ⟨new, h1, h2⟩ := scan_win hS m t.fin (out ++ [t]) r h he hok.2.2
        refine ⟨t :: new, by rw [h1]; simp, fun out' r' h3 => ?_⟩
        obtain ⟨n, hn⟩ := h2 (out' ++ [t.sh P.length]) r' (by simpa using h3)
        refine ⟨n + 1, ?_⟩
        unfold scanL
        rw [win_get hlt, hc]
        simp only
        have hw2 := tokP_win (P := P) hS hlt (t := t) (by rw [hce]; exact ht)
        rw [hce] at hw2
        rw [if_neg hw, if_neg h37, hw2]
        exact hn
/-- A text that is scanned well, within a longer one. -/
theorem Scans.win (hS : StopB A B) (hl : A.length ≤ 16384) (he : (scanP A).e = 0) {out' : List Tok} {r' : SR} (h : Scans (P ++ (A ++ B)) (P.length + A.length) (out' ++ (scanP A).toks.map (Tok.sh P.length)) r') : Scans (P ++ (A ++ B)) P.length out' r' := by
  obtain ⟨new, h1, h2⟩ := scan_win (P := P) hS _ _ _ _ (scanP_eq hl) he (Nat.zero_le _)
  have h3 := h2 out' r'
  rw [Nat.add_zero] at h3
  refine h3 ?_
  rw [h1, List.nil_append] at h
  exact h
end
end
section
open Go.RowKit
set_option linter.unusedVariables false

/-! ### scanning, piece by piece -/
theorem Scans.piece {X P A B : List UInt8} {i j : Nat} {out : List Tok} {r : SR} (hX : X = P ++ (A ++ B)) (hi : i = P.length) (hj : j = i + A.length) (hS : StopB A B) (hl : A.length ≤ 16384) (he : (scanP A).e = 0) (h : Scans X j (out ++ (scanP A).toks.map (Tok.sh i)) r) : Scans X i out r := by
  subst hX hi hj
  exact Scans.win hS hl he h
theorem stop_ws {A B : List UInt8} {b : UInt8} (hb : b = 32 ∨ b = 10 ∨ b = 46) (hA : b = 10 ∨ (37 : UInt8) ∉ A) : StopB A (b :: B) := by
  refine ⟨?_, ?_, ?_, ?_⟩
  · intro c hc
    obtain rfl : b = c := by simpa using hc
    rcases hb with rfl | rfl | rfl <;> rfl
  · intro c hc
    obtain rfl : b = c := by simpa using hc
    rcases hb with rfl | rfl | rfl <;> rfl
  · intro c hc
    obtain rfl : b = c := by simpa using hc
    rcases hb with rfl | rfl | rfl <;> decide
  · rcases hA with hA | hA
    · exact .inl fun c hc => by
        obtain rfl : b = c := by simpa using hc
        exact hA
    · exact .inr hA
theorem stop_end (A : List UInt8) : StopB A [] := ⟨fun c hc => (by simp at hc), fun c hc => (by simp at hc), fun c hc => (by simp at hc), .inl fun c hc => (by simp at hc)⟩
/-- A variable's name. -/
structure VName (w : List UInt8) : Prop where
  len : w.length ≤ 20
  first : ∃ c r, w = c :: r ∧ 65 ≤ c.toNat ∧ c.toNat ≤ 90
  all : ∀ c ∈ w, morN c.toNat = true
  noc : (37 : UInt8) ∉ w
theorem take_all {p : UInt8 → Bool} : ∀ {l : List UInt8}, (∀ x ∈ l, p x = true) → l.takeWhile p = l
  | [], _ => rfl
  | x :: r, h => by
    rw [List.takeWhile_cons, if_pos (h x (by simp)), take_all (fun y hy => h y (by simp [hy]))]
theorem VName.scan {w : List UInt8} (h : VName w) : scanP w = ⟨[⟨3, 0, w, 0, w.length⟩], 0, 0⟩ := by
  have hl := h.len
  obtain ⟨c, r, hw, h1, h2⟩ := h.first
  refine scanP_of (by omega) ⟨2, ?_⟩
  have hsp : spanE morN w 0 = w.length := by
    unfold spanE
    rw [List.drop_zero, take_all (fun x hx => h.all x hx), Nat.zero_add]
  have hcut : cutB w 0 w.length = w := by
    unfold cutB
    simp
  have h0 : w[0]? = some c := by rw [hw]; rfl
  have hlen : w[w.length]? = none := List.getElem?_eq_none (Nat.le_refl _)
  have t1 : wsN c.toNat = false := by unfold wsN; simp; omega
  have t2 : digN c.toNat = false := by unfold digN; simp; omega
  have t3 : greN c.toNat = true := by unfold greN; simp; omega
  have ht : tokP w 0 c.toNat = .ok ⟨3, 0, w, 0, w.length⟩ := by
    unfold tokP
    rw [t2, t3, hsp, hcut]
    simp only [Bool.false_eq_true, if_false, Bool.or_true, if_true]
    rw [if_neg (by omega)]
  unfold scanL
  rw [h0]
  simp only
  rw [t1, ht, if_neg (by simp), if_neg (by omega)]
  simp only [List.nil_append]
  unfold scanL
  rw [hlen]

/-- A token but for its place. -/
def tk (t : Tok) : Int × Int × List UInt8 := (t.kind, t.int, t.text)
theorem tk_sh (d : Nat) (t : Tok) : tk (t.sh d) = tk t := rfl
/-- From a place on these tokens stand there, to the end. -/
def Sck (X : List UInt8) (i : Nat) (L : List (Int × Int × List UInt8)) : Prop := ∀ out, ∃ ts, ts.map tk = L ∧ Scans X i out ⟨out ++ ts, 0, 0⟩
theorem Sck.end_ {X : List UInt8} {i : Nat} (h : X.length ≤ i) : Sck X i [] := fun out => ⟨[], rfl, by rw [List.append_nil]; exact Scans.end_ out h⟩
theorem Sck.ws {X P B : List UInt8} {i : Nat} {L : List (Int × Int × List UInt8)} {c : UInt8} (hX : X = P ++ c :: B) (hi : i = P.length) (hw : wsN c.toNat = true) (h : Sck X (i + 1) L) : Sck X i L := fun out => by
  obtain ⟨ts, h1, h2⟩ := h out
  exact ⟨ts, h1, Scans.ws (by subst hX hi; simp) hw h2⟩
theorem Sck.piece {X P A B : List UInt8} {i j : Nat} {K L : List (Int × Int × List UInt8)} (hX : X = P ++ (A ++ B)) (hi : i = P.length) (hj : j = i + A.length) (hS : StopB A B) (hl : A.length ≤ 16384) (he : (scanP A).e = 0) (hK : (scanP A).toks.map tk = K) (h : Sck X j L) : Sck X i (K ++ L) := fun out => by
  obtain ⟨ts, h1, h2⟩ := h (out ++ (scanP A).toks.map (Tok.sh i))
  refine ⟨(scanP A).toks.map (Tok.sh i) ++ ts, ?_, Scans.piece hX hi hj hS hl he (by rw [← List.append_assoc]; exact h2)⟩
  rw [List.map_append, List.map_map, h1, ← hK]
  rfl
theorem Sck.all {X : List UInt8} {L : List (Int × Int × List UInt8)} (h : Sck X 0 L) (hl : X.length ≤ 16384) : ∃ ts, scanP X = ⟨ts, 0, 0⟩ ∧ ts.map tk = L := by
  obtain ⟨ts, h1, h2⟩ := h []
  exact ⟨ts, scanP_of hl h2, h1⟩

def lMain : List UInt8 := [109, 97, 105, 110, 40, 41, 32, 45, 62]
def kMain : List UInt8 := [109, 97, 105, 110]
abbrev K3 := Int × Int × List UInt8
abbrev sg (w : List UInt8) : K3 := (5, 0, w)
abbrev wd (w : List UInt8) : K3 := (4, 0, w)
abbrev vr (w : List UInt8) : K3 := (3, 0, w)
abbrev nu (n : Int) : K3 := (1, n, [])
def kHd : List K3 := [(2, 0, kMain), sg sOpen, sg sShut, sg sArrow]
theorem no37_main : (37 : UInt8) ∉ lMain := by decide
def xA (s : List UInt8) : List UInt8 := lMain ++ (32 :: (s ++ [10, 46]))
def xB (s w : List UInt8) : List UInt8 := lMain ++ (32 :: (w ++ (32 :: ([61, 32, 49, 44] ++ (32 :: (s ++ (10 :: ([44] ++ (32 :: (w ++ [46]))))))))))
def xC (s w : List UInt8) : List UInt8 := lMain ++ (32 :: ([99, 97, 115, 101, 32, 49, 32, 111, 102] ++ (32 :: (w ++ (32 :: ([45, 62] ++ (32 :: (w ++ (32 :: ([101, 110, 100, 44] ++ (32 :: (s ++ (10 :: ([44] ++ (32 :: (w ++ [46]))))))))))))))))
section
variable {s w : List UInt8}
theorem scan_a (hs : s.length ≤ 1000) (he : (scanP s).e = 0) : ∃ ts, scanP (xA s) = ⟨ts, 0, 0⟩ ∧ ts.map tk = kHd ++ ((scanP s).toks.map tk ++ [sg sDot]) := by
  refine Sck.all ?_ (by simp [xA, lMain]; omega)
  refine Sck.piece (P := []) (A := lMain) (B := 32 :: (s ++ [10, 46])) rfl rfl rfl (stop_ws (.inl rfl) (.inr no37_main)) (by decide) rfl rfl ?_
  refine Sck.ws (c := 32) (P := lMain) rfl rfl rfl ?_
  refine Sck.piece (P := lMain ++ [32]) (A := s) (B := [10, 46]) (by simp [xA]) rfl rfl (stop_ws (.inr (.inl rfl)) (.inl rfl)) (by omega) he rfl ?_
  refine Sck.ws (c := 10) (P := lMain ++ (32 :: s)) (B := [46]) (by simp [xA]) (by simp [lMain]; omega) rfl ?_
  refine Sck.piece (P := lMain ++ (32 :: (s ++ [10]))) (A := [46]) (B := []) (K := [sg sDot]) (by simp [xA]) (by simp [lMain]; omega) rfl (stop_end _) (by decide) rfl rfl ?_
  exact Sck.end_ (by simp [xA, lMain]; omega)
theorem scan_b (hs : s.length ≤ 1000) (he : (scanP s).e = 0) (hw : VName w) : ∃ ts, scanP (xB s w) = ⟨ts, 0, 0⟩ ∧ ts.map tk = kHd ++ ([vr w, sg sEq, nu 1] ++ (sg sComma :: ((scanP s).toks.map tk ++ (sg sComma :: ([vr w] ++ [sg sDot]))))) := by
  have hwl := hw.len
  have hwe : (scanP w).e = 0 := by rw [hw.scan]
  have hwk : (scanP w).toks.map tk = [vr w] := by rw [hw.scan]; rfl
  refine Sck.all ?_ (by simp [xB, lMain]; omega)
  refine Sck.piece (P := []) (A := lMain) (B := _) rfl rfl rfl (stop_ws (.inl rfl) (.inr no37_main)) (by decide) rfl rfl ?_
  refine Sck.ws (c := 32) (P := lMain) rfl rfl rfl ?_
  refine Sck.piece (P := lMain ++ [32]) (A := w) (B := 32 :: ([61, 32, 49, 44] ++ (32 :: (s ++ (10 :: ([44] ++ (32 :: (w ++ [46])))))))) (K := [vr w]) (by simp [xB]) rfl rfl (stop_ws (.inl rfl) (.inr hw.noc)) (by omega) hwe hwk ?_
  refine Sck.ws (c := 32) (P := lMain ++ (32 :: w)) (B := [61, 32, 49, 44] ++ (32 :: (s ++ (10 :: ([44] ++ (32 :: (w ++ [46]))))))) (by simp [xB]) (by simp [lMain]; omega) rfl ?_
  refine Sck.piece (P := lMain ++ (32 :: (w ++ [32]))) (A := [61, 32, 49, 44]) (B := 32 :: (s ++ (10 :: ([44] ++ (32 :: (w ++ [46])))))) (K := [sg sEq, nu 1, sg sComma]) (by simp [xB]) (by simp [lMain]; omega) rfl (stop_ws (.inl rfl) (.inr (by decide))) (by decide) rfl rfl ?_
  refine Sck.ws (c := 32) (P := lMain ++ (32 :: (w ++ (32 :: [61, 32, 49, 44])))) (B := s ++ (10 :: ([44] ++ (32 :: (w ++ [46]))))) (by simp [xB]) (by simp [lMain]; omega) rfl ?_
  refine Sck.piece (P := lMain ++ (32 :: (w ++ (32 :: ([61, 32, 49, 44] ++ [32]))))) (A := s) (B := 10 :: ([44] ++ (32 :: (w ++ [46])))) (by simp [xB]) (by simp [lMain]; omega) rfl (stop_ws (.inr (.inl rfl)) (.inl rfl)) (by omega) he rfl ?_
  refine Sck.ws (c := 10) (P := lMain ++ (32 :: (w ++ (32 :: ([61, 32, 49, 44] ++ (32 :: s)))))) (B := [44] ++ (32 :: (w ++ [46]))) (by simp [xB]) (by simp [lMain]; omega) rfl ?_
  refine Sck.piece (P := lMain ++ (32 :: (w ++ (32 :: ([61, 32, 49, 44] ++ (32 :: (s ++ [10]))))))) (A := [44]) (B := 32 :: (w ++ [46])) (K := [sg sComma]) (by simp [xB]) (by simp [lMain]; omega) rfl (stop_ws (.inl rfl) (.inr (by decide))) (by decide) rfl rfl ?_
  refine Sck.ws (c := 32) (P := lMain ++ (32 :: (w ++ (32 :: ([61, 32, 49, 44] ++ (32 :: (s ++ (10 :: [44])))))))) (B := w ++ [46]) (by simp [xB]) (by simp [lMain]; omega) rfl ?_
  refine Sck.piece (P := lMain ++ (32 :: (w ++ (32 :: ([61, 32, 49, 44] ++ (32 :: (s ++ (10 :: ([44] ++ [32]))))))))) (A := w) (B := [46]) (K := [vr w]) (by simp [xB]) (by simp [lMain]; omega) rfl (stop_ws (.inr (.inr rfl)) (.inr hw.noc)) (by omega) hwe hwk ?_
  refine Sck.piece (P := lMain ++ (32 :: (w ++ (32 :: ([61, 32, 49, 44] ++ (32 :: (s ++ (10 :: ([44] ++ (32 :: w)))))))))) (A := [46]) (B := []) (K := [sg sDot]) (by simp [xB]) (by simp [lMain]; omega) rfl (stop_end _) (by decide) rfl rfl ?_
  exact Sck.end_ (by simp [xB, lMain]; omega)
theorem scan_c (hs : s.length ≤ 1000) (he : (scanP s).e = 0) (hw : VName w) : ∃ ts, scanP (xC s w) = ⟨ts, 0, 0⟩ ∧ ts.map tk = kHd ++ ([wd sCase, nu 1, wd sOf, vr w, sg sArrow, vr w, wd sEnd] ++ (sg sComma :: ((scanP s).toks.map tk ++ (sg sComma :: ([vr w] ++ [sg sDot]))))) := by
  have hwl := hw.len
  have hwe : (scanP w).e = 0 := by rw [hw.scan]
  have hwk : (scanP w).toks.map tk = [vr w] := by rw [hw.scan]; rfl
  refine Sck.all ?_ (by simp [xC, lMain]; omega)
  refine Sck.piece (P := []) (A := lMain) (B := _) rfl rfl rfl (stop_ws (.inl rfl) (.inr no37_main)) (by decide) rfl rfl ?_
  refine Sck.ws (c := 32) (P := lMain) rfl rfl rfl ?_
  refine Sck.piece (P := lMain ++ [32]) (A := [99, 97, 115, 101, 32, 49, 32, 111, 102]) (B := 32 :: (w ++ (32 :: ([45, 62] ++ (32 :: (w ++ (32 :: ([101, 110, 100, 44] ++ (32 :: (s ++ (10 :: ([44] ++ (32 :: (w ++ [46])))))))))))))) (K := [wd sCase, nu 1, wd sOf]) (by simp [xC]) rfl rfl (stop_ws (.inl rfl) (.inr (by decide))) (by decide) rfl rfl ?_
  refine Sck.ws (c := 32) (P := lMain ++ (32 :: [99, 97, 115, 101, 32, 49, 32, 111, 102])) (B := w ++ (32 :: ([45, 62] ++ (32 :: (w ++ (32 :: ([101, 110, 100, 44] ++ (32 :: (s ++ (10 :: ([44] ++ (32 :: (w ++ [46])))))))))))) ) (by simp [xC]) rfl rfl ?_
  refine Sck.piece (P := lMain ++ (32 :: ([99, 97, 115, 101, 32, 49, 32, 111, 102] ++ [32]))) (A := w) (B := 32 :: ([45, 62] ++ (32 :: (w ++ (32 :: ([101, 110, 100, 44] ++ (32 :: (s ++ (10 :: ([44] ++ (32 :: (w ++ [46])))))))))))) (K := [vr w]) (by simp [xC]) rfl rfl (stop_ws (.inl rfl) (.inr hw.noc)) (by omega) hwe hwk ?_
  refine Sck.ws (c := 32) (P := lMain ++ (32 :: ([99, 97, 115, 101, 32, 49, 32, 111, 102] ++ (32 :: w)))) (B := [45, 62] ++ (32 :: (w ++ (32 :: ([101, 110, 100, 44] ++ (32 :: (s ++ (10 :: ([44] ++ (32 :: (w ++ [46]))))))))))) (by simp [xC]) (by simp [lMain]; omega) rfl ?_
  refine Sck.piece (P := lMain ++ (32 :: ([99, 97, 115, 101, 32, 49, 32, 111, 102] ++ (32 :: (w ++ [32]))))) (A := [45, 62]) (B := 32 :: (w ++ (32 :: ([101, 110, 100, 44] ++ (32 :: (s ++ (10 :: ([44] ++ (32 :: (w ++ [46])))))))))) (K := [sg sArrow]) (by simp [xC]) (by simp [lMain]; omega) rfl (stop_ws (.inl rfl) (.inr (by decide))) (by decide) rfl rfl ?_
  refine Sck.ws (c := 32) (P := lMain ++ (32 :: ([99, 97, 115, 101, 32, 49, 32, 111, 102] ++ (32 :: (w ++ (32 :: [45, 62])))))) (B := w ++ (32 :: ([101, 110, 100, 44] ++ (32 :: (s ++ (10 :: ([44] ++ (32 :: (w ++ [46]))))))))) (by simp [xC]) (by simp [lMain]; omega) rfl ?_
  refine Sck.piece (P := lMain ++ (32 :: ([99, 97, 115, 101, 32, 49, 32, 111, 102] ++ (32 :: (w ++ (32 :: ([45, 62] ++ [32]))))))) (A := w) (B := 32 :: ([101, 110, 100, 44] ++ (32 :: (s ++ (10 :: ([44] ++ (32 :: (w ++ [46])))))))) (K := [vr w]) (by simp [xC]) (by simp [lMain]; omega) rfl (stop_ws (.inl rfl) (.inr hw.noc)) (by omega) hwe hwk ?_
  refine Sck.ws (c := 32) (P := lMain ++ (32 :: ([99, 97, 115, 101, 32, 49, 32, 111, 102] ++ (32 :: (w ++ (32 :: ([45, 62] ++ (32 :: w)))))))) (B := [101, 110, 100, 44] ++ (32 :: (s ++ (10 :: ([44] ++ (32 :: (w ++ [46]))))))) (by simp [xC]) (by simp [lMain]; omega) rfl ?_
  refine Sck.piece (P := lMain ++ (32 :: ([99, 97, 115, 101, 32, 49, 32, 111, 102] ++ (32 :: (w ++ (32 :: ([45, 62] ++ (32 :: (w ++ [32]))))))))) (A := [101, 110, 100, 44]) (B := 32 :: (s ++ (10 :: ([44] ++ (32 :: (w ++ [46])))))) (K := [wd sEnd, sg sComma]) (by simp [xC]) (by simp [lMain]; omega) rfl (stop_ws (.inl rfl) (.inr (by decide))) (by decide) rfl rfl ?_
  refine Sck.ws (c := 32) (P := lMain ++ (32 :: ([99, 97, 115, 101, 32, 49, 32, 111, 102] ++ (32 :: (w ++ (32 :: ([45, 62] ++ (32 :: (w ++ (32 :: [101, 110, 100, 44])))))))))) (B := s ++ (10 :: ([44] ++ (32 :: (w ++ [46]))))) (by simp [xC]) (by simp [lMain]; omega) rfl ?_
  refine Sck.piece (P := lMain ++ (32 :: ([99, 97, 115, 101, 32, 49, 32, 111, 102] ++ (32 :: (w ++ (32 :: ([45, 62] ++ (32 :: (w ++ (32 :: ([101, 110, 100, 44] ++ [32]))))))))))) (A := s) (B := 10 :: ([44] ++ (32 :: (w ++ [46])))) (by simp [xC]) (by simp [lMain]; omega) rfl (stop_ws (.inr (.inl rfl)) (.inl rfl)) (by omega) he rfl ?_
  refine Sck.ws (c := 10) (P := lMain ++ (32 :: ([99, 97, 115, 101, 32, 49, 32, 111, 102] ++ (32 :: (w ++ (32 :: ([45, 62] ++ (32 :: (w ++ (32 :: ([101, 110, 100, 44] ++ (32 :: s)))))))))))) (B := [44] ++ (32 :: (w ++ [46]))) (by simp [xC]) (by simp [lMain]; omega) rfl ?_
  refine Sck.piece (P := lMain ++ (32 :: ([99, 97, 115, 101, 32, 49, 32, 111, 102] ++ (32 :: (w ++ (32 :: ([45, 62] ++ (32 :: (w ++ (32 :: ([101, 110, 100, 44] ++ (32 :: (s ++ [10]))))))))))))) (A := [44]) (B := 32 :: (w ++ [46])) (K := [sg sComma]) (by simp [xC]) (by simp [lMain]; omega) rfl (stop_ws (.inl rfl) (.inr (by decide))) (by decide) rfl rfl ?_
  refine Sck.ws (c := 32) (P := lMain ++ (32 :: ([99, 97, 115, 101, 32, 49, 32, 111, 102] ++ (32 :: (w ++ (32 :: ([45, 62] ++ (32 :: (w ++ (32 :: ([101, 110, 100, 44] ++ (32 :: (s ++ (10 :: [44])))))))))))))) (B := w ++ [46]) (by simp [xC]) (by simp [lMain]; omega) rfl ?_
  refine Sck.piece (P := lMain ++ (32 :: ([99, 97, 115, 101, 32, 49, 32, 111, 102] ++ (32 :: (w ++ (32 :: ([45, 62] ++ (32 :: (w ++ (32 :: ([101, 110, 100, 44] ++ (32 :: (s ++ (10 :: ([44] ++ [32]))))))))))))))) (A := w) (B := [46]) (K := [vr w]) (by simp [xC]) (by simp [lMain]; omega) rfl (stop_ws (.inr (.inr rfl)) (.inr hw.noc)) (by omega) hwe hwk ?_
  refine Sck.piece (P := lMain ++ (32 :: ([99, 97, 115, 101, 32, 49, 32, 111, 102] ++ (32 :: (w ++ (32 :: ([45, 62] ++ (32 :: (w ++ (32 :: ([101, 110, 100, 44] ++ (32 :: (s ++ (10 :: ([44] ++ (32 :: w)))))))))))))))) (A := [46]) (B := []) (K := [sg sDot]) (by simp [xC]) (by simp [lMain]; omega) rfl (stop_end _) (by decide) rfl rfl ?_
  exact Sck.end_ (by simp [xC, lMain]; omega)
end
end
end Go.Proofs.Ythhindnjnijglaa
