/- Names (layer 19): both sides of the play: the program's names and the document's. -/
import Derived.Test.YtfkolemkmhcbfaaNaT
import Derived.Test.YtfkolemkmhcbfaaNOnceW
namespace Go.Proofs.Ytfkolemkmhcbfaa
open Go.RowKit Go.Maps Go.WideMaps
set_option linter.unusedVariables false

theorem own_fr {F : Nat → Prop} {W W' : World} {base e size n : Nat} {v : Value} {xs : List Value} (h : W.ownsRow base e size v n xs) (hf : Fr F W W') (hF : ∀ k, v.ownBlock = some k → ¬ F k) : W'.ownsRow base e size v n xs := by
  rcases h.2 with hn | ⟨g, cap', cur, hv, hb, hh, rest⟩
  · exact ⟨h.1, .inl hn⟩
  · have hg := h.lt g (by rw [hv]; rfl)
    exact ⟨h.1, .inr ⟨g, cap', cur, hv, hb, (hf.block g hg.2 (hF g (by rw [hv]; rfl))).trans hh, rest⟩⟩
theorem blk_ne {V : World} {g g' t t' : Nat} {cs cs' : Array Value} (h : Blk V g t cs) (h' : Blk V g' t' cs') (ht : t ≠ t') : g ≠ g' := by
  rintro rfl
  unfold Blk at h h'
  rw [h] at h'
  injection h' with h'
  injection h' with _ h9
  exact ht h9
section
variable {w W W' V V' : World} {B pn b1 b2 pr ga : Nat} {A : Option Addr} {cap : Nat} {L L' L2 : NL} {F : Nat → Prop} {a : ActN}
theorem NmAt.fr (h : NmAt V pn b1 b2 L) (hf : Fr F V V') (h0 : ¬ F pn) (h1 : ¬ F b1) (h2 : ¬ F b2) : NmAt V' pn b1 b2 L := by
  obtain ⟨K, m1, m2, hok⟩ := h.all
  exact ⟨hf.blk h.obj h0, h.ne, K, owns_fr m1 hf h1, owns_fr m2 hf h2, hok⟩
theorem RNm.fr (h : RNm V B pr A cap L) (hf : Fr F V V') (h0 : ¬ F pr) (h1 : ∀ g, (Value.slice A L.length cap).ownBlock = some g → ¬ F g) : RNm V' B pr A cap L := ⟨hf.blk h.obj h0, own_fr h.row hf h1, h.nrow⟩
theorem NmAt.map_ne (h : NmAt V pn b1 b2 L) {g t : Nat} {cs : Array Value} (hb : Blk V g t cs) : g ≠ b1 ∧ g ≠ b2 := by
  obtain ⟨K, m1, m2, hok⟩ := h.all
  exact ⟨owns_blk m1 hb, owns_blk m2 hb⟩
theorem RNm.row_ne (h : RNm V B pr A cap L) (hn : NmAt V pn b1 b2 L') {g : Nat} (hg : (Value.slice A L.length cap).ownBlock = some g) : g ≠ b1 ∧ g ≠ b2 := by
  rcases h.row.2 with ⟨hv, hz⟩ | ⟨g', cap', cur, hv, hb, hh, _⟩
  · rw [hv] at hg; cases hg
  · rw [hv] at hg
    obtain rfl : g' = g := by injection hg
    exact hn.map_ne hh

/-- Both: the program's names, the document's, each with its entries. -/
structure Bo (w V : World) (pn b1 b2 pr : Nat) (L L' : NL) : Prop where
  nm : NmB w V pn b1 b2 L
  rf : ∃ A cap, RNm V w.heap.size pr A cap L'
  lp : w.heap.size ≤ pr
theorem Bo.obj (h : Bo w V pn b1 b2 pr L L') : ∃ cs, Blk V pr 29 cs := by
  obtain ⟨A, cap, hr⟩ := h.rf
  exact ⟨_, hr.obj⟩
theorem Bo.ne (h : Bo w V pn b1 b2 pr L L') : pn ≠ pr ∧ pr ≠ b1 ∧ pr ≠ b2 := by
  obtain ⟨cs, hb⟩ := h.obj
  exact ⟨blk_ne h.nm.at_.obj hb (by decide), (h.nm.at_.map_ne hb).1, (h.nm.at_.map_ne hb).2⟩
theorem Bo.keep (h : Bo w V pn b1 b2 pr L L') (hb : Below V.heap.size V V') : Bo w V' pn b1 b2 pr L L' := by
  obtain ⟨A, cap, hr⟩ := h.rf
  exact ⟨h.nm.keep hb, ⟨A, cap, hr.keep hb⟩, h.lp⟩
theorem Bo.turnN (h : Bo w V pn b1 b2 pr L L') (hN : NmAt V' pn b1 b2 L2) (hF : Fr (fun k => k = b1 ∨ k = b2) V V') : Bo w V' pn b1 b2 pr L2 L' := by
  obtain ⟨A, cap, hr⟩ := h.rf
  obtain ⟨_, n1, n2⟩ := h.ne
  refine ⟨h.nm.turn hN hF, ⟨A, cap, hr.fr hF (by rintro (e | e); exact n1 e; exact n2 e) fun g hg => ?_⟩, h.lp⟩
  obtain ⟨m1, m2⟩ := hr.row_ne h.nm.at_ hg
  rintro (e | e)
  · exact m1 e
  · exact m2 e
theorem Bo.turnR (h : Bo w V pn b1 b2 pr L L') (hR : ∃ A cap, RNm V' w.heap.size pr A cap L2 ∧ Fr (fun k => k = pr) V V') : Bo w V' pn b1 b2 pr L L2 := by
  obtain ⟨A, cap, hr, hF⟩ := hR
  obtain ⟨n0, n1, n2⟩ := h.ne
  exact ⟨⟨h.nm.at_.fr hF n0 (fun e => n1 e.symm) (fun e => n2 e.symm), h.nm.bel.trans (hF.below h.nm.bel.size (fun k hk => by rw [hk]; exact h.lp)), h.nm.l0, h.nm.l1, h.nm.l2⟩, ⟨A, cap, hr⟩, h.lp⟩

/-- Both, and the act that is played, in a block of its own. -/
structure Bx (w V : World) (pn b1 b2 pr ga : Nat) (a : ActN) (L L' : NL) : Prop where
  bo : Bo w V pn b1 b2 pr L L'
  act : Blk V ga 31 #[.int .i64 a.kind, .string ⟨a.name.toArray⟩, .int .i64 a.pid]
theorem Bx.keep (h : Bx w V pn b1 b2 pr ga a L L') (hb : Below V.heap.size V V') : Bx w V' pn b1 b2 pr ga a L L' := ⟨h.bo.keep hb, h.act.keep hb⟩
theorem Bx.turnN (h : Bx w V pn b1 b2 pr ga a L L') (hN : NmAt V' pn b1 b2 L2) (hF : Fr (fun k => k = b1 ∨ k = b2) V V') : Bx w V' pn b1 b2 pr ga a L2 L' :=
  ⟨h.bo.turnN hN hF, hF.blk h.act (by obtain ⟨m1, m2⟩ := h.bo.nm.at_.map_ne h.act; rintro (e | e); exact m1 e; exact m2 e)⟩
theorem Bx.turnR (h : Bx w V pn b1 b2 pr ga a L L') (hR : ∃ A cap, RNm V' w.heap.size pr A cap L2 ∧ Fr (fun k => k = pr) V V') : Bx w V' pn b1 b2 pr ga a L L2 := by
  obtain ⟨A, cap, hr, hF⟩ := hR
  obtain ⟨cs, ho⟩ := h.bo.obj
  exact ⟨h.bo.turnR ⟨A, cap, hr, hF⟩, hF.blk h.act (blk_ne h.act ho (by decide))⟩
theorem Bx.add (h : Bx w V pn b1 b2 pr ga a L L') (hs : a.name.length ≤ maxLen) (hp : (Lit.int .i64 a.pid).wf = true) (hL : L.length < 1000000) :
    Calls Try.prog 12 #[.pointer (some ⟨pn, 0, none⟩), .string ⟨a.name.toArray⟩, .int .i64 a.pid] V fun e V' => e = .returned (.int .i64 ((addP L a.name a.pid).1 : Int)) ∧ Bx w V' pn b1 b2 pr ga a (addP L a.name a.pid).2 L' :=
  (nadd_any h.bo.nm.at_ a.name a.pid hs hp hL).mono fun e V' ⟨he, hN, hF⟩ => ⟨he, h.turnN hN hF⟩
theorem Bx.radd (h : Bx w V pn b1 b2 pr ga a L L') (hs : a.name.length ≤ maxLen) (hL : L'.length ≤ 1000000) :
    Calls Try.prog 9 #[.pointer (some ⟨pr, 0, none⟩), .string ⟨a.name.toArray⟩, .int .i64 a.pid] V fun e V' => e = .returned (.int .i64 ((addP L' a.name a.pid).1 : Int)) ∧ Bx w V' pn b1 b2 pr ga a L (addP L' a.name a.pid).2 := by
  obtain ⟨A, cap, hr⟩ := h.bo.rf
  exact (radd_any hr h.bo.nm.bel.size a.name a.pid hs hL).mono fun e V' ⟨he, hR⟩ => ⟨he, h.turnR hR⟩
theorem Bx.remove (h : Bx w V pn b1 b2 pr ga a L L') (hs : a.name.length ≤ maxLen) :
    Calls Try.prog 13 #[.pointer (some ⟨pn, 0, none⟩), .string ⟨a.name.toArray⟩] V fun e V' => e = .returned (.bool (removeP L a.name).1) ∧ Bx w V' pn b1 b2 pr ga a (removeP L a.name).2 L' :=
  (nremove_any h.bo.nm.at_ a.name hs).mono fun e V' ⟨he, hN, hF⟩ => ⟨he, h.turnN hN hF⟩
theorem Bx.rremove (h : Bx w V pn b1 b2 pr ga a L L') {K : List (Int × List UInt8)} (hok : NOk L' K) (hL : L'.length ≤ 1000000) :
    Calls Try.prog 14 #[.pointer (some ⟨pr, 0, none⟩), .string ⟨a.name.toArray⟩] V fun e V' => e = .returned (.bool (removeP L' a.name).1) ∧ Bx w V' pn b1 b2 pr ga a L (removeP L' a.name).2 := by
  obtain ⟨A, cap, hr⟩ := h.bo.rf
  exact (rremove_any hr h.bo.nm.bel.size a.name hok.apart hL).mono fun e V' ⟨he, hR⟩ => ⟨he, h.turnR hR⟩
theorem Bx.drop (h : Bx w V pn b1 b2 pr ga a L L') (hp : (Lit.int .i64 a.pid).wf = true) :
    Calls Try.prog 15 #[.pointer (some ⟨pn, 0, none⟩), .int .i64 a.pid] V fun e V' => e = .returned (.bool (dropP L a.pid).1) ∧ Bx w V' pn b1 b2 pr ga a (dropP L a.pid).2 L' :=
  (ndrop_any h.bo.nm.at_ a.pid hp).mono fun e V' ⟨he, hN, hF⟩ => ⟨he, h.turnN hN hF⟩
theorem Bx.rdrop (h : Bx w V pn b1 b2 pr ga a L L') {K : List (Int × List UInt8)} (hok : NOk L' K) (hL : L'.length ≤ 1000000) :
    Calls Try.prog 16 #[.pointer (some ⟨pr, 0, none⟩), .int .i64 a.pid] V fun e V' => e = .returned (.bool (dropP L' a.pid).1) ∧ Bx w V' pn b1 b2 pr ga a L (dropP L' a.pid).2 := by
  obtain ⟨A, cap, hr⟩ := h.bo.rf
  exact (rdrop_any hr h.bo.nm.bel.size a.pid hok hL).mono fun e V' ⟨he, hR⟩ => ⟨he, h.turnR hR⟩
theorem Bx.find (h : Bx w V pn b1 b2 pr ga a L L') (hs : a.name.length ≤ maxLen) :
    Calls Try.prog 17 #[.pointer (some ⟨pn, 0, none⟩), .string ⟨a.name.toArray⟩] V fun e w' => e = .returned (.tuple #[.int .i64 ((get1 L a.name).getD 0), .bool (get1 L a.name).isSome]) ∧ V = w' := nfind_any h.bo.nm.at_ a.name hs
theorem Bx.rfind (h : Bx w V pn b1 b2 pr ga a L L') (hL : L'.length ≤ 1000000) :
    Calls Try.prog 18 #[.pointer (some ⟨pr, 0, none⟩), .string ⟨a.name.toArray⟩] V fun e w' => e = .returned (.tuple #[.int .i64 ((get1 L' a.name).getD 0), .bool (get1 L' a.name).isSome]) ∧ V = w' := by
  obtain ⟨A, cap, hr⟩ := h.bo.rf
  exact rfind_any hr a.name hL
theorem Bx.of (h : Bx w V pn b1 b2 pr ga a L L') (hp : (Lit.int .i64 a.pid).wf = true) :
    Calls Try.prog 19 #[.pointer (some ⟨pn, 0, none⟩), .int .i64 a.pid] V fun e w' => e = .returned (.tuple #[.string ⟨((of1 L a.pid).getD []).toArray⟩, .bool (of1 L a.pid).isSome]) ∧ V = w' := nof_any h.bo.nm.at_ a.pid hp
theorem Bx.rof (h : Bx w V pn b1 b2 pr ga a L L') (hL : L'.length ≤ 1000000) :
    Calls Try.prog 20 #[.pointer (some ⟨pr, 0, none⟩), .int .i64 a.pid] V fun e w' => e = .returned (.tuple #[.string ⟨((of1 L' a.pid).getD []).toArray⟩, .bool (of1 L' a.pid).isSome]) ∧ V = w' := by
  obtain ⟨A, cap, hr⟩ := h.bo.rf
  exact rof_any hr a.pid hL

set_option maxRecDepth 100000 in
set_option maxHeartbeats 4000000 in
theorem same_any (h : NmAt W pn b1 b2 L) (hr : RNm W B pr A cap L) (hl : L.length ≤ 1000000) :
    Calls Try.prog 21 #[.pointer (some ⟨pn, 0, none⟩), .pointer (some ⟨pr, 0, none⟩)] W fun e w' => e = .returned (.bool true) ∧ Below W.heap.size W w' := by
  have HAL := Lib.hid (nall_any h hl)
  have HR := Lib.hid hr
  obtain ⟨n, hn⟩ : ∃ n, L.length = n := ⟨_, rfl⟩
  rw [hn] at HAL hl
  have HN := Lib.hid hn
  clear h hr hn
  go_enter Try.func21, Try.ntmps21
  go_upto_region 2 with (go_at_call 22; refine HAL.out.mono ?_; rintro e w2 ⟨v, rfl, hown, hb⟩)
  obtain ⟨A2, c2, rfl, hE⟩ := rde_own hown HN.out
  have HE := Lib.hid hE
  have HB := Lib.hid hb
  have HR2 := Lib.hid (HR.out.keep hb)
  have c0 := HR2.out.obj.cell 0
  rw [HN.out] at c0
  clear hown hE hb HAL HR
  go_upto_region 5 with (fail)
  clear c0
  go_loopw [6] (fun v wx => ∃ j : Nat, j ≤ n ∧ v = .int .i64 (j : Int) ∧ Below w2.heap.size w2 wx) (fun v _ => n - (intOf v).toNat)
  case atStart => exact ⟨0, Nat.zero_le _, rfl, Below.refl _ _⟩
  case round =>
    obtain ⟨j, hj, rfl, hbx⟩ := hrel
    by_cases hjm : j < n
    · have hd9 : decide (j < n) = true := by simp; omega
      have hjl : j < L.length := by rw [HN.out]; exact hjm
      obtain ⟨b, o, rfl, e0, e1⟩ := (HE.out.below hbx).at_ hjl
      obtain ⟨g, rfl, f0, f1⟩ := own_ent (HR2.out.keep hbx).row rfl hjl
      have c1 := (HR2.out.keep hbx).obj.cell 0
      rw [HN.out] at c1
      generalize L[j] = x at *
      obtain ⟨s1, p1⟩ := x
      simp only at e0 e1 f0 f1
      have HBX := Lib.hid hbx
      clear hbx hjl
      go_upto_region 7 with (fail)
      go_quiet (fail)
      go_wp2
      go_roundw
      case rel => exact ⟨j + 1, by omega, by go_num, below_drewN HBX.out _⟩
      case measure => simp [intOf]; omega
    · have hd9 : decide (j < n) = false := by simp; omega
      go_wp2
      go_ret
      exact ⟨rfl, below_step HB.out hbx⟩
theorem Bx.same (h : Bx w V pn b1 b2 pr ga a L L) (hL : L.length ≤ 1000000) :
    Calls Try.prog 21 #[.pointer (some ⟨pn, 0, none⟩), .pointer (some ⟨pr, 0, none⟩)] V fun e V' => e = .returned (.bool true) ∧ Bo w V' pn b1 b2 pr L L := by
  obtain ⟨A, cap, hr⟩ := h.bo.rf
  exact (same_any h.bo.nm.at_ hr hL).mono fun e V' ⟨he, hb⟩ => ⟨he, h.bo.keep hb⟩
end

/-! ### the first entries -/
def stepN (q : Nat × NL) (x : List UInt8 × Int) : Nat × NL := if q.1 = 0 then addP q.2 x.1 x.2 else q
theorem fold_stop : ∀ (l : NL) (q : Nat × NL), q.1 ≠ 0 → l.foldl stepN q = q
  | [], _, _ => rfl
  | x :: r, q, h => by
    rw [List.foldl_cons, show stepN q x = q by unfold stepN; rw [if_neg h]]
    exact fold_stop r q h
theorem addP_bad (L : NL) (s : List UInt8) (p : Int) (h : (addP L s p).1 ≠ 0) : addP L s p = ((addP L s p).1, L) := by
  unfold addP at h ⊢
  split
  · rfl
  · rename_i h1
    rw [if_neg h1] at h
    split
    · rfl
    · rename_i h2
      rw [if_neg h2] at h
      exact absurd rfl h
theorem newP_fold : ∀ (l L : NL), newP L l = l.foldl stepN (0, L)
  | [], _ => rfl
  | x :: r, L => by
    rw [List.foldl_cons, show stepN (0, L) x = addP L x.1 x.2 by unfold stepN; rw [if_pos rfl]]
    unfold newP
    by_cases h : (addP L x.1 x.2).1 = 0
    · rw [if_pos h, newP_fold r]
      congr 1
      rw [← h]
    · rw [if_neg h, fold_stop _ _ h]
      exact (addP_bad L x.1 x.2 h).symm
theorem stepN_len (q : Nat × NL) (x : List UInt8 × Int) : (stepN q x).2.length ≤ q.2.length + 1 := by
  unfold stepN
  split
  · exact addP_len _ _ _
  · omega
def ents (l : List ActN) : NL := l.map fun a => (a.name, a.pid)
def firstN (l : List ActN) (i : Nat) : Nat × NL := (ents (l.take i)).foldl stepN (0, [])
theorem firstN_succ {l : List ActN} {i : Nat} (h : i < l.length) : firstN l (i + 1) = stepN (firstN l i) (l[i].name, l[i].pid) := by
  unfold firstN ents
  rw [List.take_succ_eq_append_getElem h, List.map_append, List.foldl_append]
  rfl
theorem firstN_all {l : List ActN} {n : Nat} (h : l.length = n) : firstN l n = newP [] (ents l) := by
  unfold firstN
  rw [newP_fold, ← h, List.take_length]
theorem firstN_len (l : List ActN) (i : Nat) : (firstN l i).2.length ≤ i := by
  induction i with
  | zero => simp [firstN, ents]
  | succ i ih =>
    by_cases h : i < l.length
    · rw [firstN_succ h]
      exact Nat.le_trans (stepN_len _ _) (by omega)
    · have : firstN l (i + 1) = firstN l i := by
        unfold firstN
        rw [List.take_of_length_le (by omega), List.take_of_length_le (by omega)]
      rw [this]
      omega
theorem ents_succ {l : List ActN} {i : Nat} (h : i < l.length) : entsC (ents (l.take (i + 1))) = entsC (ents (l.take i)) ++ [.string ⟨l[i].name.toArray⟩, .int .i64 l[i].pid] := by
  unfold ents
  rw [List.take_succ_eq_append_getElem h, List.map_append, entsC_append]
  rfl
end Go.Proofs.Ytfkolemkmhcbfaa
