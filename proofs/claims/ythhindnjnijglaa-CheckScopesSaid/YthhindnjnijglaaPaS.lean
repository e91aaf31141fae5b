/- Layer 11: prim; all of the parser's functions promise what they compute, whatever the fuel. -/
import Derived.Test.YthhindnjnijglaaPaR
namespace Go.Proofs.Ythhindnjnijglaa
open Go.RowKit
set_option linter.unusedVariables false
section
variable {pb : Nat} {A : Option Addr} {c : Nat} {T : List Tok} {fin : Nat}
theorem prim_step {n : Nat} (HE : NodeOk pb A c T fin 10 Lang.expr n) (HLI : ListOk pb A c T fin n) (HMB : MaybeOk pb A c T fin n) (HRS : NodeOk pb A c T fin 78 Lang.rest n) (HA : ArmsOk pb A c T fin n) (HH : ∀ m, m ≤ n → HeadOk pb A c T fin m) :
    NodeOk pb A c T fin 77 Lang.prim (n + 1) := by
  intro deep s W r hdp hr hp
  have hr1 : primN T fin (lang T fin n) deep s = some r := hr
  by_cases he : s.e = 0
  rotate_left
  · exact prim_err he hr1 hp
  cases ht : T[s.i]? with
  | none => exact prim_end he (List.getElem?_eq_none_iff.1 ht) hr1 hp
  | some t =>
    by_cases k1 : t.kind = 1
    · exact prim_int he ht k1 hr1 hp
    by_cases k2 : t.kind = 2
    · exact prim_atom he ht k2 hr1 hp
    by_cases k3 : t.kind = 3
    · exact prim_var he ht k3 hr1 hp
    have hk : t.kind ≠ 1 ∧ t.kind ≠ 2 ∧ t.kind ≠ 3 := ⟨k1, k2, k3⟩
    have hw : primW T fin (lang T fin n) deep s = some r := by
      unfold primN at hr1
      rw [if_neg (by simp [he]), ht] at hr1
      simpa only [k1, k2, k3, if_false] using hr1
    cases hb0 : isP T sOpen s with
    | true => exact prim_open HE hdp he ht hk hb0 hw hp
    | false =>
    cases hb1 : isP T sLc s with
    | true => exact prim_lc HMB hdp he ht hk hb0 hb1 hw hp
    | false =>
    cases hb2 : isP T sLb s with
    | true =>
      cases hbr : isP T sRb (nextP s) with
      | true => exact prim_nil hdp he ht hk hb0 hb1 hb2 hbr hw hp
      | false => exact prim_lb HRS hdp he ht hk hb0 hb1 hb2 hbr hw hp
    | false =>
    cases hb3 : isP T sFun s with
    | true => exact prim_fun HH hdp he ht hk hb0 hb1 hb2 hb3 hw hp
    | false =>
    cases hb4 : isP T sCase s with
    | true => exact prim_case HE HA hdp he ht hk hb0 hb1 hb2 hb3 hb4 hw hp
    | false =>
    cases hb5 : isP T sReceive s with
    | true =>
      cases hai : isP T sAfter (nextP s) with
      | true => exact prim_after HE HLI hdp he ht hk hb0 hb1 hb2 hb3 hb4 hb5 hai hw hp
      | false =>
        have hw2 := hw
        unfold primW at hw2
        rw [hb0, if_neg (by simp), hb1, if_neg (by simp), hb2, if_neg (by simp), hb3, if_neg (by simp), hb4, if_neg (by simp), hb5, if_pos rfl, hai, if_neg (by simp)] at hw2
        obtain ⟨q2, hq2, _⟩ := bind_inv hw2
        cases haf : isP T sAfter q2.2 with
        | true => exact prim_recv_armsafter HE HLI HA hq2 hdp he ht hk hb0 hb1 hb2 hb3 hb4 hb5 hai haf hw hp
        | false => exact prim_recv_arms HA hq2 hdp he ht hk hb0 hb1 hb2 hb3 hb4 hb5 hai haf hw hp
    | false =>
    cases hb6 : isP T sTry s with
    | true => exact prim_try HLI HA hdp he ht hk hb0 hb1 hb2 hb3 hb4 hb5 hb6 hw hp
    | false => exact prim_none hdp he ht hk hb0 hb1 hb2 hb3 hb4 hb5 hb6 hw hp
/-- What all of them promise. -/
structure AllOk (pb : Nat) (A : Option Addr) (c : Nat) (T : List Tok) (fin : Nat) (n : Nat) : Prop where
  expr : NodeOk pb A c T fin 10 Lang.expr n
  or_ : NodeOk pb A c T fin 19 Lang.or_ n
  and_ : NodeOk pb A c T fin 37 Lang.and_ n
  rel : NodeOk pb A c T fin 57 Lang.rel n
  sum : NodeOk pb A c T fin 68 Lang.sum n
  prod : NodeOk pb A c T fin 73 Lang.prod n
  sign : NodeOk pb A c T fin 75 Lang.sign n
  call : NodeOk pb A c T fin 76 Lang.call n
  rest : NodeOk pb A c T fin 78 Lang.rest n
  prim : NodeOk pb A c T fin 77 Lang.prim n
  list : ListOk pb A c T fin n
  maybe_ : MaybeOk pb A c T fin n
  tail : TailOk pb A c T fin n
  head : HeadOk pb A c T fin n
  arms : ArmsOk pb A c T fin n
theorem AllOk.zero : AllOk pb A c T fin 0 :=
  ⟨fun _ _ _ _ _ h => (Option.some_ne_none _ h.symm).elim, fun _ _ _ _ _ h => (Option.some_ne_none _ h.symm).elim, fun _ _ _ _ _ h => (Option.some_ne_none _ h.symm).elim, fun _ _ _ _ _ h => (Option.some_ne_none _ h.symm).elim, fun _ _ _ _ _ h => (Option.some_ne_none _ h.symm).elim,
    fun _ _ _ _ _ h => (Option.some_ne_none _ h.symm).elim, fun _ _ _ _ _ h => (Option.some_ne_none _ h.symm).elim, fun _ _ _ _ _ h => (Option.some_ne_none _ h.symm).elim, fun _ _ _ _ _ h => (Option.some_ne_none _ h.symm).elim, fun _ _ _ _ _ h => (Option.some_ne_none _ h.symm).elim,
    fun _ _ _ _ _ h => (Option.some_ne_none _ h.symm).elim, fun _ _ _ _ _ _ h => (Option.some_ne_none _ h.symm).elim, fun _ _ _ _ _ _ _ _ _ _ h => (Option.some_ne_none _ h.symm).elim, fun _ _ _ _ _ _ _ h => (Option.some_ne_none _ h.symm).elim, fun _ _ _ _ _ h => (Option.some_ne_none _ h.symm).elim⟩
theorem AllOk.next {n : Nat} (H : ∀ m, m ≤ n → AllOk pb A c T fin m) : AllOk pb A c T fin (n + 1) :=
  have h := H n (Nat.le_refl _)
  ⟨expr_step h.or_ h.expr, or_step fun m hm => (H m hm).and_, and_step fun m hm => (H m hm).rel, rel_step fun m hm => (H m hm).sum, sum_step fun m hm => (H m hm).prod, prod_step fun m hm => (H m hm).sign, sign_step h.call h.sign, call_step h.prim fun m hm => (H m hm).maybe_, rest_step h.expr h.rest,
    prim_step h.expr h.list h.maybe_ h.rest h.arms fun m hm => (H m hm).head, list_step fun m hm => (H m hm).expr, maybe_step h.list, tail_step h.list, head_step h.maybe_ h.tail, arms_step (fun m hm => (H m hm).expr) fun m hm => (H m hm).tail⟩
theorem all_le (n : Nat) : ∀ m, m ≤ n → AllOk pb A c T fin m := by
  induction n with
  | zero => intro m hm; obtain rfl : m = 0 := by omega
            exact AllOk.zero
  | succ n ih =>
    intro m hm
    rcases Nat.lt_or_ge m (n + 1) with h | h
    · exact ih m (by omega)
    · obtain rfl : m = n + 1 := by omega
      exact AllOk.next ih
theorem all_ok (n : Nat) : AllOk pb A c T fin n := all_le n n (Nat.le_refl _)
end
end Go.Proofs.Ythhindnjnijglaa
