/- Links (layer 18): a range over the links' map. -/
import Derived.Test.YtpfikhamokjdjaaLkE
import Derived.Maps.RangeWalk
namespace Go.Proofs.Ytpfikhamokjdjaa
open Go.RowKit Go.Maps Go.WideMaps
set_option linter.unusedVariables false

section
variable {α : Type} {key : α → Lit} {L rem : List α} {p : α} {k : Lit}
theorem strikeG : (fun z => hasG key rem z && !z.sameKey k) = hasG key (delG key rem k) := by
  funext z
  unfold hasG delG
  rw [List.any_filter]
  induction rem with
  | nil => rfl
  | cons y r ih =>
    simp only [List.any_cons]
    rw [← ih]
    cases h : (key y).sameKey z with
    | false => simp
    | true =>
      have e := WideAt.sameKey_eq h
      rw [e]
      cases hz : z.sameKey k <;> simp
theorem delG_perm (hk : ∀ x, WideAt.IsKeyLit (key x)) (hnd : (rem.map key).Nodup) (hp : p ∈ rem) : rem.Perm (p :: delG key rem (key p)) := by
  induction rem with
  | nil => cases hp
  | cons y r ih =>
    rw [List.map_cons, List.nodup_cons] at hnd
    rcases List.mem_cons.1 hp with rfl | h9
    · have e : delG key (p :: r) (key p) = r := by
        unfold delG
        rw [List.filter_cons]
        simp only [WideAt.sameKey_self (hk p), Bool.not_true]
        refine List.filter_eq_self.2 fun z hz => ?_
        cases h : (key z).sameKey (key p) with
        | false => rfl
        | true => exact absurd (List.mem_map.2 ⟨z, hz, WideAt.sameKey_eq h⟩) hnd.1
      rw [e]
    · have e : delG key (y :: r) (key p) = y :: delG key r (key p) := by
        unfold delG
        rw [List.filter_cons]
        have : (key y).sameKey (key p) = false := by
          cases h : (key y).sameKey (key p) with
          | false => rfl
          | true => exact absurd (List.mem_map.2 ⟨p, h9, (WideAt.sameKey_eq h).symm⟩) hnd.1
        simp [this]
      rw [e]
      exact (List.Perm.cons y (ih hnd.2 h9)).trans (List.Perm.swap p y _)
end
section
variable {W V : World} {b r n cnt : Nat} {L rem : PL}
/-- A range over the links' map: what is still to come. -/
def PR (W : World) (b r n : Nat) (L rem : PL) (cnt : Nat) : Prop := W.ranges (H := Unit) Try.prog 45 (plainElem Try.prog 4) b r n (datG keyP (fun _ => .lit (.bool true)) L) (hasG keyP rem) cnt
theorem keyP_is (p : Int × Int) : WideAt.IsKeyLit (keyP p) := trivial
theorem PR.start (h : W.ranges (H := Unit) Try.prog 45 (plainElem Try.prog 4) b r n (datG keyP (fun _ => .lit (.bool true)) L) (Maps.has (datG keyP (fun _ => .lit (.bool true)) L)) cnt) : PR W b r n L L cnt := by
  have e : Maps.has (datG keyP (fun _ => DataW.lit (H := Unit) (.bool true)) L) = hasG keyP L := funext fun k => has_datG
  rw [e] at h
  exact h
theorem PR.kept {row : Option Nat} (h : PR W b r n L rem cnt) (hg : W.grownBy V row) (hb : some b ≠ row) (hr : some r ≠ row) : PR V b r n L rem cnt := World.ranges.kept h hg hb hr
theorem wpList_nextP {ops : Array Oper} {rest : List Oper} {o : Oper} {a : Act} {Q : Exit → Act → World → Prop} (hg : o.guard = none) (it : Operand) (hop : o.op = Op.next it false)
    (hit : a.eval it = .pointer (some ⟨r, 0, none⟩)) (h : PR W b r n L rem cnt) (hok : ∀ p ∈ L, i64ok p.1 ∧ i64ok p.2) (hsub : ∀ p ∈ rem, p ∈ L)
    (hDone : rem = [] → wpList Try.prog ops Q rest (a.put o.dst (.tuple #[.bool false])) W)
    (hMore : ∀ (p : Int × Int) (w' : World) (cnt' : Nat), p ∈ rem → PR w' b r n L (delG keyP rem (keyP p)) cnt' → cnt' < cnt → W.grownBy w' (some r) → w'.heap.size = W.heap.size →
      (Instr.entry (.pointer (some ⟨r, 0, none⟩))).run Try.prog w' = .ok (.tuple #[.agg #[.int .i64 p.1, .int .i64 p.2], .bool true]) w' → wpList Try.prog ops Q rest (a.put o.dst (.tuple #[.bool true, .agg #[.int .i64 p.1, .int .i64 p.2], .bool true])) w') :
    wpList Try.prog ops Q (o :: rest) a W := by
  refine wpList_plain hg fun K' hK' => ?_
  unfold Oper.wp
  rcases World.ranges.next h kp o.type with ⟨h0, hl, hrun⟩ | ⟨key, v, kl, y, w', cnt', hkey, hlk, hv, hat, hrun, hrg, hlt, hgr, hsz, hen⟩
  · simp [execOp, hop, hit, hrun, Result.andThen]
    refine hK' _ _ (hDone ?_)
    refine List.eq_nil_iff_forall_not_mem.2 fun p hp => ?_
    have h1 := hl (keyP p)
    unfold hasG at h1
    rw [List.any_eq_false] at h1
    exact h1 p hp (WideAt.sameKey_self (keyP_is p))
  · have hlk9 := hlk
    unfold hasG at hlk9
    obtain ⟨p, hp, hs⟩ := List.any_eq_true.1 hlk9
    have e := WideAt.sameKey_eq hs
    subst e
    obtain ⟨k1, k2⟩ := hok p (hsub p hp)
    have ekey := kp.inj hkey (keyOfP k1 k2)
    subst ekey
    have hpl := hsub p hp
    have ey := hat (.lit (.bool true))
    rw [at_datG] at ey
    have ey2 : y.1 = .lit (.bool true) := by
      rw [← ey]
      cases getG keyP L (keyP p) <;> rfl
    obtain ⟨y1, y2⟩ := y
    simp only at ey2
    subst ey2
    have ev := bool_inv Try.underlying4 hv
    subst ev
    rw [strikeG] at hrg
    unfold pv at hrun hen
    simp [execOp, hop, hit, hrun, Result.andThen]
    exact hK' _ _ (hMore p w' cnt' hp hrg hlt hgr hsz hen)
end
end Go.Proofs.Ytpfikhamokjdjaa
