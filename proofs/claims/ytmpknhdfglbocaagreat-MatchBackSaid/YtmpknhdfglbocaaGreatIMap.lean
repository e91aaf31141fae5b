/- A map of ints that is written out (HpJ's first half): its inserts, its lookups. -/
import Derived.Test.YtmpknhdfglbocaaGreatMapA
import Derived.Test.YtmpknhdfglbocaaGreatProg
import Derived.WalkArith
namespace Go.Proofs.YtmpknhdfglbocaaGreat
open Go.RowKit Go.Maps Go.WideMaps
set_option linter.unusedVariables false

def idat (K : List (Int × Int)) : DataW Unit := .map (K.map fun q => (.int .i64 q.1, .lit (.int .i64 q.2)))
def IT (W : World) (b : Nat) (K : List (Int × Int)) : Prop := W.ownsMap (H := Unit) Tryz.prog 3 (plainElem Tryz.prog 3) b K.length (idat K)
theorem kiI : Keyed Tryz.prog 3 := int_keyed Tryz.underlying3
theorem ziI (w : World) : (zeroValue 3).run Tryz.prog w = .ok (.int .i64 0) w := by kernel_rfl
theorem keyII {p : Int} (h : (Lit.int .i64 p).wf = true) : keyOf Tryz.prog 3 (.int .i64 p) = some (.int .i64 p) := keyOf_int_mk Tryz.underlying3 h
set_option maxRecDepth 100000 in
theorem wpList_insI {ty : TypeId} {b : Nat} {K : List (Int × Int)} {w : World} {ops : Array Oper} {rest : List Oper} {dst : Option Nat} {pos : String} {after : Array Edge} {a : Act} {Q : Exit → Act → World → Prop} {m : Operand}
    (k v : Int) (K' : List (Int × Int)) (HT : Hid (IT w b K)) (hlen : K.length < 1000) (hem : a.eval m = .map (some b)) (hk : (Lit.int .i64 k).wf = true) (hv : (Lit.int .i64 v).wf = true) (hput : (idat K).put (.int .i64 k) (.lit (.int .i64 v)) = idat K') (hl : K'.length = K.length + 1)
    (hK : ∀ w', Hid (IT w' b K') → Hid (w.grownBy w' (some b)) → wpList Tryz.prog ops Q rest (a.put dst undef) w') :
    wpList Tryz.prog ops Q ({ dst := dst, op := Op.insert 86 m (.const (.int .i64 k)) (.const (.int .i64 v)), type := ty, pos := pos, after := after, guard := none } :: rest) a w := by
  refine wpList_plain rfl fun K9 hK9 => ?_
  obtain ⟨w', hrun, r1, r2⟩ := World.ownsMap.update HT.out kiI Tryz.underlying86 (by unfold maxLen; omega) (keyII hk) (val := .int .i64 v) (d := .lit (.int .i64 v)) (ps := []) (plainElem_int Tryz.underlying3 hv)
  unfold Oper.wp
  have hx9 : a.eval (.const (.int .i64 k)) = .int .i64 k := rfl
  have hy9 : a.eval (.const (.int .i64 v)) = .int .i64 v := rfl
  simp [execOp, hem, hx9, hy9, hrun, Result.andThen]
  refine hK9 _ _ (hK w' ?_ r2)
  unfold Hid IT
  rw [hl, ← hput]
  exact r1
theorem IT.look {W : World} {b : Nat} {K : List (Int × Int)} (h : IT W b K) {k : Int} (hk : (Lit.int .i64 k).wf = true) {v : Int} (hv : (idat K).atKey (.int .i64 k) (.lit (.int .i64 0)) = .lit (.int .i64 v)) :
    (Instr.lookup 86 (.map (some b)) (.int .i64 k) false).run Tryz.prog W = .ok (.int .i64 v) W := by
  obtain ⟨u, ps, hrun, hu⟩ := World.ownsMap.lookup h kiI Tryz.underlying86 (ziI W) (plainElem_int Tryz.underlying3 (by decide)) (keyII hk)
  rw [hv] at hu
  obtain ⟨c, rfl, hc, _⟩ := plainElem_int_inv Tryz.underlying3 hu
  simp only [Prod.mk.injEq, DataW.lit.injEq, Lit.int.injEq, true_and] at hc
  rw [hrun, hc.1]
theorem IT.made (W : World) : IT (W.alloc (.map #[] 0)) W.heap.size [] := World.ownsMap_made W Tryz.prog 3 (plainElem (H := Unit) Tryz.prog 3)
theorem IT.keep {W W' : World} {b : Nat} {K : List (Int × Int)} (h : IT W b K) (hb : Below W.heap.size W W') : IT W' b K := owns_keep h hb
end Go.Proofs.YtmpknhdfglbocaaGreat
