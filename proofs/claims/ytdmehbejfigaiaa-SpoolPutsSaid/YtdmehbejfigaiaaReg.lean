/- Laws for regions that draw their order, taken operation by operation: a held condition, appends of bytes. -/
import Derived.Test.YtdmehbejfigaiaaRefG
import Derived.Deep.RegionHeld3
namespace Go.Proofs.Ytdmehbejfigaiaa
open Go.RowKit
set_option linter.unusedVariables false

theorem wpAnyH_world {P : Program} {md : Region.Mode} {ops : Array Oper} {Q : Exit → Act → World → Prop} {S : World → Prop} {fuel : Nat} {listed : Array Bool} {a : Act} {w : World} (F : World → Prop) (hF : F w) (h : ∀ w', F w' → wpAnyH P md ops Q S fuel listed a w') : wpAnyH P md ops Q S fuel listed a w := h w hF
/-- Nothing that was there has turned. -/
def Sb (w0 W : World) : Prop := Below w0.heap.size w0 W
theorem Sb.bel {w0 W : World} (h : Sb w0 W) : Below w0.heap.size w0 W := h
theorem Sb.alloc {w0 W : World} (h : Sb w0 W) (o : Obj) : Sb w0 (W.alloc o) := below_step h (below_alloc W o)
theorem Sb.step {w0 W W' : World} (h : Sb w0 W) (k : Below W.heap.size W W') : Sb w0 W' := below_step h k
theorem Sb.grown {w0 W W' : World} {row : Option Nat} (h : Sb w0 W) (hg : W.grownBy W' row) (hr : ∀ k, row = some k → w0.heap.size ≤ k) : Sb w0 W' := Below.grown h hg h.bel.size hr
theorem heap_alloc_keep {W : World} {g : Nat} {o : Obj} (h : W.heap[g]? = some o) (o' : Obj) : (W.alloc o').heap[g]? = some o := (Below.heap_alloc W o' g (Array.getElem?_eq_some_iff.1 h).1).trans h
theorem heap_below_keep {W W' : World} {g : Nat} {o : Obj} (h : W.heap[g]? = some o) (hb : Below W.heap.size W W') : W'.heap[g]? = some o := (hb.block g (Array.getElem?_eq_some_iff.1 h).1).trans h
theorem heap_grown_keep {W W' : World} {g : Nat} {o : Obj} {row : Option Nat} (h : W.heap[g]? = some o) (hb : W.grownBy W' row) (hne : some g ≠ row) : W'.heap[g]? = some o := (hb.block g (Array.getElem?_eq_some_iff.1 h).1 hne).trans h
theorem heap_lt {W : World} {g : Nat} {o : Obj} (h : W.heap[g]? = some o) : g < W.heap.size := (Array.getElem?_eq_some_iff.1 h).1

/-- append of bytes onto a row of the call's own, as one step of a region. -/
theorem step_appB {W w0 : World} {ops : Array Oper} {o : Oper} {a : Act} {K : Act → World → Prop} {Q : Exit → Act → World → Prop} {E : Prop} (hw : Region.wanted o (yielded ops a.tmps) = true) (s x : Operand)
    (ho : o.op = .call { callee := .builtin .append, args := #[s, x], argTypes := #[22, 22] }) (v : Value) (l m : List UInt8) (n k N c : Nat) (A : Option Addr) (hs : a.eval s = v) (hx : a.eval x = .slice A k c)
    (hown : W.ownsRow w0.heap.size 5 1 v n (l.map bv)) (hb : Sb w0 W) (hr : Rd w0 A m) (hm : m.length = k) (hN : n + k = N) (hn : N ≤ 1000000)
    (h : ∀ A' c' w', w'.ownsRow w0.heap.size 5 1 (.slice A' N c') N ((l ++ m).map bv) → W.grownBy w' v.ownBlock → ((Value.slice A' N c').ownBlock = v.ownBlock ∨ (Value.slice A' N c').ownBlock = some W.heap.size) → K (a.put o.dst (.slice A' N c')) w') :
    if Region.wanted o (yielded ops a.tmps) = true then Oper.wp Try.prog o a W K Q else E := by
  rw [if_pos hw]
  subst hN
  have hr' : Rd W A m := hr.below hb
  obtain ⟨v', w', hrun, h2, h3, h4⟩ := run_append_cs (P := Try.prog) W bytesT o.type w0.heap.size v n (l.map bv) hown A k c (m.map bv) (by simp [hm]) hr'.cs (bvs_one m) (by unfold maxLen; omega) (by omega) hb.bel.size
  rw [← List.map_append] at h2
  obtain ⟨A', c', rfl, _, _, _⟩ := own_rd h2
  unfold Oper.wp execOp
  simp only [ho, resolve, invoke, builtin, Sem.run_bind, Sem.run_pure, Result.andThen_ok, List.map_toArray, List.map_cons, List.map_nil, hs, hx, hrun]
  exact h A' c' w' h2 h3 h4
/-- append of bytes onto none. -/
theorem step_copyB {W w0 : World} {ops : Array Oper} {o : Oper} {a : Act} {K : Act → World → Prop} {Q : Exit → Act → World → Prop} {E : Prop} (hw : Region.wanted o (yielded ops a.tmps) = true) (s x : Operand)
    (ho : o.op = .call { callee := .builtin .append, args := #[s, x], argTypes := #[22, 22] }) (m : List UInt8) (g k c : Nat) (A : Option Addr) (hs : a.eval s = .slice (some ⟨g, 0, none⟩) 0 0) (hx : a.eval x = .slice A k c)
    (hg : W.heap[g]? = some (.cells #[] 5 (0, 0))) (hgb : w0.heap.size ≤ g) (hb : Sb w0 W) (hr : Rd w0 A m) (hm : m.length = k) (hn : k ≤ 1000000)
    (h : ∀ A' c' w', w'.ownsRow w0.heap.size 5 1 (.slice A' k c') k (m.map bv) → W.grownBy w' (some g) → ((Value.slice A' k c').ownBlock = some g ∨ (Value.slice A' k c').ownBlock = some W.heap.size) → K (a.put o.dst (.slice A' k c')) w') :
    if Region.wanted o (yielded ops a.tmps) = true then Oper.wp Try.prog o a W K Q else E := by
  have H0 : W.ownsRow w0.heap.size 5 1 (.slice (some ⟨g, 0, none⟩) 0 0) 0 (([] : List UInt8).map bv) :=
    ⟨rfl, .inr ⟨g, 0, #[], rfl, hgb, hg, Nat.le_refl _, Nat.zero_le _, rfl, rfl⟩⟩
  exact step_appB hw s x ho _ [] m 0 k k c A hs hx H0 hb hr hm (Nat.zero_add k) (by omega) h
theorem own_cap {W : World} {B : Nat} {A : Option Addr} {n c : Nat} {l : List UInt8} (h : W.ownsRow B 5 1 (.slice A n c) n (l.map bv)) : Rd W A l ∧ n ≤ c ∧ c ≤ 9223372036854775807 ∧ l.length = n := by
  obtain ⟨A', c', hv, hr, hl, hc⟩ := own_rd h
  obtain ⟨rfl, _, rfl⟩ := Value.slice.inj hv
  refine ⟨hr, hc, ?_, hl⟩
  rcases h.2 with ⟨hv2, _⟩ | ⟨g, cap, cur, hv2, _, _, _, h10, _⟩
  · have := (Value.slice.inj hv2).2.2; omega
  · have := (Value.slice.inj hv2).2.2; unfold maxLen at h10; omega
end Go.Proofs.Ytdmehbejfigaiaa
