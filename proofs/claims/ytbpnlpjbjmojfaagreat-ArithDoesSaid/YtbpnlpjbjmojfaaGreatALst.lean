/- Arith (layer 14): ArithLists, for lists of at most 2000000 terms. Written by argenlst.py. -/
import Derived.Test.YtbpnlpjbjmojfaaGreatArZ
import Derived.Test.YtbpnlpjbjmojfaaGreatOpenT
import Derived.Deep.RegionHeld3
namespace Go.Proofs.YtbpnlpjbjmojfaaGreat
open Go.RowKit
set_option linter.unusedVariables false

theorem wpList_appG {P : Program} {w : World} {ops : Array Oper} {rest : List Oper} {o : Oper} {a : Act} {Q : Exit → Act → World → Prop} {t e : TypeId} {z : Value} {size bytes : Nat} (T : ElT P t e z size bytes) (hgd : Region.wanted o (yielded ops a.tmps) = true) (s x : Operand)
    (ho : o.op = .call { callee := .builtin .append, args := #[s, x], argTypes := #[t, t] }) (base : Nat)
    (v : Value) (n : Nat) (xs : List Value) (hs : a.eval s = v) (hown : w.ownsRow base e size v n xs) (A : Option Addr) (m c : Nat) (news : List Value) (hx : a.eval x = .slice A m c) (hl : news.length = m * size) (hnews : Cs w A news)
    (h1 : ∀ u ∈ news, u.oneCell' = true) (h63 : n + m ≤ maxLen) (hbytes : (n + m) * bytes ≤ 140737488355328) (hbase : base ≤ w.heap.size)
    (h : ∀ v' w', w'.ownsRow base e size v' (n + m) (xs ++ news) → w.grownBy w' v.ownBlock → (v'.ownBlock = v.ownBlock ∨ v'.ownBlock = some w.heap.size) → wpList P ops Q rest (a.put o.dst v') w') :
    wpList P ops Q (o :: rest) a w := by
  refine wpList_step fun K hK => ?_
  rw [if_pos hgd]
  obtain ⟨v', w', hr, h2, h3, h4⟩ := run_append_cs (P := P) w T o.type base v n xs hown A m c news hl hnews h1 h63 hbytes hbase
  unfold Oper.wp execOp
  simp only [ho, resolve, invoke, builtin, Sem.run_bind, Sem.run_pure, Result.andThen_ok, List.map_toArray, List.map_cons, List.map_nil, hs, hx, hr]
  exact hK _ _ (h v' w' h2 h3 h4)
section
variable {w W V V' : World} {u u1 u2 : Value} {t t1 t2 : TV}
theorem own_below2 {B e z n : Nat} {v : Value} {cs : List Value} {w1 w2 : World} (hb : Below W.heap.size W w1) (hB : W.heap.size ≤ B) (ho : w1.ownsRow B e z v n cs) (hg : w1.grownBy w2 v.ownBlock) : Below W.heap.size W w2 :=
  hb.grown hg hb.size (fun k hk => by have := (ho.lt k hk).1; omega)
theorem lit_below {w1 w2 : World} {ob : Obj} {cap : Nat} (hb : Below W.heap.size W (w1.alloc ob)) (hg : (w1.alloc ob).grownBy w2 (Value.slice (some ⟨w1.heap.size, 0, none⟩) 0 cap).ownBlock) (hW : W.heap.size ≤ w1.heap.size := by first | exact Nat.le_refl _ | assumption) : Below W.heap.size W w2 :=
  hb.grown hg hb.size (fun k hk => by have := Option.some.inj hk; simp only at this; omega)
theorem lval_own {B n : Nat} {v : Value} {cs : List Value} {l : List TV} (ho : V.ownsRow B 26 4 v n cs) (hs : Std V cs l) : LVal V v l :=
  (lex_own (X := fun _ => False) ho (fun _ h => h.elim) (hs.kept (kept_all V))).1.val
theorem cs_below {A : Option Addr} {cs : List Value} (h : Cs W A cs) (hb : Below W.heap.size W V) : Cs V A cs := by
  rcases h with h0 | ⟨b, e, hcell⟩
  · exact .inl h0
  · exact .inr ⟨b, e, fun j w hj => (hb.cell (World.block_lt_of_cell? W _ (hcell j w hj))).trans (hcell j w hj)⟩

end
end Go.Proofs.YtbpnlpjbjmojfaaGreat
