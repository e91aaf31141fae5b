/- Links (layer 18): both objects side by side (LinksPlays). -/
import Derived.Test.YtpfikhamokjdjaaLPlyA
import Derived.Test.YtpfikhamokjdjaaLBotL
namespace Go.Proofs.Ytpfikhamokjdjaa
open Go.RowKit
set_option linter.unusedVariables false

theorem delG_le {α : Type} {key : α → Lit} {L : List α} {v : Lit} : (delG key L v).length ≤ L.length := by
  unfold delG
  exact List.length_filter_le _ _
theorem unlinkP_len {L : PL} {a b : Int} : (unlinkP L a b).2.length ≤ L.length := by
  unfold unlinkP
  split
  · exact delG_le
  · exact Nat.le_refl _
theorem unwatchP_len {K : WL} {r f : Int} : (unwatchP K r f).2.length ≤ K.length := by
  unfold unwatchP
  split
  · split
    · exact delG_le
    · exact Nat.le_refl _
  · exact Nat.le_refl _
/-- The two side by side. -/
structure PlyR (W : World) (pm b1 b2 B pr k : Nat) (L : PL) (K : WL) (wr : World) : Prop where
  lk : LK W wr pm b1 b2 k L K
  rk : ∃ AP cP AW cW, RK wr B pr AP cP AW cW (psP L) (wsP K)
  hi : pm < B ∧ b1 < B ∧ b2 < B
  lo : W.heap.size ≤ B
  hB : B ≤ wr.heap.size
  n : L.length ≤ k ∧ K.length ≤ k
section
variable {W wr U U1 U2 : World} {pm b1 b2 B pr k k' : Nat} {L L' : PL} {K K' : WL}
theorem PlyR.keep (h : PlyR W pm b1 b2 B pr k L K wr) (hb : Below wr.heap.size wr U) : PlyR W pm b1 b2 B pr k L K U := by
  obtain ⟨AP, cP, AW, cW, h9⟩ := h.rk
  exact ⟨h.lk.keep hb, ⟨_, _, _, _, h9.keep hb⟩, h.hi, h.lo, Nat.le_trans h.hB hb.size, h.n⟩
theorem PlyR.rk1 (h : PlyR W pm b1 b2 B pr k L K wr) (f1 : Fr (fun k => k = b1 ∨ k = b2) wr U1) : ∃ AP cP AW cW, RK U1 B pr AP cP AW cW (psP L) (wsP K) := by
  obtain ⟨AP, cP, AW, cW, h9⟩ := h.rk
  exact ⟨_, _, _, _, h9.fr f1 (fun k e => by have := h.hi; omega)⟩
theorem PlyR.prlo (h : PlyR W pm b1 b2 B pr k L K wr) : B ≤ pr ∧ pr < wr.heap.size := by
  obtain ⟨AP, cP, AW, cW, h9⟩ := h.rk
  exact ⟨h9.lo, h9.obj.lt⟩
theorem PlyR.both (h : PlyR W pm b1 b2 B pr k L K wr) (h1 : LK W U1 pm b1 b2 k' L' K') (f1 : Fr (fun k => k = b1 ∨ k = b2) wr U1) (h2 : ∃ AP cP AW cW, RK U2 B pr AP cP AW cW (psP L') (wsP K')) (f2 : Fr (fun k => k = pr) U1 U2) (hk : k' ≤ k + 1) (hl : L'.length ≤ k + 1) (hw : K'.length ≤ k + 1) :
    PlyR W pm b1 b2 B pr (k + 1) L' K' U2 := by
  have hp := h.prlo
  exact ⟨(h1.fr f2 (by have := h.hi; omega) (fun k e => by have := h.lo; omega)).mono hk, h2, h.hi, h.lo, Nat.le_trans h.hB (Nat.le_trans f1.size f2.size), hl, hw⟩
end
end Go.Proofs.Ytpfikhamokjdjaa
