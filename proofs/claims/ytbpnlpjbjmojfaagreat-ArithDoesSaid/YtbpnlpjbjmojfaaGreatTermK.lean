/- The term package's is, Check, Size: their contracts. -/
import Derived.Test.YtbpnlpjbjmojfaaGreatTermJ
namespace Go.Proofs.YtbpnlpjbjmojfaaGreat
open Go.RowKit
set_option linter.unusedVariables false

mutual
/-- No name in a term is longer than may be. -/
def TV.named : TV → Prop
  | .mk _ _ s l => s.length ≤ 140737488351232 ∧ TV.namedL l
def TV.namedL : List TV → Prop
  | [] => True
  | t :: r => t.named ∧ TV.namedL r
end
theorem namedL_at : ∀ {l : List TV}, TV.namedL l → ∀ {k : Nat} (h : k < l.length), l[k].named
  | [], _, _, h => by simp at h
  | t :: r, hn, 0, _ => by simp only [TV.namedL] at hn; exact hn.1
  | t :: r, hn, k + 1, h => by simp only [TV.namedL] at hn; exact namedL_at hn.2 (by simpa using h)
theorem TV.named_iff (t : TV) : t.named ↔ t.name.length ≤ 140737488351232 ∧ TV.namedL t.items := by cases t; simp [TV.named, TV.name, TV.items]
theorem TV.isT_eq (t : TV) : t.isT = (headB t.kind t.int t.name t.items.length && TV.isL t.items) := by cases t; simp [TV.isT, TV.kind, TV.int, TV.name, TV.items]

/-- How many parts, up to one more than may be. -/
def sizeP (n : Nat) : Nat := if n ≤ 4096 then n else 4097
set_option maxHeartbeats 1000000 in
theorem size_any (t : TV) (A : Option Addr) (c : Nat) (w0 W : World) (hW : Below w0.heap.size w0 W) (hR : RdM w0 A c t.items) :
    Calls Tryz.prog 31 #[.agg #[.int .i64 t.kind, .int .i64 t.int, .string ⟨t.name.toArray⟩, .slice A t.items.length c]] W fun e w' => e = .returned (.int .i64 (sizeP t.parts : Nat)) ∧ Below W.heap.size W w' := by
  have HP := Lib.hid (show (countP 0 t.parts).1 = sizeP t.parts by unfold countP sizeP; rw [Nat.zero_add]; split <;> rfl)
  have HC := Lib.hid (fun V2 p (h : Below w0.heap.size w0 V2) (hp : w0.heap.size ≤ p) (hB : Blk V2 p 88 #[.int .i64 ((0 : Nat) : Int)]) => count_any t.parts t A c 0 p w0 V2 (Nat.le_refl _) (by omega) h hp hR hB)
  generalize t.items.length = tl at *
  go_enter Tryz.func31, Tryz.ntmps31
  go_upto_region 2 with (fail)
  refine wp_world (fun V => Blk V W.heap.size 26 #[.int .i64 t.kind, .int .i64 t.int, .string ⟨t.name.toArray⟩, .slice A tl c] ∧ Blk V (W.heap.size + 1) 88 #[.int .i64 ((0 : Nat) : Int)] ∧ Below W.heap.size W V) ⟨(Blk.new W _ _).alloc _, ?_, below_step (below_alloc _ _) (below_alloc _ _)⟩ ?_
  · have := Blk.new (W.alloc (.cells #[.int .i64 t.kind, .int .i64 t.int, .string ⟨t.name.toArray⟩, .slice A tl c] 26)) 88 #[.int .i64 0]
    simpa using this
  rintro V ⟨hT, hB, hb⟩
  have t0 := hT.cell 0
  have t1 := hT.cell 1
  have t2 := hT.cell 2
  have t3 := hT.cell 3
  have hsz := hW.size
  have hp : w0.heap.size ≤ W.heap.size + 1 := by omega
  have hV := below_step hW hb
  go_upto_region 3 with (go_at_call 84; refine (HC.out V _ hV hp hB).mono ?_; rintro e w5 ⟨rfl, hB5, hF5⟩)
  rw [HP.out] at hB5
  have c5 := hB5.cell 0
  clear t0 t1 t2 t3
  go_wp2_with (fail)
  go_ret
  exact ⟨rfl, hb.trans (hF5.below hb.size (fun k hk => by omega))⟩

/-- Check, as a function. -/
def checkP (l : List TV) : Nat := if TV.partsL l ≤ 4096 then (if TV.isL l then 0 else 70) else 6
end Go.Proofs.YtbpnlpjbjmojfaaGreat
