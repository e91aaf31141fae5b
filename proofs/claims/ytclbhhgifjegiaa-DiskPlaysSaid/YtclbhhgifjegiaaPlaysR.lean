/- Help for the play: a row of bytes of the call's own that is written over; Write of two parts. -/
import Derived.Test.YtclbhhgifjegiaaPlaysW
namespace Go.Proofs.Ytclbhhgifjegiaa
open Go.RowKit
set_option linter.unusedVariables false

/-- A slice of n bytes in a block of others. -/
def Row (w0 : World) (pd : Nat) (p : Pl) (pr : Nat) (q : RPl) (v : Value) (n : Nat) (W : World) : Prop :=
  n = 0 ∨ ∃ g c cs, v = .slice (some ⟨g, 0, none⟩) n c ∧ Blk W g 5 cs ∧ n ≤ cs.size ∧ (∀ i, i < n → ∃ z, cs[i]? = some (.int .u8 z)) ∧ Out pd p pr q g ∧ w0.heap.size ≤ g

section
variable {w0 W W' : World} {pd : Nat} {p p' : Pl} {D D' : DS} {pr : Nat} {q q' : RPl} {R R' : RS} {v : Value} {n : Nat}
theorem Row.of_own {base : Nat} {l : List UInt8} (h : W.ownsRow base 5 1 v n (l.map bv)) (hO : ∀ k, base ≤ k → Out pd p pr q k) (hb : w0.heap.size ≤ base) : Row w0 pd p pr q v n W := by
  rcases h.2 with ⟨_, hn⟩ | ⟨g, cap, cur, hv, hg, hB, hnc, hcm, hsz, htk⟩
  · exact .inl hn
  · have hl : l.length = n := by have := h.1; simpa using this
    refine .inr ⟨g, cap, cur, hv, hB, by omega, fun i hi => ?_, hO g hg, by omega⟩
    have h1 : (cur.toList.take (n * 1))[i]? = (l.map bv)[i]? := by rw [htk]
    have h2 : (l.map bv)[i]? = some (bv (l[i]'(by omega))) := by rw [List.getElem?_map, List.getElem?_eq_getElem (by omega)]; rfl
    rw [Nat.mul_one, List.getElem?_take, if_pos hi, h2] at h1
    exact ⟨_, by rw [← Array.getElem?_toList]; exact h1⟩
theorem Row.at_ (h : Row w0 pd p pr q v n W) (hB : Both w0 pd p D pr q R W) {i : Nat} (hi : i < n) :
    ∃ g c z, v = .slice (some ⟨g, 0, none⟩) n c ∧ W.cell? ⟨g, i, none⟩ = some (.int .u8 z) ∧ W.frozen? ⟨g, i, none⟩ = false ∧ ∀ z', Row w0 pd p pr q v n (W.setCell ⟨g, i, none⟩ (.int .u8 z')) ∧ Both w0 pd p D pr q R (W.setCell ⟨g, i, none⟩ (.int .u8 z')) := by
  rcases h with h | ⟨g, c, cs, hv, hBk, hsz, hcs, hOut, hg⟩
  · omega
  · obtain ⟨z, hz⟩ := hcs i hi
    refine ⟨g, c, z, hv, by rw [hBk.cell]; exact hz, hBk.frozen i, fun z' => ⟨.inr ⟨g, c, _, hv, hBk.set_ i _, by simpa using hsz, fun k hk => ?_, hOut, hg⟩, ?_⟩⟩
    · by_cases hki : i = k
      · subst hki
        exact ⟨z', by rw [Array.getElem?_setIfInBounds_self_of_lt (by omega)]⟩
      · rw [Array.getElem?_setIfInBounds_ne hki]
        exact hcs k hk
    · exact hB.far (F := fun k => k = g) (Fr.setCell (fun k => k = g) W (p := ⟨g, i, none⟩) (fun _ => rfl) _) (fun k hk => by rw [hk]; exact ⟨hg, hOut.d, hOut.r⟩)
theorem Row.dAct (h : Row w0 pd p pr q v n W) (a : Acts W pd p D' W' p') : Row w0 pd p' pr q v n W' := by
  rcases h with h | ⟨g, c, cs, hv, hBk, hsz, hcs, hOut, hg⟩
  · exact .inl h
  · exact .inr ⟨g, c, cs, hv, a.fr.blk hBk hOut.d, hsz, hcs, hOut.dAct a hBk.lt, hg⟩
theorem Row.rAct (h : Row w0 pd p pr q v n W) (a : RActs W pr q R' W' q') : Row w0 pd p pr q' v n W' := by
  rcases h with h | ⟨g, c, cs, hv, hBk, hsz, hcs, hOut, hg⟩
  · exact .inl h
  · exact .inr ⟨g, c, cs, hv, a.fr.blk hBk hOut.r, hsz, hcs, hOut.rAct a hBk.lt, hg⟩
theorem Row.below (h : Row w0 pd p pr q v n W) (hb : Below W.heap.size W W') : Row w0 pd p pr q v n W' := by
  rcases h with h | ⟨g, c, cs, hv, hBk, hsz, hcs, hOut, hg⟩
  · exact .inl h
  · exact .inr ⟨g, c, cs, hv, hBk.keep hb, hsz, hcs, hOut, hg⟩
theorem RActs.blk {g t : Nat} {cs : Array Value} (a : RActs W pr q R' W' q') (hB : Blk W g t cs) (hn : ¬ q.F pr g) : Blk W' g t cs := a.fr.blk hB hn
end

/-- Write of two parts, as a statement's call leaves it. -/
theorem write_two {W : World} {pd : Nat} {p : Pl} {d : DS} {n : Int} {B1 B2 : Option Addr} {l1 l2 : List UInt8} {n1 n2 c1 c2 : Nat} (hD : DiskAt pd p d W) (ok : d.Ok) (h1 : l1.length = n1) (h2 : l2.length = n2) (hk : n1 + n2 ≤ 140737488351232) (hr1 : Rd W B1 l1) (hr2 : Rd W B2 l2) :
    Calls Try.prog 13 #[.pointer (some ⟨pd, 0, none⟩), .int .i64 n, .slice (some ⟨W.heap.size, 0, none⟩) 2 2] (W.alloc (.cells #[.slice B1 n1 c1, .slice B2 n2 c2] 33)).drew
      fun e w' => e = .returned (.int .i64 (d.write n (l1 ++ l2)).1) ∧ ∃ p', Acts W pd p (d.write n (l1 ++ l2)).2 w' p' := by
  have hb : Below W.heap.size W (W.alloc (.cells #[.slice B1 n1 c1, .slice B2 n2 c2] 33)).drew := (below_alloc W _).drew
  refine (write_any (n := n) (c := 2) (A := some ⟨W.heap.size, 0, none⟩) (ls := [l1, l2]) (l := l1 ++ l2) (m := 2) (hD.keep hb) ok (by simp) rfl (by omega) (by simp; omega) ((rdl_two hr1 h1 hr2 h2).below (Below.refl _ _).drew)).mono ?_
  rintro e w' ⟨he, p', hA⟩
  exact ⟨he, p', hA.disk, (Fr.of_below hb _).same hA.fr, fun k hk => by
    rcases hA.grown k hk with h | h
    · exact .inl h
    · exact .inr (Nat.le_trans hb.size h)⟩
theorem Rd.drop_ {w : World} {g off : Nat} {l : List UInt8} (h : Rd w (some ⟨g, off, none⟩) l) (n : Nat) : Rd w (some ⟨g, off + n, none⟩) (l.drop n) := by
  rcases h with rfl | ⟨b, o, hA, hc⟩
  · exact .inl (by simp)
  · injection hA with hA
    injection hA with e1 e2
    subst e1 e2
    refine .inr ⟨g, off + n, rfl, fun j hj => ?_⟩
    rw [List.length_drop] at hj
    rw [Nat.add_assoc, hc (n + j) (by omega)]
    simp

/-- What Copy and what is done to the elder one leave. -/
theorem copied {w0 W4 W5 W6 W7 : World} {pd pc : Nat} {p p' p7 : Pl} {D D7 : DS} {pr : Nat} {q : RPl} {R : RS} (hB : Both w0 pd p D pr q R W4) (hb5 : Below W4.heap.size W4 W5) (hD5 : DiskAt pc p' D W5) (hF : ∀ k, p'.F pc k → W4.heap.size ≤ k ∨ (D.off = true ∧ k = p.ch))
    (hf6 : Fr (fun k => k = pd) W5 W6) (hA7 : Acts W6 pd { p with ch := W5.heap.size, s := 0, r := 0 } D7 W7 p7) : Both w0 pc p' D pr q R W7 := by
  have hB5 := hB.below hb5
  have hpd4 : pd < W4.heap.size := hB.own.disk.obj.lt
  have hne := hB.own.disk.ne_ch
  have hnl := hB.own.disk.ne_lv
  have hlt := hB.own.disk.lt
  have h6 : ∀ k, p'.F pc k → ¬ k = pd := fun k hk e => by
    rcases hF k hk with h1 | ⟨_, h1⟩
    · omega
    · exact hne.1 (by rw [← h1]; exact e)
  have h7 : ∀ k, p'.F pc k → ¬ Pl.F pd { p with ch := W5.heap.size, s := 0, r := 0 } k := fun k hk hk2 => by
    have hk5 := hD5.lt k hk
    have hk2' : k = pd ∨ k = p.gb ∨ p.lv.ownBlock = some k ∨ k = W5.heap.size := hk2
    rcases hF k hk with h1 | ⟨_, h1⟩
    · rcases hk2' with e | e | e | e
      · omega
      · have := hlt p.gb (.inr (.inl rfl)); omega
      · have := hlt k (.inr (.inr (.inl e))); omega
      · omega
    · rcases hk2' with e | e | e | e
      · exact h6 k hk e
      · exact hne.2 (by rw [← h1]; exact e)
      · exact (hnl k e).2.2 h1
      · omega
  have hq6 : ∀ k, q.F pr k → ¬ k = pd := fun k hk e => hB.apart pd (.inl rfl) (e ▸ hk)
  have hq7 : ∀ k, q.F pr k → ¬ Pl.F pd { p with ch := W5.heap.size, s := 0, r := 0 } k := fun k hk hk2 => by
    have hk4 := hB.ref.lt k hk
    have hk2' : k = pd ∨ k = p.gb ∨ p.lv.ownBlock = some k ∨ k = W5.heap.size := hk2
    rcases hk2' with e | e | e | e
    · exact hq6 k hk e
    · exact hB.apart k (.inr (.inl e)) hk
    · exact hB.apart k (.inr (.inr (.inl e))) hk
    · have := hb5.size; omega
  have hpd0 := hB.own.own pd (.inl rfl)
  have b6 : Below w0.heap.size w0 W6 := hB5.own.bel.trans (hf6.below hB5.own.bel.size (fun k hk => by subst hk; exact hpd0))
  refine ⟨⟨(hD5.far hf6 h6).far hA7.fr h7, b6.trans (hA7.fr.below b6.size (fun k hk => ?_)), fun k hk => ?_⟩, (hB5.ref.far hf6 hq6).far hA7.fr hq7, hB.rown, fun k hk hq => ?_⟩
  · have hk' : k = pd ∨ k = p.gb ∨ p.lv.ownBlock = some k ∨ k = W5.heap.size := hk
    rcases hk' with e | e | e | e
    · exact hB.own.own k (.inl e)
    · exact hB.own.own k (.inr (.inl e))
    · exact hB.own.own k (.inr (.inr (.inl e)))
    · have := hB5.own.bel.size; omega
  · rcases hF k hk with h1 | ⟨_, h1⟩
    · exact Nat.le_trans hB.own.bel.size h1
    · exact hB.own.own k (.inr (.inr (.inr h1)))
  · rcases hF k hk with h1 | ⟨_, h1⟩
    · have := hB.ref.lt k hq; omega
    · exact hB.apart k (.inr (.inr (.inr h1))) hq
end Go.Proofs.Ytclbhhgifjegiaa
