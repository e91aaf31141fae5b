/- The reference's disk in memory, and the walks of its functions. -/
import Derived.Test.YtclbhhgifjegiaaOffW
namespace Go.Proofs.Ytclbhhgifjegiaa
open Go.RowKit
set_option linter.unusedVariables false
attribute [local go_sem ↓] Go.wp_at_zero Go.wp_at_succ

/-- What a disk of the reference is. -/
structure RS where
  n : Nat
  size : Nat
  b : List (List UInt8)
  w : List Int
  left : Int
  off : Bool
structure RPl where
  gb : Nat
  lv : Value
def RPl.F (pr : Nat) (q : RPl) (k : Nat) : Prop := k = pr ∨ k = q.gb ∨ q.lv.ownBlock = some k
structure RS.Ok (r : RS) : Prop where
  n1 : 1 ≤ r.n
  n2 : r.n ≤ 16384
  s1 : 64 ≤ r.size
  s2 : r.size ≤ 4096
  l1 : -1 ≤ r.left
  l2 : r.left ≤ 9223372036854775807
  lg : r.w.length ≤ 1000000
  len : r.b.length = r.n
  bs : ∀ i, (h : i < r.b.length) → r.b[i].length ≤ r.size
structure RefAt (pr : Nat) (q : RPl) (r : RS) (w : World) : Prop where
  obj : Blk w pr 51 #[.int .i64 (r.n : Int), .int .i64 (r.size : Int), .slice (some ⟨q.gb, 0, none⟩) r.n r.n, q.lv, .int .i64 r.left, .bool r.off]
  row : Blk w q.gb 9 (r.b.map sv).toArray
  log : w.ownsRow 0 3 1 q.lv r.w.length (r.w.map iv)
structure RActs (w : World) (pr : Nat) (q : RPl) (r' : RS) (w' : World) (q' : RPl) : Prop where
  ref : RefAt pr q' r' w'
  fr : Fr (q.F pr) w w'
  grown : ∀ k, q'.F pr k → q.F pr k ∨ w.heap.size ≤ k

theorem ownsRow_of_block {w w' : World} {base e size : Nat} {v : Value} {n : Nat} {xs : List Value} (h : w.ownsRow base e size v n xs) (hb : ∀ k, v.ownBlock = some k → w'.heap[k]? = w.heap[k]?) : w'.ownsRow base e size v n xs := by
  refine ⟨h.1, ?_⟩
  rcases h.2 with h1 | ⟨g, cap, cur, hv, h1, h2, h3⟩
  · exact .inl h1
  · exact .inr ⟨g, cap, cur, hv, h1, (hb g (by rw [hv]; rfl)).trans h2, h3⟩

section
variable {pr : Nat} {q : RPl} {r : RS} {w w' : World} {n : Int} {p : List UInt8}
theorem RefAt.lt (h : RefAt pr q r w) : ∀ k, q.F pr k → k < w.heap.size := by
  rintro k (rfl | rfl | hk)
  · exact h.obj.lt
  · exact h.row.lt
  · exact (h.log.lt k hk).2
/-- What turns nothing of it leaves it. -/
theorem RefAt.far {F : Nat → Prop} (h : RefAt pr q r w) (hf : Fr F w w') (hd : ∀ k, q.F pr k → ¬ F k) : RefAt pr q r w' :=
  ⟨hf.blk h.obj (hd _ (.inl rfl)), hf.blk h.row (hd _ (.inr (.inl rfl))), ownsRow_of_block h.log fun k hk => hf.block k (h.lt k (.inr (.inr hk))) (hd k (.inr (.inr hk)))⟩
theorem RefAt.keep (h : RefAt pr q r w) (hb : Below w.heap.size w w') : RefAt pr q r w' := h.far (F := fun _ => False) (Fr.of_below hb _) (fun _ _ hf => hf)
theorem RActs.quiet (h : RefAt pr q r w) (hb : Below w.heap.size w w') : RActs w pr q r w' q := ⟨h.keep hb, Fr.of_below hb _, fun k hk => .inl hk⟩
theorem RefAt.cells (h : RefAt pr q r w) :
    w.cell? ⟨pr, 0, none⟩ = some (.int .i64 (r.n : Int)) ∧ w.cell? ⟨pr, 1, none⟩ = some (.int .i64 (r.size : Int)) ∧ w.cell? ⟨pr, 2, none⟩ = some (.slice (some ⟨q.gb, 0, none⟩) r.n r.n) ∧ w.cell? ⟨pr, 3, none⟩ = some q.lv ∧ w.cell? ⟨pr, 4, none⟩ = some (.int .i64 r.left) ∧ w.cell? ⟨pr, 5, none⟩ = some (.bool r.off) :=
  ⟨h.obj.cell 0, h.obj.cell 1, h.obj.cell 2, h.obj.cell 3, h.obj.cell 4, h.obj.cell 5⟩
theorem RefAt.ne_gb (h : RefAt pr q r w) : q.gb ≠ pr := by
  intro e
  have h1 := h.row
  rw [e] at h1
  have h2 := h.obj
  unfold Blk at h1 h2
  rw [h1] at h2
  injection h2 with h2
  injection h2 with _ h3
  exact absurd h3 (by decide)
theorem RefAt.ne_lv (h : RefAt pr q r w) : ∀ k, q.lv.ownBlock = some k → k ≠ pr ∧ k ≠ q.gb := by
  intro k hk
  rcases h.log.2 with ⟨hv, _⟩ | ⟨g, cap, cur, hv, _, hg, _⟩
  · rw [hv] at hk; simp [Value.ownBlock] at hk
  · rw [hv] at hk
    simp [Value.ownBlock] at hk
    subst hk
    refine ⟨fun e => ?_, fun e => ?_⟩
    · have h2 := h.obj
      unfold Blk at h2
      rw [← e, hg] at h2
      injection h2 with h2
      injection h2 with _ h3
      exact absurd h3 (by decide)
    · have h2 := h.row
      unfold Blk at h2
      rw [← e, hg] at h2
      injection h2 with h2
      injection h2 with _ h3
      exact absurd h3 (by decide)
theorem RefAt.log_far (h : RefAt pr q r w) {g i : Nat} {v : Value} (hne : ∀ k, q.lv.ownBlock = some k → k ≠ g) : (w.setCell ⟨g, i, none⟩ v).ownsRow 0 3 1 q.lv r.w.length (r.w.map iv) :=
  ownsRow_of_block h.log fun k hk => Below.heap_setCell _ _ _ _ (hne k hk)
theorem RefAt.setLeft (h : RefAt pr q r w) (x : Int) : RefAt pr q { r with left := x } (w.setCell ⟨pr, 4, none⟩ (.int .i64 x)) :=
  ⟨h.obj.set_ 4 _, h.row.far h.ne_gb _, h.log_far fun k hk => (h.ne_lv k hk).1⟩
theorem RefAt.setOff (h : RefAt pr q r w) (x : Bool) : RefAt pr q { r with off := x } (w.setCell ⟨pr, 5, none⟩ (.bool x)) :=
  ⟨h.obj.set_ 5 _, h.row.far h.ne_gb _, h.log_far fun k hk => (h.ne_lv k hk).1⟩
theorem RefAt.setB (h : RefAt pr q r w) (i : Nat) (x : List UInt8) : RefAt pr q { r with b := r.b.set i x } (w.setCell ⟨q.gb, i, none⟩ (sv x)) := by
  refine ⟨h.obj.far (Ne.symm h.ne_gb) _, ?_, h.log_far fun k hk => (h.ne_lv k hk).2⟩
  have := h.row.set_ i (sv x)
  rwa [set_map_sv] at this
theorem RefAt.setLog (h : RefAt pr q r w) {v' : Value} (ho : w'.ownsRow 0 3 1 v' (r.w.length + 1) (r.w.map iv ++ [iv n])) (hg : w.grownBy w' q.lv.ownBlock) (hat : v'.ownBlock = q.lv.ownBlock ∨ v'.ownBlock = some w.heap.size) :
    RefAt pr { q with lv := v' } { r with w := r.w ++ [n] } (w'.setCell ⟨pr, 3, none⟩ v') := by
  have ho2 := h.obj.grown hg (by intro e; exact (h.ne_lv pr e.symm).1 rfl)
  have hr2 := h.row.grown hg (by intro e; exact (h.ne_lv q.gb e.symm).2 rfl)
  have hne : ∀ k, v'.ownBlock = some k → k ≠ pr := by
    intro k hk e
    rcases hat with e1 | e1
    · rw [e1] at hk; exact (h.ne_lv k hk).1 e
    · rw [e1] at hk; injection hk with hk; have := h.obj.lt; omega
  refine ⟨ho2.set_ 3 _, hr2.far h.ne_gb _, ?_⟩
  have h3 : (w'.setCell ⟨pr, 3, none⟩ v').ownsRow 0 3 1 v' (r.w.length + 1) (r.w.map iv ++ [iv n]) := ownsRow_of_block ho fun k hk => Below.heap_setCell _ _ _ _ (hne k hk)
  simpa using h3

def RS.write (r : RS) (n : Int) (p : List UInt8) : Nat × RS :=
  if n < 0 ∨ (r.n : Int) ≤ n then (2, r) else if r.size < p.length then (1, r) else if r.off = true ∨ r.left = 0 then (20, { r with off := true })
  else (0, { r with left := if 0 < r.left then r.left - 1 else r.left, b := r.b.set n.toNat p, w := r.w ++ [n] })
def RWriteEnds (w : World) (pr : Nat) (q : RPl) (r : RS) (n : Int) (p : List UInt8) (e : Ending) (w' : World) : Prop :=
  e = .returned (.int .i64 (r.write n p).1) ∧ ∃ q', RActs w pr q (r.write n p).2 w' q'

set_option maxHeartbeats 600000 in
theorem rwrite_no (h : RefAt pr q r w) (ok : r.Ok) (hp : p.length ≤ 140737488351232) (hh : (n < 0 ∨ (r.n : Int) ≤ n) ∨ r.size < p.length ∨ r.off = true ∨ r.left = 0) :
    Calls Try.prog 19 #[.pointer (some ⟨pr, 0, none⟩), .int .i64 n, .string ⟨p.toArray⟩] w (RWriteEnds w pr q r n p) := by
  obtain ⟨c0, c1, c2, c3, c4, c5⟩ := h.cells
  by_cases h1 : n < 0 ∨ (r.n : Int) ≤ n
  · have HW := Lib.hid (show r.write n p = (2, r) by unfold RS.write; rw [if_pos h1])
    have hq := RActs.quiet h (Below.refl _ _)
    clear hh
    by_cases h0 : n < 0
    · have hd : decide (n < 0) = true := by simpa using h0
      go_enter Try.func19, Try.ntmps19
      go_wp2
      go_ret
      exact ⟨by rw [HW.out]; rfl, q, by rw [HW.out]; exact hq⟩
    · have hd : decide (n < 0) = false := by simpa using h0
      have hd2 : decide ((r.n : Int) ≤ n) = true := by simp; omega
      go_enter Try.func19, Try.ntmps19
      go_wp2
      go_ret
      exact ⟨by rw [HW.out]; rfl, q, by rw [HW.out]; exact hq⟩
  · have hd : decide (n < 0) = false := by simp; omega
    have hd2 : decide ((r.n : Int) ≤ n) = false := by simp; omega
    by_cases h2 : r.size < p.length
    · have HW := Lib.hid (show r.write n p = (1, r) by unfold RS.write; rw [if_neg h1, if_pos h2])
      have hq := RActs.quiet h (Below.refl _ _)
      have hd3 : decide (r.size < p.length) = true := by simpa using h2
      clear hh
      go_enter Try.func19, Try.ntmps19
      go_wp2
      go_ret
      exact ⟨by rw [HW.out]; rfl, q, by rw [HW.out]; exact hq⟩
    · have h3 : r.off = true ∨ r.left = 0 := by
        rcases hh with hh | hh | hh | hh
        · exact absurd hh h1
        · exact absurd hh h2
        · exact .inl hh
        · exact .inr hh
      have HW := Lib.hid (show r.write n p = (20, { r with off := true }) by unfold RS.write; rw [if_neg h1, if_neg h2, if_pos h3])
      have HQ : Hid (RActs w pr q { r with off := true } (w.setCell ⟨pr, 5, none⟩ (.bool true)) q) := ⟨h.setOff true, Fr.setCell _ _ (fun _ => .inl rfl) _, fun k hk => .inl hk⟩
      have hd3 : decide (r.size < p.length) = false := by simpa using h2
      have f5 := h.obj.frozen 5
      clear hh
      cases ho : r.off with
      | true =>
        rw [ho] at c5
        clear ho h3
        go_enter Try.func19, Try.ntmps19
        go_wp2
        go_ret
        exact ⟨by rw [HW.out]; rfl, q, by rw [HW.out]; exact HQ.out⟩
      | false =>
        rw [ho] at c5 h3
        have hl0 : r.left = 0 := by
          rcases h3 with h3 | h3
          · cases h3
          · exact h3
        rw [hl0] at c4
        clear ho h3 hl0
        go_enter Try.func19, Try.ntmps19
        go_wp2
        go_ret
        exact ⟨by rw [HW.out]; rfl, q, by rw [HW.out]; exact HQ.out⟩
end
end Go.Proofs.Ytclbhhgifjegiaa
