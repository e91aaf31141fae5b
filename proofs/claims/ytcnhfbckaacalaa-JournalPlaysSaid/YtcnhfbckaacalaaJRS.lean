/- The disk of the document (embersref02): its walks; it does as the program disk does. Sealed blocks as the document has them (embersref03): its walks. -/
import Derived.Test.YtcnhfbckaacalaaJouG
import Derived.Deep.DrawnRows
import Derived.Deep.RegionHeld3
import Derived.Lib.SlBytesConst
import Derived.Lib.SmallJoins
import Derived.Lib.AppendZerosOnto
import Derived.Lib.EndianMore
import Derived.Deep.QuietTactic
import Derived.BigQuiet
import Derived.Lib.IndexBytes
import Derived.Lib.Strings
import Derived.RegionTactic
import Derived.IntWalk
namespace Go.Proofs.Ytcnhfbckaacalaa
section
open Go.RowKit
set_option linter.unusedVariables false

def sv (l : List UInt8) : Value := .string ⟨l.toArray⟩
theorem set_map_sv (want : List (List UInt8)) (N : Nat) (p : List UInt8) : (want.map sv).toArray.setIfInBounds N (sv p) = ((want.set N p).map sv).toArray := by
  rw [List.map_set]; simp
theorem fresh_block (nb size i : Nat) (hi : i < nb) : (DS.fresh nb size).blockB i = padB size [] := by
  unfold DS.blockB DS.fresh padB
  simp
  have : i * size + size ≤ nb * size := by have := Nat.mul_le_mul_right size (show i + 1 ≤ nb from hi); rwa [Nat.succ_mul] at this
  omega
def DS.back (D : DS) : DS := { D with left := -1, off := false }
theorem back_ok {D : DS} (ok : D.Ok) : D.back.Ok := ⟨ok.s1, ok.s2, ok.n1, ok.n2, ok.len, by show (-1 : Int) ≤ -1; omega, by show (-1 : Int) ≤ _; omega, ok.lg⟩
theorem strsT : ElT Try.prog 42 9 (.string ⟨#[]⟩) 1 16 := ⟨Try.underlying42, by kernel_rfl, rfl, by omega⟩
theorem svs_one (l : List (List UInt8)) : ∀ u ∈ l.map sv, u.oneCell' = true := by
  intro u hu
  obtain ⟨x, _, rfl⟩ := List.mem_map.1 hu
  rfl
attribute [local go_sem ↓] Go.wp_at_zero Go.wp_at_succ

/-- What a disk of the reference is. -/
structure RS where
  n : Nat
  size : Nat
  b : List (List UInt8)
  w : List Int
  left : Int
  off : Bool
structure RPl where
  gb : Nat
  lv : Value
def RPl.F (pr : Nat) (q : RPl) (k : Nat) : Prop := k = pr ∨ k = q.gb ∨ q.lv.ownBlock = some k
structure RS.Ok (r : RS) : Prop where
  n1 : 1 ≤ r.n
  n2 : r.n ≤ 16384
  s1 : 64 ≤ r.size
  s2 : r.size ≤ 4096
  l1 : -1 ≤ r.left
  l2 : r.left ≤ 9223372036854775807
  lg : r.w.length ≤ 1000000
  len : r.b.length = r.n
  bs : ∀ i, (h : i < r.b.length) → r.b[i].length ≤ r.size
structure RefAt (pr : Nat) (q : RPl) (r : RS) (w : World) : Prop where
  obj : Blk w pr 85 #[.int .i64 (r.n : Int), .int .i64 (r.size : Int), .slice (some ⟨q.gb, 0, none⟩) r.n r.n, q.lv, .int .i64 r.left, .bool r.off]
  row : Blk w q.gb 9 (r.b.map sv).toArray
  log : w.ownsRow 0 3 1 q.lv r.w.length (r.w.map iv)
structure RActs (w : World) (pr : Nat) (q : RPl) (r' : RS) (w' : World) (q' : RPl) : Prop where
  ref : RefAt pr q' r' w'
  fr : Fr (q.F pr) w w'
  grown : ∀ k, q'.F pr k → q.F pr k ∨ w.heap.size ≤ k

theorem ownsRow_of_block {w w' : World} {base e size : Nat} {v : Value} {n : Nat} {xs : List Value} (h : w.ownsRow base e size v n xs) (hb : ∀ k, v.ownBlock = some k → w'.heap[k]? = w.heap[k]?) : w'.ownsRow base e size v n xs := by
  refine ⟨h.1, ?_⟩
  rcases h.2 with h1 | ⟨g, cap, cur, hv, h1, h2, h3⟩
  · exact .inl h1
  · exact .inr ⟨g, cap, cur, hv, h1, (hb g (by rw [hv]; rfl)).trans h2, h3⟩

section
variable {pr : Nat} {q : RPl} {r : RS} {w w' : World} {n : Int} {p : List UInt8}
theorem RefAt.lt (h : RefAt pr q r w) : ∀ k, q.F pr k → k < w.heap.size := by
  rintro k (rfl | rfl | hk)
  · exact h.obj.lt
  · exact h.row.lt
  · exact (h.log.lt k hk).2
/-- What turns nothing of it leaves it. -/
theorem RefAt.far {F : Nat → Prop} (h : RefAt pr q r w) (hf : Fr F w w') (hd : ∀ k, q.F pr k → ¬ F k) : RefAt pr q r w' :=
  ⟨hf.blk h.obj (hd _ (.inl rfl)), hf.blk h.row (hd _ (.inr (.inl rfl))), ownsRow_of_block h.log fun k hk => hf.block k (h.lt k (.inr (.inr hk))) (hd k (.inr (.inr hk)))⟩
theorem RefAt.keep (h : RefAt pr q r w) (hb : Below w.heap.size w w') : RefAt pr q r w' := h.far (F := fun _ => False) (Fr.of_below hb _) (fun _ _ hf => hf)
theorem RActs.quiet (h : RefAt pr q r w) (hb : Below w.heap.size w w') : RActs w pr q r w' q := ⟨h.keep hb, Fr.of_below hb _, fun k hk => .inl hk⟩
theorem RefAt.cells (h : RefAt pr q r w) :
    w.cell? ⟨pr, 0, none⟩ = some (.int .i64 (r.n : Int)) ∧ w.cell? ⟨pr, 1, none⟩ = some (.int .i64 (r.size : Int)) ∧ w.cell? ⟨pr, 2, none⟩ = some (.slice (some ⟨q.gb, 0, none⟩) r.n r.n) ∧ w.cell? ⟨pr, 3, none⟩ = some q.lv ∧ w.cell? ⟨pr, 4, none⟩ = some (.int .i64 r.left) ∧ w.cell? ⟨pr, 5, none⟩ = some (.bool r.off) :=
  ⟨h.obj.cell 0, h.obj.cell 1, h.obj.cell 2, h.obj.cell 3, h.obj.cell 4, h.obj.cell 5⟩
theorem RefAt.ne_gb (h : RefAt pr q r w) : q.gb ≠ pr := by
  intro e
  have h1 := h.row
  rw [e] at h1
  have h2 := h.obj
  unfold Blk at h1 h2
  rw [h1] at h2
  injection h2 with h2
  injection h2 with _ h3
  exact absurd h3 (by decide)
theorem RefAt.ne_lv (h : RefAt pr q r w) : ∀ k, q.lv.ownBlock = some k → k ≠ pr ∧ k ≠ q.gb := by
  intro k hk
  rcases h.log.2 with ⟨hv, _⟩ | ⟨g, cap, cur, hv, _, hg, _⟩
  · rw [hv] at hk; simp [Value.ownBlock] at hk
  · rw [hv] at hk
    simp [Value.ownBlock] at hk
    subst hk
    refine ⟨fun e => ?_, fun e => ?_⟩
    · have h2 := h.obj
      unfold Blk at h2
      rw [← e, hg] at h2
      injection h2 with h2
      injection h2 with _ h3
      exact absurd h3 (by decide)
    · have h2 := h.row
      unfold Blk at h2
      rw [← e, hg] at h2
      injection h2 with h2
      injection h2 with _ h3
      exact absurd h3 (by decide)
theorem RefAt.log_far (h : RefAt pr q r w) {g i : Nat} {v : Value} (hne : ∀ k, q.lv.ownBlock = some k → k ≠ g) : (w.setCell ⟨g, i, none⟩ v).ownsRow 0 3 1 q.lv r.w.length (r.w.map iv) :=
  ownsRow_of_block h.log fun k hk => Below.heap_setCell _ _ _ _ (hne k hk)
theorem RefAt.setLeft (h : RefAt pr q r w) (x : Int) : RefAt pr q { r with left := x } (w.setCell ⟨pr, 4, none⟩ (.int .i64 x)) :=
  ⟨h.obj.set_ 4 _, h.row.far h.ne_gb _, h.log_far fun k hk => (h.ne_lv k hk).1⟩
theorem RefAt.setOff (h : RefAt pr q r w) (x : Bool) : RefAt pr q { r with off := x } (w.setCell ⟨pr, 5, none⟩ (.bool x)) :=
  ⟨h.obj.set_ 5 _, h.row.far h.ne_gb _, h.log_far fun k hk => (h.ne_lv k hk).1⟩
theorem RefAt.setB (h : RefAt pr q r w) (i : Nat) (x : List UInt8) : RefAt pr q { r with b := r.b.set i x } (w.setCell ⟨q.gb, i, none⟩ (sv x)) := by
  refine ⟨h.obj.far (Ne.symm h.ne_gb) _, ?_, h.log_far fun k hk => (h.ne_lv k hk).2⟩
  have := h.row.set_ i (sv x)
  rwa [set_map_sv] at this
theorem RefAt.setLog (h : RefAt pr q r w) {v' : Value} (ho : w'.ownsRow 0 3 1 v' (r.w.length + 1) (r.w.map iv ++ [iv n])) (hg : w.grownBy w' q.lv.ownBlock) (hat : v'.ownBlock = q.lv.ownBlock ∨ v'.ownBlock = some w.heap.size) :
    RefAt pr { q with lv := v' } { r with w := r.w ++ [n] } (w'.setCell ⟨pr, 3, none⟩ v') := by
  have ho2 := h.obj.grown hg (by intro e; exact (h.ne_lv pr e.symm).1 rfl)
  have hr2 := h.row.grown hg (by intro e; exact (h.ne_lv q.gb e.symm).2 rfl)
  have hne : ∀ k, v'.ownBlock = some k → k ≠ pr := by
    intro k hk e
    rcases hat with e1 | e1
    · rw [e1] at hk; exact (h.ne_lv k hk).1 e
    · rw [e1] at hk; injection hk with hk; have := h.obj.lt; omega
  refine ⟨ho2.set_ 3 _, hr2.far h.ne_gb _, ?_⟩
  have h3 : (w'.setCell ⟨pr, 3, none⟩ v').ownsRow 0 3 1 v' (r.w.length + 1) (r.w.map iv ++ [iv n]) := ownsRow_of_block ho fun k hk => Below.heap_setCell _ _ _ _ (hne k hk)
  simpa using h3

def RS.write (r : RS) (n : Int) (p : List UInt8) : Nat × RS :=
  if n < 0 ∨ (r.n : Int) ≤ n then (2, r) else if r.size < p.length then (1, r) else if r.off = true ∨ r.left = 0 then (20, { r with off := true })
  else (0, { r with left := if 0 < r.left then r.left - 1 else r.left, b := r.b.set n.toNat p, w := r.w ++ [n] })
def RWriteEnds (w : World) (pr : Nat) (q : RPl) (r : RS) (n : Int) (p : List UInt8) (e : Ending) (w' : World) : Prop :=
  e = .returned (.int .i64 (r.write n p).1) ∧ ∃ q', RActs w pr q (r.write n p).2 w' q'

set_option maxHeartbeats 600000 in
theorem rwrite_no (h : RefAt pr q r w) (ok : r.Ok) (hp : p.length ≤ 140737488351232) (hh : (n < 0 ∨ (r.n : Int) ≤ n) ∨ r.size < p.length ∨ r.off = true ∨ r.left = 0) :
    Calls Try.prog 34 #[.pointer (some ⟨pr, 0, none⟩), .int .i64 n, .string ⟨p.toArray⟩] w (RWriteEnds w pr q r n p) := by
  obtain ⟨c0, c1, c2, c3, c4, c5⟩ := h.cells
  by_cases h1 : n < 0 ∨ (r.n : Int) ≤ n
  · have HW := Lib.hid (show r.write n p = (2, r) by unfold RS.write; rw [if_pos h1])
    have hq := RActs.quiet h (Below.refl _ _)
    clear hh
    by_cases h0 : n < 0
    · have hd : decide (n < 0) = true := by simpa using h0
      go_enter Try.func34, Try.ntmps34
      go_wp2
      go_ret
      exact ⟨by rw [HW.out]; rfl, q, by rw [HW.out]; exact hq⟩
    · have hd : decide (n < 0) = false := by simpa using h0
      have hd2 : decide ((r.n : Int) ≤ n) = true := by simp; omega
      go_enter Try.func34, Try.ntmps34
      go_wp2
      go_ret
      exact ⟨by rw [HW.out]; rfl, q, by rw [HW.out]; exact hq⟩
  · have hd : decide (n < 0) = false := by simp; omega
    have hd2 : decide ((r.n : Int) ≤ n) = false := by simp; omega
    by_cases h2 : r.size < p.length
    · have HW := Lib.hid (show r.write n p = (1, r) by unfold RS.write; rw [if_neg h1, if_pos h2])
      have hq := RActs.quiet h (Below.refl _ _)
      have hd3 : decide (r.size < p.length) = true := by simpa using h2
      clear hh
      go_enter Try.func34, Try.ntmps34
      go_wp2
      go_ret
      exact ⟨by rw [HW.out]; rfl, q, by rw [HW.out]; exact hq⟩
    · have h3 : r.off = true ∨ r.left = 0 := by
        rcases hh with hh | hh | hh | hh
        · exact absurd hh h1
        · exact absurd hh h2
        · exact .inl hh
        · exact .inr hh
      have HW := Lib.hid (show r.write n p = (20, { r with off := true }) by unfold RS.write; rw [if_neg h1, if_neg h2, if_pos h3])
      have HQ : Hid (RActs w pr q { r with off := true } (w.setCell ⟨pr, 5, none⟩ (.bool true)) q) := ⟨h.setOff true, Fr.setCell _ _ (fun _ => .inl rfl) _, fun k hk => .inl hk⟩
      have hd3 : decide (r.size < p.length) = false := by simpa using h2
      have f5 := h.obj.frozen 5
      clear hh
      cases ho : r.off with
      | true =>
        rw [ho] at c5
        clear ho h3
        go_enter Try.func34, Try.ntmps34
        go_wp2
        go_ret
        exact ⟨by rw [HW.out]; rfl, q, by rw [HW.out]; exact HQ.out⟩
      | false =>
        rw [ho] at c5 h3
        have hl0 : r.left = 0 := by
          rcases h3 with h3 | h3
          · cases h3
          · exact h3
        rw [hl0] at c4
        clear ho h3 hl0
        go_enter Try.func34, Try.ntmps34
        go_wp2
        go_ret
        exact ⟨by rw [HW.out]; rfl, q, by rw [HW.out]; exact HQ.out⟩
end
attribute [local go_sem ↓] Go.wp_at_zero Go.wp_at_succ

section
variable {pr : Nat} {q : RPl} {r : RS} {w w' : World} {n : Int} {p : List UInt8}

set_option maxHeartbeats 1000000 in
theorem rwrite_ok (h : RefAt pr q r w) (ok : r.Ok) (hp : p.length ≤ 140737488351232) (h1 : ¬ (n < 0 ∨ (r.n : Int) ≤ n)) (h2 : ¬ r.size < p.length) (ho : r.off = false) (hl : r.left ≠ 0) :
    Calls Try.prog 34 #[.pointer (some ⟨pr, 0, none⟩), .int .i64 n, .string ⟨p.toArray⟩] w (RWriteEnds w pr q r n p) := by
  have HW := Lib.hid (show r.write n p = (0, { r with left := if 0 < r.left then r.left - 1 else r.left, b := r.b.set n.toNat p, w := r.w ++ [n] }) by unfold RS.write; rw [if_neg h1, if_neg h2, if_neg (by rw [ho]; simp [hl])])
  obtain ⟨N, rfl⟩ := Int.eq_ofNat_of_zero_le (show 0 ≤ n by omega)
  have hN : N < r.n := by omega
  have hd : decide ((r.n : Int) ≤ (N : Int)) = false := by simp; omega
  have hd' : decide (r.n ≤ N) = false := by simp; omega
  have hd3 : decide (r.size < p.length) = false := by simpa using h2
  have hq0 : (r.left == 0) = false := by simp [hl]
  obtain ⟨c0, c1, c2, c3, c4, c5⟩ := h.cells
  rw [ho] at c5
  have f4 := h.obj.frozen 4
  have hl1 := ok.l1
  have hl2 := ok.l2
  have hn2 := ok.n2
  clear ho hl h1 h2
  obtain ⟨R1, hR1⟩ : ∃ R, R = ({ r with left := if 0 < r.left then r.left - 1 else r.left } : RS) := ⟨_, rfl⟩
  have e1 : R1.n = r.n ∧ R1.b = r.b ∧ R1.w = r.w := by subst hR1; exact ⟨rfl, rfl, rfl⟩
  go_enter Try.func34, Try.ntmps34
  have HR1 := Lib.hid hR1
  have HE1 := Lib.hid e1
  clear hR1 e1
  by_cases hpos : 0 < r.left
  · have HF : Hid (RefAt pr q R1 (w.setCell ⟨pr, 4, none⟩ (.int .i64 (r.left - 1))) ∧ Fr (q.F pr) w (w.setCell ⟨pr, 4, none⟩ (.int .i64 (r.left - 1)))) :=
      ⟨by have := h.setLeft (r.left - 1); rw [HR1.out, if_pos hpos]; exact this, Fr.setCell _ _ (fun _ => .inl rfl) _⟩
    go_upto_region 10 with (fail)
    refine wp_world (fun W => RefAt pr q R1 W ∧ Fr (q.F pr) w W) HF.out ?_
    clear HF
    rintro w3 ⟨hR3, hfr3⟩
    clear c0 c1 c2 c3 c4 c5 f4
    obtain ⟨c0, c1, c2, c3, c4, c5⟩ := hR3.cells
    rw [HE1.out.1] at c2
    have hcl : w3.cell? ⟨q.gb, N, none⟩ = some (sv (r.b[N]'(by rw [ok.len]; exact hN))) := by
      rw [hR3.row.cell, HE1.out.2.1]
      simp [ok.len, hN]
    have hfz := hR3.row.frozen N
    go_upto_region 11 with (fail)
    have hR4 := hR3.setB N p
    have hfr4 := hfr3.trans (Fr.setCell (q.F pr) w3 (p := ⟨q.gb, N, none⟩) (fun _ => .inr (.inl rfl)) (sv p)) (fun _ _ g => g)
    refine wp_world (fun W => RefAt pr q { R1 with b := R1.b.set N p } W ∧ Fr (q.F pr) w W) ⟨hR4, hfr4⟩ ?_
    clear hR3 hfr3 hR4 hfr4 c0 c1 c2 c3 c4 c5 hcl hfz
    rintro w8 ⟨hD8, hfr8⟩
    have HFin := Lib.hid (show (r.write (N : Int) p) = (0, { ({ R1 with b := R1.b.set N p } : RS) with w := ({ R1 with b := R1.b.set N p } : RS).w ++ [(N : Int)] }) by
      rw [HW.out, HR1.out]; rfl)
    have hlog : ({ R1 with b := R1.b.set N p } : RS).w.length ≤ 1000000 := by
      show R1.w.length ≤ _
      rw [HE1.out.2.2]
      exact ok.lg
    generalize ({ R1 with b := R1.b.set N p } : RS) = D8 at *
    obtain ⟨c0, c1, c2, c3, c4, c5⟩ := hD8.cells
    have HD8 := Lib.hid (hD8.keep (below_alloc w8 (.cells #[.int .i64 (N : Int)] 3)))
    have hfr9 := hfr8.trans (Fr.alloc (q.F pr) w8 (.cells #[.int .i64 (N : Int)] 3)) (fun _ _ g => g)
    have HFR := Lib.hid hfr9
    clear hfr8 hfr9
    have HCS : Hid (Cs (w8.alloc (.cells #[.int .i64 (N : Int)] 3)) (some ⟨w8.heap.size, 0, none⟩) [iv N]) := .inr ⟨_, rfl, cell_one_new w8 (.int .i64 (N : Int)) 3⟩
    have hmx : D8.w.length + 1 ≤ maxLen := by simp only [maxLen]; omega
    have hbx : (D8.w.length + 1) * 8 ≤ 140737488355328 := by omega
    have hone : ∀ u ∈ [iv N], u.oneCell' = true := by intro u hu; simp at hu; subst hu; rfl
    go_upto_region 12 with (at_builtin; (with_reducible refine wpList_app intsT rfl (.tmp 64) (.tmp 66) rfl 0 q.lv D8.w.length (D8.w.map iv) rfl HD8.out.log (some ⟨w8.heap.size, 0, none⟩) 1 1 [iv N] rfl rfl HCS.out hone hmx hbx (Nat.zero_le _) ?_); intro v' w9 hown9 hgr9 hat9; obtain ⟨g9, cap9, hv9, _, _⟩ := hown9.form (by omega); subst hv9; have hob := HD8.out.obj.grown hgr9 (by intro e; exact (HD8.out.ne_lv pr e.symm).1 rfl); have d2 := hob.cell 3; have f2 := hob.frozen 3)
    have HL9 := Lib.hid (HD8.out.setLog hown9 hgr9 hat9)
    have HFR9 := Lib.hid ((HFR.out.trans (Fr.of_grown hgr9 (F := q.F pr) (fun k hk _ => .inr (.inr hk))) (fun _ _ g => g)).trans (Fr.setCell (q.F pr) w9 (p := ⟨pr, 3, none⟩) (fun _ => .inl rfl) (.slice (some ⟨g9, 0, none⟩) (D8.w.length + 1) cap9)) (fun _ _ g => g))
    have HGB := Lib.hid (show ∀ k, RPl.F pr { q with lv := .slice (some ⟨g9, 0, none⟩) (D8.w.length + 1) cap9 } k → q.F pr k ∨ w.heap.size ≤ k from by
      have hsz8 := HFR.out.size
      rintro k (h1 | h1 | h1)
      · exact .inl (.inl h1)
      · exact .inl (.inr (.inl h1))
      · rcases hat9 with h2 | h2
        · exact .inl (.inr (.inr (h2.symm.trans h1)))
        · rw [h2] at h1; injection h1 with h1; exact .inr (by omega))
    clear hown9 hgr9 hat9 hob d2 f2
    go_wp2
    go_ret
    refine ⟨by rw [HFin.out]; rfl, { q with lv := .slice (some ⟨g9, 0, none⟩) (D8.w.length + 1) cap9 }, ?_⟩
    rw [HFin.out]
    exact ⟨HL9.out, HFR9.out, HGB.out⟩
  · have HF : Hid (RefAt pr q R1 w ∧ Fr (q.F pr) w w) := ⟨by rw [HR1.out, if_neg hpos]; exact h, Fr.refl _ _⟩
    go_upto_region 10 with (fail)
    refine wp_world (fun W => RefAt pr q R1 W ∧ Fr (q.F pr) w W) HF.out ?_
    clear HF
    rintro w3 ⟨hR3, hfr3⟩
    clear c0 c1 c2 c3 c4 c5 f4
    obtain ⟨c0, c1, c2, c3, c4, c5⟩ := hR3.cells
    rw [HE1.out.1] at c2
    have hcl : w3.cell? ⟨q.gb, N, none⟩ = some (sv (r.b[N]'(by rw [ok.len]; exact hN))) := by
      rw [hR3.row.cell, HE1.out.2.1]
      simp [ok.len, hN]
    have hfz := hR3.row.frozen N
    go_upto_region 11 with (fail)
    have hR4 := hR3.setB N p
    have hfr4 := hfr3.trans (Fr.setCell (q.F pr) w3 (p := ⟨q.gb, N, none⟩) (fun _ => .inr (.inl rfl)) (sv p)) (fun _ _ g => g)
    refine wp_world (fun W => RefAt pr q { R1 with b := R1.b.set N p } W ∧ Fr (q.F pr) w W) ⟨hR4, hfr4⟩ ?_
    clear hR3 hfr3 hR4 hfr4 c0 c1 c2 c3 c4 c5 hcl hfz
    rintro w8 ⟨hD8, hfr8⟩
    have HFin := Lib.hid (show (r.write (N : Int) p) = (0, { ({ R1 with b := R1.b.set N p } : RS) with w := ({ R1 with b := R1.b.set N p } : RS).w ++ [(N : Int)] }) by
      rw [HW.out, HR1.out]; rfl)
    have hlog : ({ R1 with b := R1.b.set N p } : RS).w.length ≤ 1000000 := by
      show R1.w.length ≤ _
      rw [HE1.out.2.2]
      exact ok.lg
    generalize ({ R1 with b := R1.b.set N p } : RS) = D8 at *
    obtain ⟨c0, c1, c2, c3, c4, c5⟩ := hD8.cells
    have HD8 := Lib.hid (hD8.keep (below_alloc w8 (.cells #[.int .i64 (N : Int)] 3)))
    have hfr9 := hfr8.trans (Fr.alloc (q.F pr) w8 (.cells #[.int .i64 (N : Int)] 3)) (fun _ _ g => g)
    have HFR := Lib.hid hfr9
    clear hfr8 hfr9
    have HCS : Hid (Cs (w8.alloc (.cells #[.int .i64 (N : Int)] 3)) (some ⟨w8.heap.size, 0, none⟩) [iv N]) := .inr ⟨_, rfl, cell_one_new w8 (.int .i64 (N : Int)) 3⟩
    have hmx : D8.w.length + 1 ≤ maxLen := by simp only [maxLen]; omega
    have hbx : (D8.w.length + 1) * 8 ≤ 140737488355328 := by omega
    have hone : ∀ u ∈ [iv N], u.oneCell' = true := by intro u hu; simp at hu; subst hu; rfl
    go_upto_region 12 with (at_builtin; (with_reducible refine wpList_app intsT rfl (.tmp 64) (.tmp 66) rfl 0 q.lv D8.w.length (D8.w.map iv) rfl HD8.out.log (some ⟨w8.heap.size, 0, none⟩) 1 1 [iv N] rfl rfl HCS.out hone hmx hbx (Nat.zero_le _) ?_); intro v' w9 hown9 hgr9 hat9; obtain ⟨g9, cap9, hv9, _, _⟩ := hown9.form (by omega); subst hv9; have hob := HD8.out.obj.grown hgr9 (by intro e; exact (HD8.out.ne_lv pr e.symm).1 rfl); have d2 := hob.cell 3; have f2 := hob.frozen 3)
    have HL9 := Lib.hid (HD8.out.setLog hown9 hgr9 hat9)
    have HFR9 := Lib.hid ((HFR.out.trans (Fr.of_grown hgr9 (F := q.F pr) (fun k hk _ => .inr (.inr hk))) (fun _ _ g => g)).trans (Fr.setCell (q.F pr) w9 (p := ⟨pr, 3, none⟩) (fun _ => .inl rfl) (.slice (some ⟨g9, 0, none⟩) (D8.w.length + 1) cap9)) (fun _ _ g => g))
    have HGB := Lib.hid (show ∀ k, RPl.F pr { q with lv := .slice (some ⟨g9, 0, none⟩) (D8.w.length + 1) cap9 } k → q.F pr k ∨ w.heap.size ≤ k from by
      have hsz8 := HFR.out.size
      rintro k (h1 | h1 | h1)
      · exact .inl (.inl h1)
      · exact .inl (.inr (.inl h1))
      · rcases hat9 with h2 | h2
        · exact .inl (.inr (.inr (h2.symm.trans h1)))
        · rw [h2] at h1; injection h1 with h1; exact .inr (by omega))
    clear hown9 hgr9 hat9 hob d2 f2
    go_wp2
    go_ret
    refine ⟨by rw [HFin.out]; rfl, { q with lv := .slice (some ⟨g9, 0, none⟩) (D8.w.length + 1) cap9 }, ?_⟩
    rw [HFin.out]
    exact ⟨HL9.out, HFR9.out, HGB.out⟩
end
attribute [local go_sem ↓] Go.wp_at_zero Go.wp_at_succ

section
variable {pr : Nat} {q : RPl} {r : RS} {w w' : World} {n : Int} {p : List UInt8}
theorem rwrite_any (h : RefAt pr q r w) (ok : r.Ok) (hp : p.length ≤ 140737488351232) :
    Calls Try.prog 34 #[.pointer (some ⟨pr, 0, none⟩), .int .i64 n, .string ⟨p.toArray⟩] w (RWriteEnds w pr q r n p) := by
  by_cases hh : (n < 0 ∨ (r.n : Int) ≤ n) ∨ r.size < p.length ∨ r.off = true ∨ r.left = 0
  · exact rwrite_no h ok hp hh
  · exact rwrite_ok h ok hp (fun x => hh (.inl x)) (fun x => hh (.inr (.inl x))) (by cases hf : r.off with | false => rfl | true => exact absurd (.inr (.inr (.inl hf))) hh) (fun x => hh (.inr (.inr (.inr x))))

def RS.cut (r : RS) (a : Int) : RS := if r.off = true then r else { r with left := max a (-1) }
set_option maxHeartbeats 400000 in
theorem rcut_any (h : RefAt pr q r w) (a : Int) :
    Calls Try.prog 32 #[.pointer (some ⟨pr, 0, none⟩), .int .i64 a] w fun e w' => e = .returned (.tuple #[]) ∧ RActs w pr q (r.cut a) w' q := by
  obtain ⟨c0, c1, c2, c3, c4, c5⟩ := h.cells
  have f4 := h.obj.frozen 4
  by_cases ho : r.off = true
  · have HC := Lib.hid (show r.cut a = r by unfold RS.cut; rw [if_pos ho])
    rw [ho] at c5
    clear ho
    go_enter Try.func32, Try.ntmps32
    go_wp2
    go_end0
    exact ⟨rfl, by rw [HC.out]; exact RActs.quiet h (Below.refl _ _)⟩
  · rw [show r.off = false by simpa using ho] at c5
    have HC := Lib.hid (show r.cut a = { r with left := max a (-1) } by unfold RS.cut; rw [if_neg ho])
    clear ho
    go_enter Try.func32, Try.ntmps32
    go_wp2
    go_end0
    exact ⟨rfl, by rw [HC.out]; exact ⟨h.setLeft _, Fr.setCell _ _ (fun _ => .inl rfl) _, fun k hk => .inl hk⟩⟩

def RS.back (r : RS) : RS := { r with left := -1, off := false }
set_option maxHeartbeats 400000 in
theorem rrestore_any (h : RefAt pr q r w) :
    Calls Try.prog 35 #[.pointer (some ⟨pr, 0, none⟩)] w fun e w' => e = .returned (.tuple #[]) ∧ RActs w pr q r.back w' q := by
  obtain ⟨c0, c1, c2, c3, c4, c5⟩ := h.cells
  have f4 := h.obj.frozen 4
  have f5 := h.obj.frozen 5
  have HA : Hid (RActs w pr q r.back ((w.setCell ⟨pr, 5, none⟩ (.bool false)).setCell ⟨pr, 4, none⟩ (.int .i64 (-1))) q) :=
    ⟨(h.setOff false).setLeft (-1), (Fr.setCell (q.F pr) w (p := ⟨pr, 5, none⟩) (fun _ => .inl rfl) _).same (Fr.setCell (q.F pr) _ (p := ⟨pr, 4, none⟩) (fun _ => .inl rfl) _), fun k hk => .inl hk⟩
  go_enter Try.func35, Try.ntmps35
  go_wp2
  go_end0
  exact ⟨rfl, HA.out⟩
end

/-- A new one. -/
def RS.fresh (nb size : Nat) : RS := ⟨nb, size, List.replicate nb [], [], -1, false⟩
theorem RS.fresh_ok {nb size : Nat} (h1 : 1 ≤ nb) (h2 : nb ≤ 16384) (h3 : 64 ≤ size) (h4 : size ≤ 4096) : (RS.fresh nb size).Ok :=
  ⟨h1, h2, h3, h4, by simp [RS.fresh], by simp [RS.fresh], by simp [RS.fresh], by simp [RS.fresh], fun i h => by simp [RS.fresh]⟩
def strsN (n : Nat) : Array Value := ((List.replicate n []).map sv).toArray
theorem run_make_strs (n : Nat) (hn : n ≤ 65536) (W : World) :
    (Instr.makeSlice 42 (.int .i64 (n : Int)) (.int .i64 (n : Int))).run Try.prog W = .ok (.slice (some ⟨W.heap.size, 0, none⟩) n n) (W.alloc (.cells (strsN n) 9)) := by
  obtain ⟨i, hi, hz, hsz, hby⟩ := info_parts strsT.info
  have h := run_make (P := Try.prog) W 42 9 i (.string ⟨#[]⟩) strsT.ht hi hz .i64 .i64 n n (by omega) (Int.le_refl _) (by rw [hby]; omega) (by omega)
  have e1 : madeCells (Value.string ⟨#[]⟩).cells ((n : Int).toNat * i.size) = strsN n := by
    have := toList_madeCells_one (.string ⟨#[]⟩) ((n : Int).toNat * i.size)
    apply Array.toList_inj.1
    show (madeCells #[Value.string ⟨#[]⟩] _).toList = _
    rw [this, hsz]
    simp [sv, strsN]
  rw [e1] at h
  simpa using h

set_option maxHeartbeats 400000 in
theorem rnew_ok (nb size : Nat) (w : World) (h1 : 1 ≤ nb) (h2 : nb ≤ 16384) (h3 : 64 ≤ size) (h4 : size ≤ 4096) :
    Calls Try.prog 28 #[.int .i64 nb, .int .i64 size] w fun e w' => ∃ pr q, e = .returned (.tuple #[.pointer (some ⟨pr, 0, none⟩), .int .i64 0]) ∧ RefAt pr q (RS.fresh nb size) w' ∧ Below w.heap.size w w' ∧ ∀ k, q.F pr k → w.heap.size ≤ k := by
  have d1 : decide ((nb : Int) < 1) = false := by simp; omega
  have d2 : decide (16384 < (nb : Int)) = false := by simp; omega
  have d3 : decide ((size : Int) < 64) = false := by simp; omega
  have d4 : decide (4096 < (size : Int)) = false := by simp; omega
  have hmk := fun W => run_make_strs nb (by omega) W
  have HR : Hid (RefAt (w.heap.size + 1) ⟨w.heap.size, .slice none 0 0⟩ (RS.fresh nb size) ((w.alloc (.cells (strsN nb) 9)).alloc (.cells #[.int .i64 (nb : Int), .int .i64 (size : Int), .slice (some ⟨w.heap.size, 0, none⟩) nb nb, .slice none 0 0, .int .i64 (-1), .bool false] 85))) := by
    refine ⟨?_, (Blk.new w _ _).alloc _, World.ownsRow_nil _ _ _ _⟩
    have := Blk.new (w.alloc (.cells (strsN nb) 9)) 85 #[.int .i64 (nb : Int), .int .i64 (size : Int), .slice (some ⟨w.heap.size, 0, none⟩) nb nb, .slice none 0 0, .int .i64 (-1), .bool false]
    rw [World.size_alloc] at this
    exact this
  go_enter Try.func28, Try.ntmps28
  go_wp2
  go_ret2
  refine ⟨w.heap.size + 1, _, rfl, HR.out, ((Below.refl _ _).alloc (Nat.le_refl _) _).alloc (by simp) _, ?_⟩
  rintro k (h | h | h)
  · omega
  · exact Nat.le_of_eq h.symm
  · simp [Value.ownBlock] at h

/-- The numbers that New refuses. -/
def newBad (nb size : Int) : Prop := nb < 1 ∨ 16384 < nb ∨ size < 64 ∨ 4096 < size
theorem newBad_ways {nb size : Int} (h : newBad nb size) : decide (nb < 1) = true ∨ (decide (nb < 1) = false ∧ decide (16384 < nb) = true) ∨ (decide (nb < 1) = false ∧ decide (16384 < nb) = false ∧ decide (size < 64) = true) ∨ (decide (nb < 1) = false ∧ decide (16384 < nb) = false ∧ decide (size < 64) = false ∧ decide (4096 < size) = true) := by
  unfold newBad at h
  simp only [decide_eq_true_eq, decide_eq_false_iff_not]
  omega
set_option maxHeartbeats 400000 in
theorem rnew_bad (nb size : Int) (w : World) (h : newBad nb size) :
    Calls Try.prog 28 #[.int .i64 nb, .int .i64 size] w fun e w' => e = .returned (.tuple #[.pointer none, .int .i64 2]) ∧ w = w' := by
  rcases newBad_ways h with d1 | ⟨d1, d2⟩ | ⟨d1, d2, d3⟩ | ⟨d1, d2, d3, d4⟩
  all_goals
    go_enter Try.func28, Try.ntmps28
    go_wp2
    go_ret2
    exact ⟨rfl, rfl⟩
set_option maxHeartbeats 400000 in
theorem new_bad (nb size : Int) (w : World) (h : newBad nb size) :
    Calls Try.prog 10 #[.int .i64 nb, .int .i64 size] w fun e w' => e = .returned (.tuple #[.pointer none, .int .i64 2]) ∧ w = w' := by
  rcases newBad_ways h with d1 | ⟨d1, d2⟩ | ⟨d1, d2, d3⟩ | ⟨d1, d2, d3, d4⟩
  all_goals
    go_enter Try.func10, Try.ntmps10
    go_wp2
    go_ret2
    exact ⟨rfl, rfl⟩
attribute [local go_sem ↓] Go.wp_at_zero Go.wp_at_succ

theorem zeros_eq (k : Nat) : (Builtin.zeroCells (Value.int .u8 0).cells k).toList = (List.replicate k (0 : UInt8)).map bv := by
  apply List.ext_getElem
  · simp [Builtin.zeroCells, Value.cells]
  · intro j h1 h2
    simp [Builtin.zeroCells, Value.cells, bv, Nat.mod_one]

/-- A block of the marks fz, its cells known. -/
def BlkZ (w : World) (g : Nat) (t : TypeId) (cs : Array Value) (fz : Nat × Nat) : Prop := w.heap[g]? = some (.cells cs t fz)

theorem run_appz {P : Program} {t tn e : TypeId} (T : ElT P t e (.int .u8 0) 1 1) (htn : P.underlying tn = some (.int .i64)) (w : World) (ty : TypeId) (g n cap k : Nat) (cs : Array Value) (fz : Nat × Nat) (hB : BlkZ w g e cs fz) (hcs : cs.size = cap) (hfz : cap ≤ fz.1) (l : List UInt8) (hl : l.length = n) (hcl : ∀ j, (h : j < l.length) → cs[j]? = some (bv l[j])) (hnc : n ≤ cap) (hk : n + k ≤ 65536) :
    ∃ A' c' w', (Builtin.append_ #[t, tn] ty #[.slice (some ⟨g, 0, none⟩) n cap, .int .i64 (k : Int)]).run P w = .ok (.slice A' (n + k) c') w' ∧ Rd w' A' (l ++ List.replicate k 0) ∧ n + k ≤ c' ∧ Below g w w' := by
  obtain ⟨i, hi, hz, hsz, hby⟩ := info_parts T.info
  have hglt : g < w.heap.size := (Array.getElem?_eq_some_iff.1 hB).1
  have hcell : ∀ j, w.cell? ⟨g, j, none⟩ = cs[j]? := fun j => cell_of_row w g j cs e fz hB
  have hrd : Rd w (some ⟨g, 0, none⟩) l := .inr ⟨g, 0, rfl, fun j hj => by rw [hcell, Nat.zero_add]; exact hcl j hj⟩
  have hw : IntKind.i64.wrap (k : Int) = k := by rw [IntKind.wrap_i64]; omega
  have hneg : ¬ ((k : Int) < 0) := by omega
  have h48i : ¬ (281474976710656 < (k : Int) * (i.bytes : Int)) := by rw [hby]; omega
  by_cases hr : n + k ≤ cap
  · rcases Nat.eq_zero_or_pos k with rfl | h0
    · refine ⟨_, cap, w, ?_, by simpa using hrd, hr, Below.refl _ _⟩
      simp [Builtin.append_, run_underlying T.ht, run_underlying htn, sizeOf, typeInfo, hi, asInt, asIntOf, storeCells, hnc, show IntKind.i64.wrap 0 = 0 from rfl]
    · have hst := run_storeCells_cells (P := P) g n (Builtin.zeroCells (Value.int .u8 0).cells k).toList 0 w (fun j hj => by
          rw [zeros_eq] at hj
          simp at hj
          rw [hcell, Array.getElem?_eq_getElem (by omega)]
          rfl) (fun j hj => by
          rw [zeros_eq] at hj
          simp at hj
          unfold BlkZ at hB
          simp [World.frozen?, hB]
          omega) (by rw [zeros_eq]; exact bvs_one _)
      refine ⟨some ⟨g, 0, none⟩, cap, w.setCells g n ((List.replicate k (0 : UInt8)).map bv), ?_, ?_, hr, ?_⟩
      · have hns : ¬ (k * i.size = 0) := Nat.mul_ne_zero (by omega) (by omega)
        rw [zeros_eq] at hst
        have e1 : (Builtin.zeroCells (Value.int .u8 0).cells k).toList = (List.replicate k (0 : UInt8)).map bv := zeros_eq k
        simp only [Nat.add_zero] at hst
        simp [Builtin.append_, run_underlying T.ht, run_underlying htn, sizeOf, typeInfo, zeroValue, hi, hz, hsz, asInt, asIntOf, hw, hneg, h48i, hr, Addr.add_lit, e1, show ¬ k = 0 by omega]
        simp at hst
        rw [hst]
        rfl
      · refine .inr ⟨g, 0, rfl, fun j hj => ?_⟩
        rw [Nat.zero_add]
        by_cases hjl : j < l.length
        · rw [World.cell?_setCells_out _ _ _ _ _ (by intro _ _; left; show j < n; omega), hcell, List.getElem_append_left hjl]
          exact hcl j hjl
        · have hjk : j - n < ((List.replicate k (0 : UInt8)).map bv).length := by simp at hj ⊢; omega
          have := World.cell?_setCells_in g ((List.replicate k (0 : UInt8)).map bv) n w (fun i hi' => by
            simp at hi'
            rw [hcell, Array.getElem?_eq_getElem (by omega)]
            rfl) (j - n) hjk
          rw [show n + (j - n) = j by omega] at this
          rw [this, List.getElem_append_right (by omega)]
          simp
      · exact Lib.below_setCells_w (Nat.le_refl _) _ _ _
  · have h0 : 0 < k := by omega
    have hold := run_firstCells_some (P := P) w.drew i.size n ⟨g, 0, none⟩ n cap (l.map bv) (by simp [hl, hsz]) (fun j v hv => by
      rw [List.getElem?_map] at hv
      obtain ⟨c, hc, rfl⟩ := Option.map_eq_some_iff.1 hv
      obtain ⟨hj, rfl⟩ := List.getElem?_eq_some_iff.1 hc
      rw [Addr.add_lit]
      show w.cell? _ = _
      rw [hcell, Nat.zero_add]
      exact hcl j hj)
    have h := Lib.run_append_grow_zeros (P := P) w t tn ty e i (.int .u8 0) .i64 .i64 T.ht htn hi hz (some ⟨g, 0, none⟩) n cap (l.map bv) hold k h0 (by omega) (by omega) (by omega) (by rw [hby]; omega) (by rw [hby]; exact growslice_fits (by omega) (by omega))
    refine ⟨_, _, _, h, ?_, grownCap_ge _ _ _ _, ((Below.refl _ _).drew).alloc (by exact Nat.le_of_lt hglt) _⟩
    have hzl := zeros_eq k
    refine .inr ⟨w.heap.size, 0, rfl, fun j hj => ?_⟩
    have hnew := heap_alloc_new w.drew (.cells ((l.map bv).toArray ++ Builtin.zeroCells (Value.int .u8 0).cells k ++ Builtin.zeroCells (Value.int .u8 0).cells (grownCap w (n + k) cap e - (n + k))) e)
    have hc2 := cell_of_row _ w.heap.size (0 + j) _ e (0, 0) hnew
    rw [hc2, Nat.zero_add]
    have e2 : (l.map bv).toArray ++ Builtin.zeroCells (Value.int .u8 0).cells k = ((l ++ List.replicate k 0).map bv).toArray := by
      apply Array.toList_inj.1
      rw [Array.toList_append, hzl]
      simp
    rw [e2, Array.getElem?_append_left (by simpa using hj)]
    simp only [List.getElem?_toArray, List.getElem?_map, List.getElem?_eq_getElem hj, Option.map_some]

def RS.read (r : RS) (n : Int) : Nat × List UInt8 := if n < 0 ∨ (r.n : Int) ≤ n then (2, []) else if r.off = true then (20, []) else (0, padB r.size (r.b.getD n.toNat []))
def RReadEnds (w : World) (r : RS) (n : Int) (e : Ending) (w' : World) : Prop :=
  e = .returned (.tuple #[.string ⟨(r.read n).2.toArray⟩, .int .i64 (r.read n).1]) ∧ Below w.heap.size w w'

section
variable {pr : Nat} {q : RPl} {r : RS} {w w' : World} {n : Int}
set_option maxRecDepth 100000 in
set_option maxHeartbeats 600000 in
theorem rread_any (h : RefAt pr q r w) (ok : r.Ok) :
    Calls Try.prog 51 #[.pointer (some ⟨pr, 0, none⟩), .int .i64 n] w (RReadEnds w r n) := by
  obtain ⟨c0, c1, c2, c3, c4, c5⟩ := h.cells
  by_cases h1 : n < 0 ∨ (r.n : Int) ≤ n
  · have HW := Lib.hid (show r.read n = (2, []) by unfold RS.read; rw [if_pos h1])
    by_cases h0 : n < 0
    · have hd : decide (n < 0) = true := by simpa using h0
      go_enter Try.func51, Try.ntmps51
      go_wp2
      go_ret2
      exact ⟨by rw [HW.out]; rfl, Below.refl _ _⟩
    · have hd : decide (n < 0) = false := by simpa using h0
      have hd2 : decide ((r.n : Int) ≤ n) = true := by simp; omega
      go_enter Try.func51, Try.ntmps51
      go_wp2
      go_ret2
      exact ⟨by rw [HW.out]; rfl, Below.refl _ _⟩
  · have hd : decide (n < 0) = false := by simp; omega
    have hd2 : decide ((r.n : Int) ≤ n) = false := by simp; omega
    by_cases ho : r.off = true
    · have HW := Lib.hid (show r.read n = (20, []) by unfold RS.read; rw [if_neg h1, if_pos ho])
      rw [ho] at c5
      clear ho
      go_enter Try.func51, Try.ntmps51
      go_wp2
      go_ret2
      exact ⟨by rw [HW.out]; rfl, Below.refl _ _⟩
    · obtain ⟨N, rfl⟩ := Int.eq_ofNat_of_zero_le (show 0 ≤ n by omega)
      have hN : N < r.b.length := by rw [ok.len]; omega
      have hNn : N < r.n := by omega
      have hxl := ok.bs N hN
      have HW := Lib.hid (show r.read (N : Int) = (0, padB r.size r.b[N]) by
        unfold RS.read; rw [if_neg h1, if_neg ho, Int.toNat_natCast, List.getD_eq_getElem?_getD, List.getElem?_eq_getElem hN]; rfl)
      rw [show r.off = false by simpa using ho] at c5
      have hcl : w.cell? ⟨q.gb, N, none⟩ = some (.string ⟨r.b[N].toArray⟩) := by
        rw [h.row.cell]
        simp [hN, sv]
      have hs2 := ok.s2
      generalize hx : r.b[N] = x at *
      clear hx ho h1
      have hcv := run_bytes_of_string (P := Try.prog) w 9 23 5 ⟨x.toArray⟩ Try.underlying9 Try.underlying23 Try.underlying5
      have hG := grownCap_ge w (⟨x.toArray⟩ : ByteArray).size 0 5
      have hxs : (⟨x.toArray⟩ : ByteArray).size = x.length := by simp [ByteArray.size]
      rw [hxs] at hcv hG
      generalize grownCap w x.length 0 5 = G at *
      have HRow : Hid ((bytesRow ⟨x.toArray⟩ G).size = G ∧ ∀ j, (h : j < x.length) → (bytesRow ⟨x.toArray⟩ G)[j]? = some (bv x[j])) := by
        refine ⟨?_, fun j hj => ?_⟩
        · simp [bytesRow, hxs]; omega
        · unfold bytesRow
          rw [Array.getElem?_append_left (by simpa using hj)]
          simp [hj, bv]
      generalize bytesRow ⟨x.toArray⟩ G = BR at *
      have q1 : (0 : Int) ≤ (N : Int) := by omega
      clear hxs
      go_enter Try.func51, Try.ntmps51
      go_upto_region 6 with (fail)
      have hpl := h.obj.lt
      have HF : Hid (Below w.heap.size w (w.alloc (.cells BR 5 (BR.size, BR.size + 1))).drew ∧ BlkZ (w.alloc (.cells BR 5 (BR.size, BR.size + 1))).drew w.heap.size 5 BR (BR.size, BR.size + 1)) :=
        ⟨(below_alloc w _).drew, heap_alloc_new w _⟩
      refine wp_world (fun W => Below w.heap.size w W ∧ BlkZ W w.heap.size 5 BR (BR.size, BR.size + 1)) HF.out ?_
      clear HF hcv
      rintro w2 ⟨hb2, hB2⟩
      have d1 := (h.keep hb2).cells.2.1
      obtain ⟨A', c', w3, hrun, hrd3, hc3, hb3⟩ := run_appz (P := Try.prog) (tn := 3) bytesT Try.underlying3 w2 23 w.heap.size x.length G (r.size - x.length) BR (BR.size, BR.size + 1) hB2 HRow.out.1 (by rw [HRow.out.1]; exact Nat.le_refl _) x rfl HRow.out.2 hG (by omega)
      have e1 : ((r.size - x.length : Nat) : Int) = (r.size : Int) - (x.length : Int) := by omega
      have e2 : x.length + (r.size - x.length) = r.size := by omega
      rw [e1, e2] at hrun
      have hpad : x ++ List.replicate (r.size - x.length) 0 = padB r.size x := rfl
      rw [hpad] at hrd3
      have HRun := Lib.hid hrun
      have hst := run_str (P := Try.prog) Try.underlying23 Try.underlying5 Try.underlying9 w3 A' r.size c' (padB r.size x) (padB_len hxl) hrd3
      clear e1 e2 hrun hpad c0 c1 c2 c3 c4 c5 hcl
      go_wp2_with (at_builtin; refine Lib.wpList_append_run _ rfl (.tmp 29) (.tmp 36) _ _ rfl _ _ rfl rfl _ _ HRun.out ?_)
      go_ret2
      exact ⟨by rw [HW.out]; rfl, hb2.trans hb3⟩
end
structure Sim (D : DS) (R : RS) : Prop where
  dok : D.Ok
  rok : R.Ok
  nb : R.n = D.nb
  size : R.size = D.size
  log : R.w = D.log
  left : R.left = D.left
  off : R.off = D.off
  blk : ∀ i, (h : i < R.b.length) → D.blockB i = padB D.size R.b[i]

theorem sim_fresh {nb size : Nat} (h1 : 1 ≤ nb) (h2 : nb ≤ 16384) (h3 : 64 ≤ size) (h4 : size ≤ 4096) : Sim (DS.fresh nb size) (RS.fresh nb size) :=
  ⟨DS.fresh_ok h1 h2 h3 h4, RS.fresh_ok h1 h2 h3 h4, rfl, rfl, rfl, rfl, rfl, fun i h => by
    have hi : i < nb := by simpa [RS.fresh] using h
    rw [fresh_block nb size i hi]
    simp [RS.fresh, DS.fresh]⟩

theorem sim_write {D : DS} {R : RS} (h : Sim D R) (n : Int) (p : List UInt8) (hlg : D.log.length + 1 ≤ 1000000) : (R.write n p).1 = (D.write n p).1 ∧ Sim (D.write n p).2 (R.write n p).2 ∧ (D.write n p).2.log.length ≤ D.log.length + 1 := by
  have dok2 : (D.write n p).2.Ok := DS.write_ok_ h.dok hlg
  by_cases h1 : n < 0 ∨ (R.n : Int) ≤ n
  · have e1 : R.write n p = (2, R) := by unfold RS.write; rw [if_pos h1]
    have e2 : D.write n p = (2, D) := by
      unfold DS.write
      rw [if_pos]
      rw [h.nb] at h1
      simp [DS.hasB]
      omega
    rw [e1, e2]
    exact ⟨rfl, h, Nat.le_succ _⟩
  · have hb : 0 ≤ n ∧ n < D.nb := by rw [h.nb] at h1; omega
    have hh : ¬ D.hasB n = false := by simp [DS.hasB]; omega
    by_cases h2 : R.size < p.length
    · have e1 : R.write n p = (1, R) := by unfold RS.write; rw [if_neg h1, if_pos h2]
      have e2 : D.write n p = (1, D) := by unfold DS.write; rw [if_neg hh, if_pos (by rw [← h.size]; exact h2)]
      rw [e1, e2]
      exact ⟨rfl, h, Nat.le_succ _⟩
    · by_cases h3 : R.off = true ∨ R.left = 0
      · have e1 : R.write n p = (20, { R with off := true }) := by unfold RS.write; rw [if_neg h1, if_neg h2, if_pos h3]
        have e2 : (D.write n p).1 = 20 ∧ (D.write n p).2 = { D with off := true } := by
          unfold DS.write
          rw [if_neg hh, if_neg (by rw [← h.size]; exact h2)]
          by_cases ho : D.off = true
          · rw [if_pos ho]
            exact ⟨rfl, by rw [← ho]⟩
          · rw [if_neg ho, if_pos]
            · exact ⟨rfl, rfl⟩
            · rw [h.off] at h3
              rw [← h.left]
              exact h3.resolve_left ho
        rw [e1, e2.1, e2.2]
        rw [e2.2] at dok2
        exact ⟨rfl, ⟨dok2, ⟨h.rok.n1, h.rok.n2, h.rok.s1, h.rok.s2, h.rok.l1, h.rok.l2, h.rok.lg, h.rok.len, h.rok.bs⟩, h.nb, h.size, h.log, h.left, rfl, h.blk⟩, by show D.log.length ≤ _; omega⟩
      · have ho : D.off = false := by
          cases hf : D.off with
          | false => rfl
          | true => exact absurd (.inl (h.off.trans hf)) h3
        have hlf : D.left ≠ 0 := fun e => h3 (.inr (h.left.trans e))
        have hl : p.length ≤ D.size := by have := h.size; omega
        have e1 : R.write n p = (0, { R with left := if 0 < R.left then R.left - 1 else R.left, b := R.b.set n.toNat p, w := R.w ++ [n] }) := by unfold RS.write; rw [if_neg h1, if_neg h2, if_neg h3]
        have e2 := write_done (d := D) (n := n) (l := p) hb hl ho hlf
        have hbl := write_block (d := D) (n := n) (l := p) h.dok hb hl ho hlf
        have hl1 := h.rok.l1
        have hl2 := h.rok.l2
        rw [e1, e2]
        rw [e2] at dok2 hbl
        refine ⟨rfl, ⟨dok2, ⟨h.rok.n1, h.rok.n2, h.rok.s1, h.rok.s2, ?_, ?_, ?_, ?_, ?_⟩, h.nb, h.size, ?_, ?_, h.off, ?_⟩, by show (D.log ++ [n]).length ≤ _; simp⟩
        · show -1 ≤ (if 0 < R.left then R.left - 1 else R.left)
          split <;> omega
        · show (if 0 < R.left then R.left - 1 else R.left) ≤ _
          split <;> omega
        · show (R.w ++ [n]).length ≤ _
          rw [h.log]
          simp
          omega
        · show (R.b.set n.toNat p).length = R.n
          rw [List.length_set]
          exact h.rok.len
        · intro i hi
          show ((R.b.set n.toNat p)[i]'hi).length ≤ R.size
          rw [List.getElem_set]
          split
          · omega
          · exact h.rok.bs i _
        · show R.w ++ [n] = D.log ++ [n]
          rw [h.log]
        · show (if 0 < R.left then R.left - 1 else R.left) = (if 0 < D.left then D.left - 1 else D.left)
          rw [h.left]
        · intro i hi
          have hi2 : i < R.b.length := by simpa using hi
          have hi3 : i < D.nb := by rw [← h.nb, ← h.rok.len]; exact hi2
          rw [hbl i hi3]
          show _ = padB D.size ((R.b.set n.toNat p)[i]'hi)
          rw [List.getElem_set]
          by_cases hin : (i : Int) = n
          · rw [if_pos hin, if_pos (by omega)]
          · rw [if_neg hin, if_neg (by omega)]
            exact h.blk i hi2
theorem sim_read {D : DS} {R : RS} (h : Sim D R) (n : Int) : R.read n = D.read n := by
  unfold RS.read
  by_cases h1 : n < 0 ∨ (R.n : Int) ≤ n
  · rw [if_pos h1]
    unfold DS.read
    rw [if_pos]
    rw [h.nb] at h1
    simp [DS.hasB]
    omega
  · have hh : ¬ D.hasB n = false := by rw [h.nb] at h1; simp [DS.hasB]; omega
    rw [if_neg h1]
    unfold DS.read
    rw [if_neg hh, h.off]
    by_cases ho : D.off = true
    · rw [if_pos ho, if_pos ho]
    · rw [if_neg ho, if_neg ho]
      have hi : n.toNat < R.b.length := by rw [h.rok.len]; omega
      rw [h.blk n.toNat hi, h.size, List.getD_eq_getElem?_getD, List.getElem?_eq_getElem hi]
      rfl
theorem sim_cut {D : DS} {R : RS} (h : Sim D R) (a : Int) (h1 : a ≤ 9223372036854775807) : Sim (D.cut a) (R.cut a) ∧ (D.cut a).log = D.log := by
  unfold DS.cut RS.cut
  rw [h.off]
  by_cases ho : D.off = true
  · rw [if_pos ho, if_pos ho]
    exact ⟨h, rfl⟩
  · rw [if_neg ho, if_neg ho]
    exact ⟨⟨⟨h.dok.s1, h.dok.s2, h.dok.n1, h.dok.n2, h.dok.len, by show -1 ≤ max a (-1); omega, by show max a (-1) ≤ _; omega, h.dok.lg⟩, ⟨h.rok.n1, h.rok.n2, h.rok.s1, h.rok.s2, by show -1 ≤ max a (-1); omega, by show max a (-1) ≤ _; omega, h.rok.lg, h.rok.len, h.rok.bs⟩, h.nb, h.size, h.log, rfl, rfl, h.blk⟩, rfl⟩
theorem sim_back {D : DS} {R : RS} (h : Sim D R) : Sim D.back R.back :=
  ⟨back_ok h.dok, ⟨h.rok.n1, h.rok.n2, h.rok.s1, h.rok.s2, by show (-1 : Int) ≤ -1; omega, by show (-1 : Int) ≤ _; omega, h.rok.lg, h.rok.len, h.rok.bs⟩, h.nb, h.size, h.log, rfl, rfl, h.blk⟩
end
section
open Go.RowKit
set_option linter.unusedVariables false

set_option maxHeartbeats 1000000 in
theorem rcrc_any (A : Option Addr) (l : List UInt8) (n c : Nat) (w : World) (hl : l.length = n) (hn : n ≤ 140737488351232) (hr : Rd w A l) :
    Calls Try.prog 86 #[.slice A n c] w fun e w' => e = .returned (.int .u32 (crc l)) ∧ w = w' := by
  subst hl
  go_enter Try.func86, Try.ntmps86
  go_wp2
  go_loop [3, 4] (fun t i => ∃ k : Nat, k ≤ l.length ∧ i = .int .i64 k ∧ t = .int .u32 (crcReg (l.take k)).toNat) (fun _ i => l.length - (intOf i).toNat)
  case atStart => exact ⟨0, Nat.zero_le _, rfl, by simp [crcReg]⟩
  case round =>
    obtain ⟨k, hk, rfl, rfl⟩ := hrel
    by_cases hlt : k < l.length
    · obtain ⟨b, off, rfl, _, hc⟩ := hr.at_ hlt
      have HS := Lib.hid (show crcReg (l.take (k + 1)) = crcBits 8 (crcReg (l.take k) ^^^ BitVec.ofNat 32 l[k].toNat) by
        rw [List.take_succ_eq_append_getElem hlt, crcReg_snoc]; rfl)
      have hck := u8_lt l[k]
      have hx : bits BinOp.xor IntKind.u32 ((crcReg (l.take k)).toNat : Int) (l[k].toNat : Int) = ((crcReg (l.take k) ^^^ BitVec.ofNat 32 l[k].toNat).toNat : Int) := by
        rw [u32_xor_nat _ _ (BitVec.isLt _) (by omega), BitVec.toNat_xor, BitVec.toNat_ofNat, Nat.mod_eq_of_lt (a := l[k].toNat) (by omega)]
      generalize crcReg (l.take k) ^^^ BitVec.ofNat 32 l[k].toNat = s0 at *
      have hrk := (crcReg (l.take k)).isLt
      generalize (crcReg (l.take k)).toNat = rk at *
      generalize l[k].toNat = ck at *
      go_wp2
      have Hx := Lib.hid hx
      clear hx
      go_loop [3, 5] (fun t i => ∃ k : Nat, k ≤ 8 ∧ i = .int .i64 k ∧ t = .int .u32 (crcBits k s0).toNat) (fun _ i => 8 - (intOf i).toNat)
      case atStart => exact ⟨0, Nat.zero_le _, rfl, rfl⟩
      case round =>
        obtain ⟨k2, hk2, rfl, rfl⟩ := hrel
        by_cases hlt2 : k2 < 8
        · have HB2 := Lib.hid (show (crcBits (k2 + 1) s0).toNat = ((crcBits k2 s0).toNat / 2) ^^^ (2197175160 * ((crcBits k2 s0).toNat % 2)) by rw [crcBits_succ, crcBit_toNat])
          have hs := (crcBits k2 s0).isLt
          generalize (crcBits k2 s0).toNat = s at *
          have e1 : bits BinOp.and IntKind.u32 (s : Int) 1 = ((s % 2 : Nat) : Int) := by
            have := u32_and_nat s 1 hs (by omega)
            rw [nat_mask1] at this
            exact this
          have hd2 : decide ((k2 : Int) < 8) = true := by simp; omega
          by_cases hodd : s % 2 = 1
          · rw [hodd] at e1
            have e2 : bits BinOp.xor IntKind.u32 ((s : Int) / 2) 2197175160 = ((s / 2 ^^^ 2197175160 : Nat) : Int) := by
              rw [show ((s : Int) / 2) = ((s / 2 : Nat) : Int) from by omega]
              exact u32_xor_nat _ 2197175160 (by omega) (by omega)
            have HO := Lib.hid hodd
            clear hodd
            go_wp2
            go_round
            case rel => exact ⟨k2 + 1, by omega, by go_num, by rw [HB2.out, HO.out]⟩
            case measure => simp [intOf]; omega
          · have h0 : s % 2 = 0 := by omega
            rw [h0] at e1
            have HO := Lib.hid h0
            clear hodd h0
            go_wp2
            go_round
            case rel => exact ⟨k2 + 1, by omega, by go_num, by rw [HB2.out, HO.out]; simp⟩
            case measure => simp [intOf]; omega
        · obtain rfl : k2 = 8 := by omega
          have hd2 : decide (((8 : Nat) : Int) < 8) = false := by simp
          go_wp2
          go_round
          case rel => exact ⟨k + 1, by omega, by go_num, by rw [HS.out]⟩
          case measure => simp [intOf]; omega
    · have HF := Lib.hid (show l.take k = l from List.take_of_length_le (by omega))
      go_wp2
      go_ret
      refine ⟨ret_int ?_, rfl⟩
      rw [HF.out]
      exact u32_not _
theorem own_slice {W : World} {base e size n : Nat} {v : Value} {xs : List Value} (h : W.ownsRow base e size v n xs) : ∃ A c, v = .slice A n c := by
  rcases h.2 with ⟨rfl, rfl⟩ | ⟨g, cap, cur, rfl, _⟩
  · exact ⟨none, 0, rfl⟩
  · exact ⟨_, _, rfl⟩

theorem zerosL (k : Nat) : (Builtin.zeroCells (Value.int .u8 0).cells k).toList = (List.replicate k (0 : UInt8)).map bv := by
  apply List.ext_getElem
  · simp [Builtin.zeroCells, Value.cells]
  · intro j h1 h2
    simp [Builtin.zeroCells, Value.cells, bv, Nat.mod_one]

theorem run_appz_own {P : Program} {t tn e : TypeId} (T : ElT P t e (.int .u8 0) 1 1) (htn : P.underlying tn = some (.int .i64)) (w : World) (ty : TypeId) (base : Nat) (v : Value) (n k : Nat) (l : List UInt8) (hown : w.ownsRow base e 1 v n (l.map bv)) (h0 : 0 < n) (hk : n + k ≤ 65536) (hbase : base ≤ w.heap.size) :
    ∃ v' w', (Builtin.append_ #[t, tn] ty #[v, .int .i64 (k : Int)]).run P w = .ok v' w' ∧ w'.ownsRow base e 1 v' (n + k) ((l ++ List.replicate k 0).map bv) ∧ w.grownBy w' v.ownBlock ∧ (v'.ownBlock = v.ownBlock ∨ v'.ownBlock = some w.heap.size) := by
  obtain ⟨i, hi, hz, hsz, hby⟩ := info_parts T.info
  have hl : l.length = n := by have := hown.1; simpa using this
  rcases hown.2 with ⟨_, hn0⟩ | ⟨g, cap, cur, rfl, hbg, hg, hnc, hcm, hcs, htake⟩
  · omega
  have hw : IntKind.i64.wrap (k : Int) = k := by rw [IntKind.wrap_i64]; omega
  have hneg : ¬ ((k : Int) < 0) := by omega
  have h48i : ¬ (281474976710656 < (k : Int) * (i.bytes : Int)) := by rw [hby]; omega
  rw [Nat.mul_one] at hcs htake
  by_cases hr : n + k ≤ cap
  · rcases Nat.eq_zero_or_pos k with rfl | hk0
    · refine ⟨_, w, ?_, by simpa using hown, grown_refl _ _, .inl rfl⟩
      simp [Builtin.append_, run_underlying T.ht, run_underlying htn, sizeOf, typeInfo, hi, asInt, asIntOf, storeCells, hnc, show IntKind.i64.wrap 0 = 0 from rfl]
    · have hst := run_storeCells_at P g n e ((List.replicate k (0 : UInt8)).map bv) 0 cur w hg (by simp; omega) (bvs_one _)
      obtain ⟨h1, h2, h3⟩ := grown_setRow (w := w) (g := g) (cs := cur) (t := e) hg (cur.toList.take (n + 0) ++ (List.replicate k (0 : UInt8)).map bv ++ cur.toList.drop (n + 0 + ((List.replicate k (0 : UInt8)).map bv).length)).toArray
      refine ⟨.slice (some ⟨g, 0, none⟩) (n + k) cap, _, ?_, ⟨by simp [hl], .inr ⟨g, cap, _, rfl, hbg, h1, hr, hcm, ?_, ?_⟩⟩, h2, .inl rfl⟩
      · have e1 := zerosL k
        simp [Builtin.append_, run_underlying T.ht, run_underlying htn, sizeOf, typeInfo, zeroValue, hi, hz, hsz, asInt, asIntOf, hw, hneg, h48i, hr, Addr.add_lit, e1, show ¬ k = 0 by omega]
        simp at hst
        rw [hst]
        simp
      · simp; omega
      · rw [Nat.add_zero, htake]
        simp only [Nat.mul_one]
        rw [List.take_append_of_le_length (by simp; omega), List.take_of_length_le (by simp; omega), List.map_append]
  · have hk0 : 0 < k := by omega
    have hold := run_firstCells_some (P := P) w.drew i.size n ⟨g, 0, none⟩ n cap (l.map bv) (by simp [hl, hsz]) (fun j v hv => hown.cells (g := g) rfl j v hv)
    have h := Lib.run_append_grow_zeros (P := P) w t tn ty e i (.int .u8 0) .i64 .i64 T.ht htn hi hz (some ⟨g, 0, none⟩) n cap (l.map bv) hold k hk0 (by omega) (by omega) (by omega) (by rw [hby]; omega) (by rw [hby]; exact growslice_fits (by omega) (by omega))
    have hge := grownCap_ge w (n + k) cap e
    have e2 : (l.map bv).toArray ++ Builtin.zeroCells (Value.int .u8 0).cells k = ((l ++ List.replicate k 0).map bv).toArray := by
      apply Array.toList_inj.1
      rw [Array.toList_append, zerosL k]
      simp
    rw [e2] at h
    refine ⟨_, _, h, ⟨by simp [hl], .inr ⟨w.heap.size, _, _, rfl, hbase, heap_alloc_new w.drew _, hge, grownCap_le_maxLen w (n + k) cap e (by unfold maxLen; omega), ?_, ?_⟩⟩, ⟨rfl, rfl, rfl, by simp, fun j hj _ => heap_alloc_old w.drew _ hj⟩, .inr rfl⟩
    · have hz1 := zerosL (grownCap w (n + k) cap e - (n + k))
      have hz2 : (Builtin.zeroCells (Value.int .u8 0).cells (grownCap w (n + k) cap e - (n + k))).size = grownCap w (n + k) cap e - (n + k) := by
        rw [← Array.length_toList, hz1]; simp
      rw [Array.size_append, hz2]
      simp [hl]
      omega
    · rw [Array.toList_append]
      simp only [Nat.mul_one]
      rw [List.take_append_of_le_length (by simp [hl]), List.take_of_length_le (by simp [hl])]

/-- .. at the operation. -/
theorem wpList_appz {P : Program} {w : World} {ops : Array Oper} {rest : List Oper} {o : Oper} {a : Act} {Q : Exit → Act → World → Prop} {t tn e : TypeId} (T : ElT P t e (.int .u8 0) 1 1) (htn : P.underlying tn = some (.int .i64)) (hgd : o.guard = none) (s x : Operand)
    (ho : o.op = .call { callee := .builtin .append, args := #[s, x], argTypes := #[t, tn] }) (base : Nat) (v : Value) (n k : Nat) (l : List UInt8) (hs : a.eval s = v) (hx : a.eval x = .int .i64 (k : Int)) (hown : w.ownsRow base e 1 v n (l.map bv)) (h0 : 0 < n) (hk : n + k ≤ 65536) (hbase : base ≤ w.heap.size)
    (h : ∀ v' w', w'.ownsRow base e 1 v' (n + k) ((l ++ List.replicate k 0).map bv) → w.grownBy w' v.ownBlock → (v'.ownBlock = v.ownBlock ∨ v'.ownBlock = some w.heap.size) → wpList P ops Q rest (a.put o.dst v') w') :
    wpList P ops Q (o :: rest) a w := by
  refine wpList_plain hgd fun K hK => ?_
  obtain ⟨v', w', hr, h2, h3, h4⟩ := run_appz_own (P := P) T htn w o.type base v n k l hown h0 hk hbase
  unfold Oper.wp execOp
  simp only [ho, resolve, invoke, builtin, Sem.run_bind, Sem.run_pure, Result.andThen_ok, List.map_toArray, List.map_cons, List.map_nil, hs, hx, hr]
  exact hK _ _ (h v' w' h2 h3 h4)
set_option maxHeartbeats 400000 in
theorem rroom_any (n : Int) (w : World) : Calls Try.prog 14 #[.int .i64 n] w fun e w' => e = .returned (.int .i64 (room n)) ∧ w = w' := by
  unfold room
  by_cases h1 : n < 64
  · rw [if_pos h1]
    have hd : decide (n < 64) = true := by simpa using h1
    go_enter Try.func14, Try.ntmps14
    go_wp2
    go_ret
    exact ⟨rfl, rfl⟩
  · rw [if_neg h1]
    have hd : decide (n < 64) = false := by simpa using h1
    by_cases h2 : 4096 < n
    · rw [if_pos h2]
      have hd2 : decide (4096 < n) = true := by simpa using h2
      go_enter Try.func14, Try.ntmps14
      go_wp2
      go_ret
      exact ⟨rfl, rfl⟩
    · rw [if_neg h2]
      have hd2 : decide (4096 < n) = false := by simpa using h2
      have h3 : 64 ≤ n := by omega
      have h4 : n ≤ 4096 := by omega
      go_enter Try.func14, Try.ntmps14
      go_wp2
      go_ret
      exact ⟨rfl, rfl⟩

theorem cs_bytes (w : World) (l : List UInt8) : Cs (w.alloc (.cells (l.map bv).toArray 5)) (some ⟨w.heap.size, 0, none⟩) (l.map bv) := by
  refine .inr ⟨_, rfl, fun j u hu => ?_⟩
  rw [Addr.add_lit, Nat.zero_add, (Blk.new w 5 (l.map bv).toArray).cell]
  simpa using hu
/-- A box, and bytes of the call's own. -/
structure PS (w : World) (box : Array Value) (v : Value) (n : Nat) (l : List UInt8) (W : World) : Prop where
  own : W.ownsRow (w.heap.size + 1) 5 1 v n (l.map bv)
  box : Blk W w.heap.size 89 box
  bel : Below w.heap.size w W
section
variable {w W W' : World} {box : Array Value} {v v' : Value} {n n' : Nat} {l l' : List UInt8}
theorem PS.sz (h : PS w box v n l W) : w.heap.size + 1 ≤ W.heap.size := h.box.lt
theorem PS.grow (h : PS w box v n l W) (hg : W.grownBy W' v.ownBlock) (ho : W'.ownsRow (w.heap.size + 1) 5 1 v' n' (l'.map bv)) : PS w box v' n' l' W' := by
  have hge : ∀ k, v.ownBlock = some k → w.heap.size + 1 ≤ k := fun k hk => (World.ownsRow.lt h.own k hk).1
  exact ⟨ho, h.box.grown hg (fun e => by have := hge _ e.symm; omega), h.bel.grown hg h.bel.size (fun k hk => by have := hge k hk; omega)⟩
theorem PS.alloc (h : PS w box v n l W) (o : Obj) : PS w box v n l (W.alloc o) := ⟨h.own.alloc o, h.box.alloc o, below_step h.bel (below_alloc _ _)⟩
end

set_option maxRecDepth 100000 in
set_option maxHeartbeats 2000000 in
theorem rput_ok (s kind num : Nat) (A : Option Addr) (n c : Nat) (load : List UInt8) (w : World) (h64 : 64 ≤ s) (h4096 : s ≤ 4096) (hk0 : kind ≠ 0) (hk : kind < 256) (hnum : num < 18446744073709551616) (h3 : n + 15 ≤ s) (hl : load.length = n) (hr : Rd w A load) :
    Calls Try.prog 75 #[.int .i64 (s : Int), .agg #[.int .u8 kind, .int .u64 num, .slice A n c]] w fun e w' => e = .returned (.tuple #[.string ⟨(sealed s kind num load).toArray⟩, .int .i64 0]) ∧ Below w.heap.size w w' := by
  have HL := Lib.hid hl
  have HRM := Lib.hid (fun W => rroom_any (s : Int) W)
  have hrm : room (s : Int) = (s : Int) - 15 := by unfold room; rw [if_neg (by omega), if_neg (by omega)]
  rw [hrm] at HRM
  have d1 : decide ((s : Int) < 64) = false := by simp; omega
  have d2 : decide (4096 < (s : Int)) = false := by simp; omega
  have d3 : ((kind : Int) == 0) = false := by simp [hk0]
  have d4 : decide ((s : Int) - 15 < (n : Int)) = false := by simp; omega
  have hb0 : ∀ q, PS w #[.int .u8 (kind : Int), .int .u64 (num : Int), .slice A n c] (.slice (some ⟨w.heap.size + 1, 0, none⟩) 1 1) 1 ([UInt8.ofNat kind] ++ (be 8 num).take 0) (((w.alloc (.cells #[.int .u8 (kind : Int), .int .u64 (num : Int), .slice A n c] 89)).drewN q).alloc (.cells #[.int .u8 (kind : Int)] 5)) := by
    intro q
    refine ⟨⟨rfl, .inr ⟨w.heap.size + 1, 1, #[.int .u8 (kind : Int)], rfl, Nat.le_refl _, ?_, Nat.le_refl _, by unfold maxLen; omega, rfl, ?_⟩⟩, Blk.alloc (w := (w.alloc (.cells #[.int .u8 (kind : Int), .int .u64 (num : Int), .slice A n c] 89)).drewN q) (Blk.new w _ _) _, below_step (below_drewN (below_alloc _ _) q) (below_alloc _ _)⟩
    · have := heap_alloc_new ((w.alloc (.cells #[.int .u8 (kind : Int), .int .u64 (num : Int), .slice A n c] 89)).drewN q) (.cells #[.int .u8 (kind : Int)] 5)
      simpa using this
    · have : Value.int .u8 (kind : Int) = bv (UInt8.ofNat kind) := by simp [bv]; omega
      simp [this]
  have HB0 := Lib.hid hb0
  clear hl hrm hb0 hk0
  go_enter Try.func75, Try.ntmps75
  go_upto_region 3 with (fail)
  go_quiet ((go_at_call 14; exact Calls.quiet_of_same ((HRM.out _).mono fun e w' ⟨he, hw⟩ => ⟨he, hw.symm⟩)))
  go_upto_region 6 with (fail)
  refine wp_world (fun W => PS w #[.int .u8 (kind : Int), .int .u64 (num : Int), .slice A n c] (.slice (some ⟨w.heap.size + 1, 0, none⟩) 1 1) 1 ([UInt8.ofNat kind] ++ (be 8 num).take 0) W) (HB0.out _) ?_
  intro w1 hP1
  have HBT := Lib.hid (be_take_succ 8 num)
  clear HB0
  go_wp2
  go_loopw [6, 7] (fun v sh wr => ∃ i : Nat, i ≤ 8 ∧ sh = .int .i64 (7 - (i : Int)) ∧ PS w #[.int .u8 (kind : Int), .int .u64 (num : Int), .slice A n c] v (1 + i) ([UInt8.ofNat kind] ++ (be 8 num).take i) wr) (fun _ sh _ => (intOf sh + 1).toNat)
  case atStart => exact ⟨0, Nat.zero_le _, rfl, hP1⟩
  case round =>
    obtain ⟨i, hi, rfl, hP⟩ := hrel
    clear hP1
    have c1 := hP.box.cell 1
    have c2 := hP.box.cell 2
    have hsz := hP.sz
    by_cases hlt : i < 8
    · obtain ⟨t, ht⟩ : ∃ t : Nat, (7 - (i : Int)) = (t : Int) := ⟨7 - i, by omega⟩
      rw [ht]
      have hs7 : t ≤ 7 := by omega
      have HS2 := Lib.hid (show t = 8 - 1 - i by omega)
      have HT := Lib.hid ht
      obtain ⟨q, hq, hq2⟩ : ∃ q : Nat, 8 * (t : Int) = (q : Int) ∧ q = 8 * t := ⟨8 * t, by omega, rfl⟩
      have hq56 : q ≤ 56 := by omega
      have HQ2 := Lib.hid hq2
      have hdd : decide (0 ≤ (t : Int)) = true := by simp
      clear hq2 ht
      have HBY := Lib.hid (show Value.int .u8 ((num : Int) / 2 ^ q % 256) = bv (UInt8.ofNat (num / 256 ^ (8 - 1 - i))) by
        rw [HQ2.out, HS2.out]
        exact shr_byte num _)
      have HCS := Lib.hid (cs_one_byte wr _ _ HBY.out)
      have HOW := Lib.hid (hP.alloc (.cells #[.int .u8 ((num : Int) / 2 ^ q % 256)] 5))
      have hbs : w.heap.size + 1 ≤ (wr.alloc (.cells #[.int .u8 ((num : Int) / 2 ^ q % 256)] 5)).heap.size := by simp; omega
      have hmx : 1 + i + 1 ≤ maxLen := by unfold maxLen; omega
      have hbx : (1 + i + 1) * 1 ≤ 140737488355328 := by omega
      have hone := bvs_one [UInt8.ofNat (num / 256 ^ (8 - 1 - i))]
      have HX := Lib.hid (show ([UInt8.ofNat kind] ++ (be 8 num).take i).map bv ++ [UInt8.ofNat (num / 256 ^ (8 - 1 - i))].map bv = ([UInt8.ofNat kind] ++ (be 8 num).take (i + 1)).map bv by
        rw [HBT.out i hlt]
        simp only [List.map_append, List.append_assoc])
      go_wp2_with (at_builtin; refine wpList_app bytesT rfl (.tmp 33) (.tmp 41) rfl (w.heap.size + 1) _ (1 + i) _ rfl HOW.out.own (some ⟨wr.heap.size, 0, none⟩) 1 1 ([UInt8.ofNat (num / 256 ^ (8 - 1 - i))].map bv) rfl rfl HCS.out hone hmx hbx hbs ?_; intro v2 w2 hown2 hgr2 _; rw [HX.out] at hown2)
      have hP2 := HOW.out.grow hgr2 hown2
      go_roundw
      case rel => exact ⟨i + 1, by omega, by have := HT.out; congr 1; omega, hP2⟩
      case measure => simp [intOf]
    · obtain rfl : i = 8 := by omega
      rw [show (7 - ((8 : Nat) : Int)) = -1 from rfl]
      have hdd : decide (0 ≤ (-1 : Int)) = false := by simp
      have e0 : (be 8 num).take 8 = be 8 num := List.take_of_length_le (by rw [be_length]; exact Nat.le_refl _)
      rw [e0] at hP
      obtain ⟨L1, hL1⟩ : ∃ L, L = [UInt8.ofNat kind] ++ be 8 num := ⟨_, rfl⟩
      rw [← hL1] at hP
      have HL1 := Lib.hid hL1
      have e2 : #[Value.int .u8 ((n : Int) / 256), .int .u8 ((n : Int) % 256)] = ((be 2 n).map bv).toArray := by
        have a1 : Value.int .u8 ((n : Int) / 256) = bv (UInt8.ofNat (n / 256 ^ 1)) := by simp [bv]; omega
        have a2 : Value.int .u8 ((n : Int) % 256) = bv (UInt8.ofNat (n / 256 ^ 0)) := by simp [bv]
        rw [a1, a2]
        rfl
      have HCS := Lib.hid (cs_bytes wr (be 2 n))
      rw [← e2] at HCS
      have HOW := Lib.hid (hP.alloc (.cells #[Value.int .u8 ((n : Int) / 256), .int .u8 ((n : Int) % 256)] 5))
      have hbs : w.heap.size + 1 ≤ (wr.alloc (.cells #[Value.int .u8 ((n : Int) / 256), .int .u8 ((n : Int) % 256)] 5)).heap.size := by simp; omega
      have hmx : 1 + 8 + 2 ≤ maxLen := by unfold maxLen; omega
      have hbx : (1 + 8 + 2) * 1 ≤ 140737488355328 := by omega
      have hone := bvs_one (be 2 n)
      have HB2 := Lib.hid (show ((be 2 n).map bv).length = 2 * 1 by simp [be_length])
      clear e0 e2 hL1 hP
      go_upto_region 11 with (at_builtin; refine wpList_app bytesT rfl (.tmp 43) (.tmp 54) rfl (w.heap.size + 1) _ (1 + 8) _ rfl HOW.out.own (some ⟨wr.heap.size, 0, none⟩) 2 2 ((be 2 n).map bv) rfl HB2.out HCS.out hone hmx hbx hbs ?_; intro v3 w3 hown3 hgr3 _; rw [← List.map_append] at hown3)
      have hP3 := HOW.out.grow hgr3 hown3
      have HP3 := Lib.hid hP3
      have c3 := hP3.box.cell 2
      have hsz3 := hP3.sz
      have hr3 := (hr.below hP3.bel).cs
      have hone3 := bvs_one load
      have HB3 := Lib.hid (show (load.map bv).length = n * 1 by rw [List.length_map, HL.out, Nat.mul_one])
      have hmx3 : 1 + 8 + 2 + n ≤ maxLen := by unfold maxLen; omega
      have hbx3 : (1 + 8 + 2 + n) * 1 ≤ 140737488355328 := by omega
      clear HOW HCS hgr3 hown3 HB2 hone hmx hbx hbs c1 c2 hsz hP3
      go_upto_region 12 with (at_builtin; refine wpList_app bytesT rfl (.tmp 56) (.tmp 58) rfl (w.heap.size + 1) _ (1 + 8 + 2) _ rfl HP3.out.own A n c (load.map bv) rfl HB3.out hr3 hone3 hmx3 hbx3 hsz3 ?_; intro v4 w4 hown4 hgr4 _; rw [← List.map_append] at hown4)
      have hP4 := HP3.out.grow hgr4 hown4
      obtain ⟨N, hN⟩ : ∃ N, 1 + 8 + 2 + n = N := ⟨_, rfl⟩
      rw [hN] at hP4
      obtain ⟨A4, c4, hv4⟩ := own_slice hP4.own
      subst hv4
      obtain ⟨k, hk4⟩ : ∃ k : Nat, (s : Int) - 4 - (N : Int) = (k : Int) := ⟨s - 4 - N, by omega⟩
      obtain ⟨M, hM⟩ : ∃ M, N + k = M := ⟨_, rfl⟩
      have hM3 : M ≤ 4096 := by omega
      have hkN : k = s - 15 - n := by omega
      have HBD := Lib.hid (show L1 ++ be 2 n ++ load ++ List.replicate k 0 = sealBody s kind num load by rw [HL1.out, hkN]; unfold sealBody; rw [HL.out]; simp)
      have HP4 := Lib.hid hP4
      have hsz4 := hP4.sz
      have hN0 : 0 < N := by omega
      have hNk : N + k ≤ 65536 := by omega
      have HM := Lib.hid hM
      have hN5 : N ≤ s := by omega
      clear hown4 hgr4 HP3 c3 hsz3 hr3 hone3 HB3 hmx3 hbx3 hP4 hN hM hkN
      go_upto_region 13 with (at_builtin; refine wpList_appz bytesT Try.underlying3 rfl (.tmp 60) (.tmp 65) rfl (w.heap.size + 1) _ N k _ rfl rfl HP4.out.own hN0 hNk hsz4 ?_; intro v5 w5 hown5 hgr5 _)
      rw [HBD.out] at hown5
      have hP5 := HP4.out.grow hgr5 hown5
      rw [HM.out] at hP5
      obtain ⟨A5, c5, hr5, hl5, hc5⟩ : ∃ A5 c5, v5 = .slice A5 M c5 ∧ Rd w5 A5 (sealBody s kind num load) ∧ (sealBody s kind num load).length = M := by
        obtain ⟨A5, c5, h1, h2, h3, _⟩ := own_rd hP5.own
        exact ⟨A5, c5, h1, h2, h3⟩
      subst hr5
      have HCR := Lib.hid (rcrc_any A5 (sealBody s kind num load) M c5 w5 hc5 (by omega) hl5)
      obtain ⟨cr, hcr⟩ : ∃ cr, crc (sealBody s kind num load) = cr := ⟨_, rfl⟩
      rw [hcr] at HCR
      have HCRE := Lib.hid hcr
      have hcr32 : cr < 4294967296 := by rw [← hcr]; exact crc_lt _
      have hsz5 := hP5.sz
      have HP5 := Lib.hid hP5
      clear HP4 hown5 hgr5 hP5 hcr HM hc5 HBD
      go_upto_region 14 with (go_at_call 86; refine HCR.out.mono ?_; rintro e w' ⟨rfl, rfl⟩)
      have e4 : #[Value.int .u8 ((cr : Int) / 16777216), .int .u8 ((cr : Int) / 65536 % 256), .int .u8 ((cr : Int) / 256 % 256), .int .u8 ((cr : Int) % 256)] = ((be 4 cr).map bv).toArray := by
        have a1 : Value.int .u8 ((cr : Int) / 16777216) = bv (UInt8.ofNat (cr / 256 ^ 3)) := by simp [bv]; omega
        have a2 : Value.int .u8 ((cr : Int) / 65536 % 256) = bv (UInt8.ofNat (cr / 256 ^ 2)) := by simp [bv]
        have a3 : Value.int .u8 ((cr : Int) / 256 % 256) = bv (UInt8.ofNat (cr / 256 ^ 1)) := by simp [bv]
        have a4 : Value.int .u8 ((cr : Int) % 256) = bv (UInt8.ofNat (cr / 256 ^ 0)) := by simp [bv]
        rw [a1, a2, a3, a4]
        rfl
      have HCS := Lib.hid (cs_bytes w5 (be 4 cr))
      rw [← e4] at HCS
      have HOW := Lib.hid (HP5.out.alloc (.cells #[Value.int .u8 ((cr : Int) / 16777216), .int .u8 ((cr : Int) / 65536 % 256), .int .u8 ((cr : Int) / 256 % 256), .int .u8 ((cr : Int) % 256)] 5))
      have hbs : w.heap.size + 1 ≤ (w5.alloc (.cells #[Value.int .u8 ((cr : Int) / 16777216), .int .u8 ((cr : Int) / 65536 % 256), .int .u8 ((cr : Int) / 256 % 256), .int .u8 ((cr : Int) % 256)] 5)).heap.size := by simp; omega
      have hmx : M + 4 ≤ maxLen := by unfold maxLen; omega
      have hbx : (M + 4) * 1 ≤ 140737488355328 := by omega
      have hone := bvs_one (be 4 cr)
      have HB4 := Lib.hid (show ((be 4 cr).map bv).length = 4 * 1 by simp [be_length])
      have HSE := Lib.hid (show sealBody s kind num load ++ be 4 cr = sealed s kind num load by unfold sealed; rw [HCRE.out])
      clear e4
      go_wp2_with (at_builtin; refine wpList_app bytesT rfl (.tmp 69) (.tmp 81) rfl (w.heap.size + 1) _ M _ rfl HOW.out.own (some ⟨w5.heap.size, 0, none⟩) 4 4 ((be 4 cr).map bv) rfl HB4.out HCS.out hone hmx hbx hbs ?_; intro v6 w6 hown6 hgr6 _; rw [← List.map_append, HSE.out] at hown6; have hP6 := HOW.out.grow hgr6 hown6; obtain ⟨A6, c6, hv6, hr6, hl6, _⟩ := own_rd hown6; have hst6 := run_str (P := Try.prog) Try.underlying23 Try.underlying5 Try.underlying9 w6 A6 (M + 4) c6 _ hl6 hr6; subst hv6; clear hl6)
      go_ret2
      exact ⟨rfl, hP6.bel⟩

set_option maxHeartbeats 1000000 in
/-- The reference's Put at every input. -/
theorem rput_any (size : Int) (kind num : Nat) (A : Option Addr) (n c : Nat) (load : List UInt8) (w : World) (hk : kind < 256) (hnum : num < 18446744073709551616) (hl : load.length = n) (hr : Rd w A load) :
    Calls Try.prog 75 #[.int .i64 size, .agg #[.int .u8 kind, .int .u64 num, .slice A n c]] w fun e w' => e = .returned (.tuple #[.string ⟨(putP size kind num load).2.toArray⟩, .int .i64 ((putP size kind num load).1 : Int)]) ∧ Below w.heap.size w w' := by
  by_cases h1 : size < 64 ∨ 4096 < size ∨ kind = 0
  · have HE := Lib.hid (show putP size kind num load = (2, []) by
      unfold putP room
      rw [if_pos]
      rcases h1 with h | h | h
      · exact .inl (by rw [if_pos h])
      · exact .inl (by rw [if_neg (by omega), if_pos h])
      · exact .inr h)
    have h2 : decide (size < 64) = true ∨ (decide (size < 64) = false ∧ decide (4096 < size) = true) ∨ (decide (size < 64) = false ∧ decide (4096 < size) = false ∧ ((kind : Int) == 0) = true) := by
      simp only [decide_eq_true_eq, decide_eq_false_iff_not, beq_iff_eq]; omega
    clear h1 hl
    rcases h2 with h1 | ⟨h1, h2⟩ | ⟨h1, h2, h3⟩
    all_goals
      go_enter Try.func75, Try.ntmps75
      go_wp2
      go_ret2
      rw [HE.out]
      exact ⟨rfl, below_alloc _ _⟩
  · obtain ⟨s, rfl⟩ := Int.eq_ofNat_of_zero_le (show 0 ≤ size by omega)
    have hrm : room (s : Int) = (s : Int) - 15 := by unfold room; rw [if_neg (by omega), if_neg (by omega)]
    by_cases h2 : s < n + 15
    · have HE := Lib.hid (show putP s kind num load = (1, []) by unfold putP; rw [if_neg (by omega), hrm, if_pos (by omega)])
      have HRM := Lib.hid (fun W => rroom_any (s : Int) W)
      rw [hrm] at HRM
      have d1 : decide ((s : Int) < 64) = false := by simp; omega
      have d2 : decide (4096 < (s : Int)) = false := by simp; omega
      have d3 : ((kind : Int) == 0) = false := by simp; omega
      have d4 : decide ((s : Int) - 15 < (n : Int)) = true := by simp; omega
      clear hl hrm h1
      go_enter Try.func75, Try.ntmps75
      go_upto_region 3 with (fail)
      go_quiet ((go_at_call 14; exact Calls.quiet_of_same ((HRM.out _).mono fun e w' ⟨he, hw⟩ => ⟨he, hw.symm⟩)))
      go_wp2
      go_ret2
      rw [HE.out]
      exact ⟨rfl, below_drewN (below_alloc _ _) _⟩
    · have hpo := putP_ok (num := num) (load := load) (size := s) (kind := kind) (by omega) (by omega) (by omega) (by omega)
      rw [hpo]
      exact rput_ok s kind num A n c load w (by omega) (by omega) (by omega) hk hnum (by omega) hl hr
theorem tv_extract {ps : ByteArray} {l : List UInt8} {k : Nat} (h : ps.data.toList = l) : Value.string (ps.extract 0 k) = tv (l.take k) := by
  unfold tv
  congr 1
  apply ByteArray.ext
  apply Array.toList_inj.1
  rw [Lib.extract_data, h]
  simp
theorem drop_extract {ps : ByteArray} {l : List UInt8} {k : Nat} (h : ps.data.toList = l) : (ps.extract k ps.size).data.toList = l.drop k := by
  rw [Lib.extract_to_end, h]
theorem cs_one_val (w : World) (v : Value) (t : TypeId) : Cs (w.alloc (.cells #[v] t)) (some ⟨w.heap.size, 0, none⟩) [v] := .inr ⟨_, rfl, cell_one_new w v t⟩
/-- A struct of the call's own: what is read. -/
structure GS (w : World) (x : Array Value) (W : World) : Prop where
  res : Blk W w.heap.size 89 #[.int .u8 0, .int .u64 0, .slice none 0 0]
  x : Blk W (w.heap.size + 1) 89 x
  bel : Below w.heap.size w W
section
variable {w W W' : World} {x : Array Value}
theorem GS.keep (h : GS w x W) (hb : Below W.heap.size W W') : GS w x W' := ⟨h.res.keep hb, h.x.keep hb, below_step h.bel hb⟩
theorem GS.set (h : GS w x W) (i : Nat) (v : Value) : GS w (x.setIfInBounds i v) (W.setCell ⟨w.heap.size + 1, i, none⟩ v) :=
  ⟨h.res.far (p := ⟨w.heap.size + 1, i, none⟩) (by show w.heap.size ≠ w.heap.size + 1; omega) v, h.x.set_ i v, h.bel.setCell (p := ⟨w.heap.size + 1, i, none⟩) (by show w.heap.size ≤ w.heap.size + 1; omega) v⟩
theorem GS.drew (h : GS w x W) : GS w x W.drew := h.keep (Below.refl _ _).drew
end

theorem conv_any (W : World) (s : ByteArray) (x : List UInt8) (h : s.data.toList = x) :
    ∃ c W', (convert 9 23 (.string s)).run Try.prog W = .ok (.slice (some ⟨W.heap.size, 0, none⟩) x.length c) W' ∧ Rd W' (some ⟨W.heap.size, 0, none⟩) x ∧ x.length ≤ c ∧ Below W.heap.size W W' := by
  have hsz : s.size = x.length := by rw [← h, Array.length_toList]; rfl
  have hcv := run_bytes_of_string (P := Try.prog) W 9 23 5 s Try.underlying9 Try.underlying23 Try.underlying5
  have hG := grownCap_ge W s.size 0 5
  rw [hsz] at hcv hG
  generalize grownCap W x.length 0 5 = G at *
  refine ⟨G, _, hcv, ?_, hG, below_step (b := W.drew) (Below.refl _ _).drew (below_alloc W.drew _)⟩
  refine .inr ⟨W.heap.size, 0, rfl, fun j hj => ?_⟩
  have hc2 := cell_of_row (W.drew.alloc (.cells (bytesRow s G) 5 ((bytesRow s G).size, (bytesRow s G).size + 1))) W.heap.size (0 + j) (bytesRow s G) 5 ((bytesRow s G).size, (bytesRow s G).size + 1) (heap_alloc_new W.drew _)
  rw [hc2, Nat.zero_add]
  have hj2 : j < s.data.size := by have : s.data.size = s.size := rfl; omega
  unfold bytesRow
  rw [Array.getElem?_append_left (by simpa using hj2)]
  subst h
  rw [Array.getElem?_map, Array.getElem?_eq_getElem hj2]
  simp [bv]
theorem told_pair (l : List UInt8) (h : 10 < l.length) : toldN ((l.drop 9).take 2) = 256 * l[9].toNat + l[10].toNat := by
  have e : (l.drop 9).take 2 = [l[9], l[10]] := by
    rw [List.take_succ_eq_append_getElem (by simp; omega), List.take_succ_eq_append_getElem (by simp; omega)]
    simp
  rw [e]
  have := u8_lt l[9]
  simp [toldN]
  omega

set_option maxRecDepth 100000 in
set_option maxHeartbeats 2000000 in
theorem rget_rest (s : ByteArray) (l : List UInt8) (w : World) (hs : s.data.toList = l) (h64 : 64 ≤ s.size) (h4096 : s.size ≤ 4096) :
    Calls Try.prog 52 #[.string s] w (GetEnds w l) := by
  have HS := Lib.hid hs
  have hln : l.length = s.size := by rw [← hs, Array.length_toList]; rfl
  have HLN := Lib.hid hln
  have hat : ∀ k (h : k < s.size) (h' : k < l.length), s[k].toNat = l[k].toNat := by
    intro k h h'
    subst hs
    rfl
  have HAT := Lib.hid hat
  obtain ⟨n, hn⟩ : ∃ n, n = s.size := ⟨_, rfl⟩
  have d1 : decide ((s.size : Int) < 64) = false := by simp; omega
  have d2 : decide (4096 < (s.size : Int)) = false := by simp; omega
  have HRM := Lib.hid (fun W => rroom_any (s.size : Int) W)
  have hrm : room (s.size : Int) = (s.size : Int) - 15 := by unfold room; rw [if_neg (by omega), if_neg (by omega)]
  rw [hrm] at HRM
  clear hs hln hat hn hrm
  go_enter Try.func52, Try.ntmps52
  go_upto_region 4 with (fail)
  have HG0 : Hid (GS w #[.int .u8 ((s[0]'(by omega)).toNat : Int), .int .u64 0, .slice none 0 0] ((w.alloc (.cells #[.int .u8 0, .int .u64 0, .slice none 0 0] 89)).alloc (.cells #[.int .u8 ((s[0]'(by omega)).toNat : Int), .int .u64 0, .slice none 0 0] 89))) := by
    refine ⟨(Blk.new w _ _).alloc _, ?_, below_step (below_alloc _ _) (below_alloc _ _)⟩
    have := Blk.new (w.alloc (.cells #[.int .u8 0, .int .u64 0, .slice none 0 0] 89)) 89 #[.int .u8 ((s[0]'(by omega)).toNat : Int), .int .u64 0, .slice none 0 0]
    simpa using this
  generalize hk0 : (s[0]'(by omega)).toNat = hd at *
  refine wp_world (fun W => GS w #[.int .u8 (hd : Int), .int .u64 0, .slice none 0 0] W) HG0.out ?_
  intro w1 hG1
  go_wp2
  go_loopw [5] (fun i wr => ∃ k : Nat, k ≤ 8 ∧ i = .int .i64 ((k : Int) + 1) ∧ GS w #[.int .u8 (hd : Int), .int .u64 ((toldN ((l.drop 1).take k) : Nat) : Int), .slice none 0 0] wr) (fun i _ => 9 - (intOf i).toNat)
  case atStart => exact ⟨0, Nat.zero_le _, rfl, by simpa [toldN] using hG1⟩
  case round =>
    obtain ⟨k, hk, rfl, hG⟩ := hrel
    clear hG1 HG0
    have htk := toldN_lt ((l.drop 1).take k)
    by_cases hlt : k < 8
    · have hkl : k + 1 < l.length := by rw [HLN.out]; omega
      have q4 : k + 1 < s.size := by omega
      have hcb := HAT.out (k + 1) q4 hkl
      have hsn : (l.drop 1).take (k + 1) = (l.drop 1).take k ++ [l[k + 1]] := by
        rw [List.take_succ_eq_append_getElem (by simp; omega)]
        simp
      have h8 := u8_lt l[k + 1]
      have hor := or_byte_s (toldN ((l.drop 1).take k)) l[k + 1].toNat htk h8
      rw [← toldN_snoc, ← hsn] at hor
      have HG2 := Lib.hid ((hG.set 1 (.int .u64 ((toldN ((l.drop 1).take (k + 1)) : Nat) : Int))).drew)
      rw [← hcb] at hor h8
      have c1 := hG.x.cell 1
      have f1 := hG.x.frozen 1
      have HV := Lib.hid hor
      clear hcb hsn hG hkl hor
      obtain ⟨tk, hk1⟩ : ∃ tk, toldN ((l.drop 1).take k) = tk := ⟨_, rfl⟩
      rw [hk1] at HV c1 htk
      clear hk1
      have hd1 : decide ((k : Int) + 1 < 9) = true := by simp; omega
      have q1 : (0 : Int) ≤ (k : Int) + 1 := by omega
      have q2 : ((k : Int) + 1).toNat = k + 1 := by omega
      have q3 : (k : Int) + 1 < (s.size : Int) := by omega
      go_upto_region 7 with (fail)
      go_region
      go_wp2
      rw [HV.out]
      exact ⟨⟨k + 1, by omega, by go_num, HG2.out⟩, by simp [intOf]; omega⟩
    · obtain rfl : k = 8 := by omega
      clear htk hlt hk
      obtain ⟨num, hnum⟩ : ∃ num, toldN ((l.drop 1).take 8) = num := ⟨_, rfl⟩
      rw [hnum] at hG
      have HNUM := Lib.hid hnum
      have hd1 : decide (((8 : Nat) : Int) + 1 < 9) = false := by simp
      clear hnum
      have c0 := hG.x.cell 0
      have q9 : (9 : Int) < (s.size : Int) := by omega
      have q10 : (10 : Int) < (s.size : Int) := by omega
      have q9' : 9 < s.size := by omega
      have q10' : 10 < s.size := by omega
      have b9 := u8_lt s[9]
      have b10 := u8_lt s[10]
      have hT := told_pair l (by rw [HLN.out]; omega)
      rw [← HAT.out 9 q9' (by rw [HLN.out]; omega), ← HAT.out 10 q10' (by rw [HLN.out]; omega)] at hT
      obtain ⟨t, ht⟩ : ∃ t, toldN ((l.drop 9).take 2) = t := ⟨_, rfl⟩
      rw [ht] at hT
      have HTT := Lib.hid ht
      have hTI : (256 : Int) * ((s[9].toNat : Nat) : Int) + ((s[10].toNat : Nat) : Int) = (t : Int) := by omega
      have t65 : t ≤ 65535 := by omega
      clear hT ht
      go_upto_region 8 with (fail)
      go_quiet (fail)
      go_upto_region 9 with (fail)
      (try rw [hTI])
      refine wp_world (fun W => GS w #[.int .u8 (hd : Int), .int .u64 (num : Int), .slice none 0 0] W) (hG.keep (below_drewN (Below.refl _ _) _)) ?_
      clear hG c0 hTI b9 b10
      intro w2 hG2
      have r0 := hG2.res.cell 0
      have r1 := hG2.res.cell 1
      have r2 := hG2.res.cell 2
      have g0 := hG2.res.frozen 0
      have g1 := hG2.res.frozen 1
      have g2 := hG2.res.frozen 2
      have hwl := hG2.res.lt
      by_cases hbig : s.size < t + 15
      · have HG := Lib.hid (show getP l = none by unfold getP; rw [HLN.out, HTT.out, if_neg (by unfold room; rw [if_neg (by omega), if_neg (by omega)]; omega), if_pos (by unfold room; rw [if_neg (by omega), if_neg (by omega)]; omega)])
        have hd9 : decide ((s.size : Int) - 15 < (t : Int)) = true := by simp; omega
        go_wp2_with (go_at_call 14; refine (HRM.out _).mono ?_; rintro e w' ⟨rfl, rfl⟩)
        refine bp_world (fun W => Below w.heap.size w W ∧ Blk W w.heap.size 89 #[.int .u8 0, .int .u64 0, .slice none 0 0]) ⟨?_, ?_⟩ ?_
        · exact ((hG2.bel.setCell (Nat.le_refl _) _).setCell (Nat.le_refl _) _).setCell (Nat.le_refl _) _
        · exact ((hG2.res.set_ 0 _).set_ 1 _).set_ 2 _
        rintro W ⟨hbW, hBW⟩
        have y0 := hBW.cell 0
        have y1 := hBW.cell 1
        have y2 := hBW.cell 2
        exact bodyPost_ret (v := .tuple #[.agg #[.int .u8 0, .int .u64 0, .slice none 0 0], .int .i64 30]) (by simp [results, Try.results52, go_sem, y0, y1, y2]) rfl ⟨hbW, .inl ⟨HG.out, rfl⟩⟩
      · have hd9 : decide ((s.size : Int) - 15 < (t : Int)) = false := by simp; omega
        obtain ⟨x, hx⟩ : ∃ x, x = (l.drop 11).take t := ⟨_, rfl⟩
        have hxl : x.length = t := by rw [hx, List.length_take, List.length_drop, HLN.out]; omega
        obtain ⟨xs, hxs⟩ : ∃ xs : ByteArray, xs = s.extract 11 (11 + t) := ⟨_, rfl⟩
        have hxd : xs.data.toList = x := by rw [hxs, Lib.extract_data, HS.out, hx]; congr 1; omega
        obtain ⟨c2, w3, hcv, hr3, hc3, hb3⟩ := conv_any w2 xs x hxd
        rw [hxl] at hcv hc3
        rw [hxs] at hcv
        have HXL := Lib.hid hxl
        have hG3 := hG2.keep hb3
        have e2 := hG3.x.cell 2
        have m2 := hG3.x.frozen 2
        have HG3 := Lib.hid (hG3.set 2 (.slice (some ⟨w2.heap.size, 0, none⟩) t c2))
        have p1 : (0 : Int) ≤ 11 + (t : Int) := by omega
        have p2 : 11 + (t : Int) ≤ (s.size : Int) := by omega
        have p3 : (11 + (t : Int)).toNat = 11 + t := by omega
        have HR3 : Hid (Rd (w3.setCell ⟨w.heap.size + 1, 2, none⟩ (.slice (some ⟨w2.heap.size, 0, none⟩) t c2)) (some ⟨w2.heap.size, 0, none⟩) x) := by
          have hl2 := hG2.x.lt
          have hfr := Fr.setCell (fun k => k = w.heap.size + 1) w3 (p := ⟨w.heap.size + 1, 2, none⟩) (fun _ => rfl) (.slice (some ⟨w2.heap.size, 0, none⟩) t c2)
          exact hfr.rd hr3 (fun b off e _ => by injection e with e; injection e with e; omega)
        have HX := Lib.hid hx
        clear hxs hxd hx hxl r0 r1 r2 g0 g1 g2 hG3
        go_upto_region 12 with (go_at_call 14; refine (HRM.out _).mono ?_; rintro e w' ⟨rfl, rfl⟩)
        refine wp_world (fun W => GS w #[.int .u8 (hd : Int), .int .u64 (num : Int), .slice (some ⟨w2.heap.size, 0, none⟩) t c2] W ∧ Rd W (some ⟨w2.heap.size, 0, none⟩) x) ⟨HG3.out, HR3.out⟩ ?_
        rintro w4 ⟨hG4, hr4⟩
        have hhd : hd < 256 := by rw [← hk0]; exact u8_lt _
        have hnm : num < 18446744073709551616 := by rw [← HNUM.out]; exact toldN_lt _
        have HPU := Lib.hid (rput_any (s.size : Int) hd num (some ⟨w2.heap.size, 0, none⟩) t c2 x w4 hhd hnm HXL.out hr4)
        have hHd : (l.headD 0).toNat = hd := by
          rw [← hk0, HAT.out 0 (by omega) (by rw [HLN.out]; omega), List.headD_eq_head?_getD, List.head?_eq_getElem?, List.getElem?_eq_getElem (by rw [HLN.out]; omega)]
          rfl
        have HG := Lib.hid (show getP l = if putP (s.size : Int) hd num x = (0, l) then some (hd, num, x) else none by
          unfold getP
          rw [HLN.out, HTT.out, hHd, HNUM.out, ← HX.out, if_neg (by unfold room; rw [if_neg (by omega), if_neg (by omega)]; omega), if_neg (by unfold room; rw [if_neg (by omega), if_neg (by omega)]; omega)])
        rcases hpp : putP (s.size : Int) hd num x with ⟨pe, pl⟩
        rw [hpp] at HG HPU
        have x0 := hG4.x.cell 0
        have x1 := hG4.x.cell 1
        have x2 := hG4.x.cell 2
        have HX4 := Lib.hid hr4
        clear hpp HG3 HR3 e2 m2 hcv hr3 hc3 hb3 hG2 hHd hk0 HX hr4
        by_cases hpe : pe = 0
        · subst hpe
          by_cases hpl : pl = l
          · have HGS := Lib.hid (show getP l = some (hd, num, x) by rw [HG.out, hpl]; simp)
            have hse : (⟨pl.toArray⟩ : ByteArray) = s := by
              rw [hpl, ← HS.out]
            simp only [hse] at HPU
            clear hse hpl HG
            go_upto_region 13 with (go_at_call 75; refine HPU.out.mono ?_; rintro e w5 ⟨rfl, hb5⟩)
            have hG5 := hG4.keep hb5
            have hr5 := HX4.out.below hb5
            have r0 := hG5.res.cell 0
            have r1 := hG5.res.cell 1
            have r2 := hG5.res.cell 2
            have g0 := hG5.res.frozen 0
            have g1 := hG5.res.frozen 1
            have g2 := hG5.res.frozen 2
            have y0 := hG5.x.cell 0
            have y1 := hG5.x.cell 1
            have y2 := hG5.x.cell 2
            clear x0 x1 x2 HX4
            go_wp2
            refine bp_world (fun W => Below w.heap.size w W ∧ Blk W w.heap.size 89 #[.int .u8 (hd : Int), .int .u64 (num : Int), .slice (some ⟨w2.heap.size, 0, none⟩) t c2] ∧ Rd W (some ⟨w2.heap.size, 0, none⟩) x) ⟨?_, ?_, ?_⟩ ?_
            · exact ((hG5.bel.setCell (Nat.le_refl _) _).setCell (Nat.le_refl _) _).setCell (Nat.le_refl _) _
            · exact ((hG5.res.set_ 0 _).set_ 1 _).set_ 2 _
            · have hfr := ((Fr.setCell (fun k => k = w.heap.size) w5 (p := ⟨w.heap.size, 0, none⟩) (fun _ => rfl) (.int .u8 (hd : Int))).same (Fr.setCell (fun k => k = w.heap.size) _ (p := ⟨w.heap.size, 1, none⟩) (fun _ => rfl) (.int .u64 (num : Int)))).same (Fr.setCell (fun k => k = w.heap.size) _ (p := ⟨w.heap.size, 2, none⟩) (fun _ => rfl) (.slice (some ⟨w2.heap.size, 0, none⟩) t c2))
              exact hfr.rd hr5 (fun b off e _ => by injection e with e; injection e with e; omega)
            rintro W ⟨hbW, hBW, hrW⟩
            have z0 := hBW.cell 0
            have z1 := hBW.cell 1
            have z2 := hBW.cell 2
            exact bodyPost_ret (v := .tuple #[.agg #[.int .u8 (hd : Int), .int .u64 (num : Int), .slice (some ⟨w2.heap.size, 0, none⟩) t c2], .int .i64 0]) (by simp [results, Try.results52, go_sem, z0, z1, z2]) rfl ⟨hbW, .inr ⟨hd, num, x, some ⟨w2.heap.size, 0, none⟩, c2, HGS.out, by rw [HXL.out], hrW⟩⟩
          · have HGN := Lib.hid (show getP l = none by rw [HG.out, if_neg (by simpa using hpl)])
            have hsl : s.toList = l := by
              have e : s = ⟨l.toArray⟩ := by rw [← HS.out]
              rw [e]
              simp
            have hne2 : (pl == s.toList) = false := by rw [hsl, beq_eq_false_iff_ne]; exact hpl
            clear hsl hpl HG
            go_upto_region 13 with (go_at_call 75; refine HPU.out.mono ?_; rintro e w5 ⟨rfl, hb5⟩)
            have hG5 := hG4.keep hb5
            have r0 := hG5.res.cell 0
            have r1 := hG5.res.cell 1
            have r2 := hG5.res.cell 2
            have g0 := hG5.res.frozen 0
            have g1 := hG5.res.frozen 1
            have g2 := hG5.res.frozen 2
            clear x0 x1 x2 HX4
            go_wp2
            refine bp_world (fun W => Below w.heap.size w W ∧ Blk W w.heap.size 89 #[.int .u8 0, .int .u64 0, .slice none 0 0]) ⟨?_, ?_⟩ ?_
            · exact ((hG5.bel.setCell (Nat.le_refl _) _).setCell (Nat.le_refl _) _).setCell (Nat.le_refl _) _
            · exact ((hG5.res.set_ 0 _).set_ 1 _).set_ 2 _
            rintro W ⟨hbW, hBW⟩
            have y0 := hBW.cell 0
            have y1 := hBW.cell 1
            have y2 := hBW.cell 2
            exact bodyPost_ret (v := .tuple #[.agg #[.int .u8 0, .int .u64 0, .slice none 0 0], .int .i64 30]) (by simp [results, Try.results52, go_sem, y0, y1, y2]) rfl ⟨hbW, .inl ⟨HGN.out, rfl⟩⟩
        · have HGN := Lib.hid (show getP l = none by rw [HG.out, if_neg (by simp [hpe])])
          have hbe : ((pe : Int) != 0) = true := by rw [bne_iff_ne]; omega
          clear HG hpe
          go_upto_region 13 with (go_at_call 75; refine HPU.out.mono ?_; rintro e w5 ⟨rfl, hb5⟩)
          have hG5 := hG4.keep hb5
          have r0 := hG5.res.cell 0
          have r1 := hG5.res.cell 1
          have r2 := hG5.res.cell 2
          have g0 := hG5.res.frozen 0
          have g1 := hG5.res.frozen 1
          have g2 := hG5.res.frozen 2
          clear x0 x1 x2 HX4
          go_wp2
          refine bp_world (fun W => Below w.heap.size w W ∧ Blk W w.heap.size 89 #[.int .u8 0, .int .u64 0, .slice none 0 0]) ⟨?_, ?_⟩ ?_
          · exact ((hG5.bel.setCell (Nat.le_refl _) _).setCell (Nat.le_refl _) _).setCell (Nat.le_refl _) _
          · exact ((hG5.res.set_ 0 _).set_ 1 _).set_ 2 _
          rintro W ⟨hbW, hBW⟩
          have y0 := hBW.cell 0
          have y1 := hBW.cell 1
          have y2 := hBW.cell 2
          exact bodyPost_ret (v := .tuple #[.agg #[.int .u8 0, .int .u64 0, .slice none 0 0], .int .i64 30]) (by simp [results, Try.results52, go_sem, y0, y1, y2]) rfl ⟨hbW, .inl ⟨HGN.out, rfl⟩⟩

set_option maxHeartbeats 1000000 in
/-- The reference's Get at every text. -/
theorem rget_any (l : List UInt8) (w : World) (hl : l.length ≤ 1000000) : Calls Try.prog 52 #[.string ⟨l.toArray⟩] w (GetEnds w l) := by
  by_cases h : l.length < 64 ∨ 4096 < l.length
  · have HG := Lib.hid (show getP l = none by
      unfold getP room
      rw [if_pos]
      rcases h with h | h
      · rw [if_pos (by omega)]
      · rw [if_neg (by omega), if_pos (by omega)])
    obtain ⟨n, hn⟩ : ∃ n, l.length = n := ⟨_, rfl⟩
    rw [hn] at h
    have HN := Lib.hid hn
    have hway : decide ((n : Int) < 64) = true ∨ (decide ((n : Int) < 64) = false ∧ decide (4096 < (n : Int)) = true) := by
      simp only [decide_eq_true_eq, decide_eq_false_iff_not]; omega
    obtain ⟨s, hs⟩ : ∃ s : ByteArray, s = ⟨l.toArray⟩ := ⟨_, rfl⟩
    have hsz : s.size = n := by rw [hs, ← hn]; rfl
    rw [← hs]
    clear hn h hs
    rcases hway with h1 | ⟨h1, h2⟩
    all_goals
      go_enter Try.func52, Try.ntmps52
      go_wp2
      exact bodyPost_ret (v := .tuple #[.agg #[.int .u8 0, .int .u64 0, .slice none 0 0], .int .i64 30]) (by simp [results, Try.results52, go_sem]) rfl ⟨below_alloc _ _, .inl ⟨HG.out, rfl⟩⟩
  · have hsz : (⟨l.toArray⟩ : ByteArray).size = l.length := by simp [ByteArray.size]
    exact rget_rest ⟨l.toArray⟩ l w rfl (by omega) (by omega)
end
end Go.Proofs.Ytcnhfbckaacalaa
