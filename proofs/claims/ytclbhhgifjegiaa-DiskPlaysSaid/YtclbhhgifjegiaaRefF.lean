/- The walks of the reference disk's Cut, Restore, New, Read; of disk.New where it refuses. -/
import Derived.Test.YtclbhhgifjegiaaRefE
namespace Go.Proofs.Ytclbhhgifjegiaa
open Go.RowKit
set_option linter.unusedVariables false
attribute [local go_sem ↓] Go.wp_at_zero Go.wp_at_succ

section
variable {pr : Nat} {q : RPl} {r : RS} {w w' : World} {n : Int} {p : List UInt8}
theorem rwrite_any (h : RefAt pr q r w) (ok : r.Ok) (hp : p.length ≤ 140737488351232) :
    Calls Try.prog 19 #[.pointer (some ⟨pr, 0, none⟩), .int .i64 n, .string ⟨p.toArray⟩] w (RWriteEnds w pr q r n p) := by
  by_cases hh : (n < 0 ∨ (r.n : Int) ≤ n) ∨ r.size < p.length ∨ r.off = true ∨ r.left = 0
  · exact rwrite_no h ok hp hh
  · exact rwrite_ok h ok hp (fun x => hh (.inl x)) (fun x => hh (.inr (.inl x))) (by cases hf : r.off with | false => rfl | true => exact absurd (.inr (.inr (.inl hf))) hh) (fun x => hh (.inr (.inr (.inr x))))

def RS.cut (r : RS) (a : Int) : RS := if r.off = true then r else { r with left := max a (-1) }
set_option maxHeartbeats 400000 in
theorem rcut_any (h : RefAt pr q r w) (a : Int) :
    Calls Try.prog 21 #[.pointer (some ⟨pr, 0, none⟩), .int .i64 a] w fun e w' => e = .returned (.tuple #[]) ∧ RActs w pr q (r.cut a) w' q := by
  obtain ⟨c0, c1, c2, c3, c4, c5⟩ := h.cells
  have f4 := h.obj.frozen 4
  by_cases ho : r.off = true
  · have HC := Lib.hid (show r.cut a = r by unfold RS.cut; rw [if_pos ho])
    rw [ho] at c5
    clear ho
    go_enter Try.func21, Try.ntmps21
    go_wp2
    go_end0
    exact ⟨rfl, by rw [HC.out]; exact RActs.quiet h (Below.refl _ _)⟩
  · rw [show r.off = false by simpa using ho] at c5
    by_cases ha : a < -1
    · have HC := Lib.hid (show r.cut a = { r with left := -1 } by unfold RS.cut; rw [if_neg ho, show max a (-1) = -1 from by omega])
      clear ho
      go_enter Try.func21, Try.ntmps21
      go_wp2
      go_end0
      exact ⟨rfl, by rw [HC.out]; exact ⟨h.setLeft _, Fr.setCell _ _ (fun _ => .inl rfl) _, fun k hk => .inl hk⟩⟩
    · have HC := Lib.hid (show r.cut a = { r with left := a } by unfold RS.cut; rw [if_neg ho, show max a (-1) = a from by omega])
      clear ho
      go_enter Try.func21, Try.ntmps21
      go_wp2
      go_end0
      exact ⟨rfl, by rw [HC.out]; exact ⟨h.setLeft _, Fr.setCell _ _ (fun _ => .inl rfl) _, fun k hk => .inl hk⟩⟩

def RS.back (r : RS) : RS := { r with left := -1, off := false }
set_option maxHeartbeats 400000 in
theorem rrestore_any (h : RefAt pr q r w) :
    Calls Try.prog 22 #[.pointer (some ⟨pr, 0, none⟩)] w fun e w' => e = .returned (.tuple #[]) ∧ RActs w pr q r.back w' q := by
  obtain ⟨c0, c1, c2, c3, c4, c5⟩ := h.cells
  have f4 := h.obj.frozen 4
  have f5 := h.obj.frozen 5
  have HA : Hid (RActs w pr q r.back ((w.setCell ⟨pr, 5, none⟩ (.bool false)).setCell ⟨pr, 4, none⟩ (.int .i64 (-1))) q) :=
    ⟨(h.setOff false).setLeft (-1), (Fr.setCell (q.F pr) w (p := ⟨pr, 5, none⟩) (fun _ => .inl rfl) _).same (Fr.setCell (q.F pr) _ (p := ⟨pr, 4, none⟩) (fun _ => .inl rfl) _), fun k hk => .inl hk⟩
  go_enter Try.func22, Try.ntmps22
  go_wp2
  go_end0
  exact ⟨rfl, HA.out⟩
end

/-- A new one. -/
def RS.fresh (nb size : Nat) : RS := ⟨nb, size, List.replicate nb [], [], -1, false⟩
theorem RS.fresh_ok {nb size : Nat} (h1 : 1 ≤ nb) (h2 : nb ≤ 16384) (h3 : 64 ≤ size) (h4 : size ≤ 4096) : (RS.fresh nb size).Ok :=
  ⟨h1, h2, h3, h4, by simp [RS.fresh], by simp [RS.fresh], by simp [RS.fresh], by simp [RS.fresh], fun i h => by simp [RS.fresh]⟩
def strsN (n : Nat) : Array Value := ((List.replicate n []).map sv).toArray
theorem run_make_strs (n : Nat) (hn : n ≤ 65536) (W : World) :
    (Instr.makeSlice 31 (.int .i64 (n : Int)) (.int .i64 (n : Int))).run Try.prog W = .ok (.slice (some ⟨W.heap.size, 0, none⟩) n n) (W.alloc (.cells (strsN n) 9)) := by
  obtain ⟨i, hi, hz, hsz, hby⟩ := info_parts strsT.info
  have h := run_make (P := Try.prog) W 31 9 i (.string ⟨#[]⟩) strsT.ht hi hz .i64 .i64 n n (by omega) (Int.le_refl _) (by rw [hby]; omega) (by omega)
  have e1 : madeCells (Value.string ⟨#[]⟩).cells ((n : Int).toNat * i.size) = strsN n := by
    have := toList_madeCells_one (.string ⟨#[]⟩) ((n : Int).toNat * i.size)
    apply Array.toList_inj.1
    show (madeCells #[Value.string ⟨#[]⟩] _).toList = _
    rw [this, hsz]
    simp [sv, strsN]
  rw [e1] at h
  simpa using h

set_option maxHeartbeats 400000 in
theorem rnew_ok (nb size : Nat) (w : World) (h1 : 1 ≤ nb) (h2 : nb ≤ 16384) (h3 : 64 ≤ size) (h4 : size ≤ 4096) :
    Calls Try.prog 18 #[.int .i64 nb, .int .i64 size] w fun e w' => ∃ pr q, e = .returned (.tuple #[.pointer (some ⟨pr, 0, none⟩), .int .i64 0]) ∧ RefAt pr q (RS.fresh nb size) w' ∧ Below w.heap.size w w' ∧ ∀ k, q.F pr k → w.heap.size ≤ k := by
  have d1 : decide ((nb : Int) < 1) = false := by simp; omega
  have d2 : decide (16384 < (nb : Int)) = false := by simp; omega
  have d3 : decide ((size : Int) < 64) = false := by simp; omega
  have d4 : decide (4096 < (size : Int)) = false := by simp; omega
  have hmk := fun W => run_make_strs nb (by omega) W
  have HR : Hid (RefAt (w.heap.size + 1) ⟨w.heap.size, .slice none 0 0⟩ (RS.fresh nb size) ((w.alloc (.cells (strsN nb) 9)).alloc (.cells #[.int .i64 (nb : Int), .int .i64 (size : Int), .slice (some ⟨w.heap.size, 0, none⟩) nb nb, .slice none 0 0, .int .i64 (-1), .bool false] 51))) := by
    refine ⟨?_, (Blk.new w _ _).alloc _, World.ownsRow_nil _ _ _ _⟩
    have := Blk.new (w.alloc (.cells (strsN nb) 9)) 51 #[.int .i64 (nb : Int), .int .i64 (size : Int), .slice (some ⟨w.heap.size, 0, none⟩) nb nb, .slice none 0 0, .int .i64 (-1), .bool false]
    rw [World.size_alloc] at this
    exact this
  go_enter Try.func18, Try.ntmps18
  go_wp2
  go_ret2
  refine ⟨w.heap.size + 1, _, rfl, HR.out, ((Below.refl _ _).alloc (Nat.le_refl _) _).alloc (by simp) _, ?_⟩
  rintro k (h | h | h)
  · omega
  · exact Nat.le_of_eq h.symm
  · simp [Value.ownBlock] at h

/-- The numbers that New refuses. -/
def newBad (nb size : Int) : Prop := nb < 1 ∨ 16384 < nb ∨ size < 64 ∨ 4096 < size
theorem newBad_ways {nb size : Int} (h : newBad nb size) : decide (nb < 1) = true ∨ (decide (nb < 1) = false ∧ decide (16384 < nb) = true) ∨ (decide (nb < 1) = false ∧ decide (16384 < nb) = false ∧ decide (size < 64) = true) ∨ (decide (nb < 1) = false ∧ decide (16384 < nb) = false ∧ decide (size < 64) = false ∧ decide (4096 < size) = true) := by
  unfold newBad at h
  simp only [decide_eq_true_eq, decide_eq_false_iff_not]
  omega
set_option maxHeartbeats 400000 in
theorem rnew_bad (nb size : Int) (w : World) (h : newBad nb size) :
    Calls Try.prog 18 #[.int .i64 nb, .int .i64 size] w fun e w' => e = .returned (.tuple #[.pointer none, .int .i64 2]) ∧ w = w' := by
  rcases newBad_ways h with d1 | ⟨d1, d2⟩ | ⟨d1, d2, d3⟩ | ⟨d1, d2, d3, d4⟩
  all_goals
    go_enter Try.func18, Try.ntmps18
    go_wp2
    go_ret2
    exact ⟨rfl, rfl⟩
set_option maxHeartbeats 400000 in
theorem new_bad (nb size : Int) (w : World) (h : newBad nb size) :
    Calls Try.prog 10 #[.int .i64 nb, .int .i64 size] w fun e w' => e = .returned (.tuple #[.pointer none, .int .i64 2]) ∧ w = w' := by
  rcases newBad_ways h with d1 | ⟨d1, d2⟩ | ⟨d1, d2, d3⟩ | ⟨d1, d2, d3, d4⟩
  all_goals
    go_enter Try.func10, Try.ntmps10
    go_wp2
    go_ret2
    exact ⟨rfl, rfl⟩
end Go.Proofs.Ytclbhhgifjegiaa
