/- The walks of fits and Begin of layer 6; nil journals. -/
import Derived.Test.YtcnhfbckaacalaaJouR
namespace Go.Proofs.Ytcnhfbckaacalaa
open Go.RowKit
set_option linter.unusedVariables false

/-- Is an area one of a disk? -/
def fitsB (nb : Nat) (fr ln : Int) : Bool := decide (0 ≤ fr ∧ fr < nb ∧ 1 ≤ ln ∧ ln ≤ 16384 ∧ ln ≤ nb - fr)
set_option maxRecDepth 100000 in
set_option maxHeartbeats 2000000 in
theorem jfits_any {pd : Nat} {p : Pl} {D : DS} {w : World} (h : DiskAt pd p D w) (ok : D.Ok) (fr ln : Int) :
    Calls Try.prog 38 #[.pointer (some ⟨pd, 0, none⟩), .agg #[.int .i64 fr, .int .i64 ln]] w fun r w' => r = .returned (.bool (fitsB D.nb fr ln)) ∧ Below w.heap.size w w' := by
  have HB := Lib.hid (fun q => blocks_any ((h.keep (below_alloc w (.cells #[.int .i64 fr, .int .i64 ln] 34))).keep (below_drewN (Below.refl _ _) q)) ok)
  have HW := Lib.hid (fun q => below_drewN (below_alloc w (.cells #[.int .i64 fr, .int .i64 ln] 34)) q)
  have hnb := ok.n2
  generalize D.nb = nb at *
  clear h ok
  by_cases a1 : 0 ≤ fr
  rotate_left
  · have HF := Lib.hid (show fitsB nb fr ln = false by unfold fitsB; rw [decide_eq_false_iff_not]; omega)
    have d1 : decide (0 ≤ fr) = false := by simpa using a1
    clear a1
    go_enter Try.func38, Try.ntmps38
    go_wp2
    go_quiet (fail)
    go_wp2
    go_ret
    rw [HF.out]
    exact ⟨rfl, HW.out _⟩
  have d1 : decide (0 ≤ fr) = true := by simpa using a1
  by_cases a2 : fr < nb
  rotate_left
  · have HF := Lib.hid (show fitsB nb fr ln = false by unfold fitsB; rw [decide_eq_false_iff_not]; omega)
    have d2 : decide (fr < (nb : Int)) = false := by simpa using a2
    clear a1 a2
    go_enter Try.func38, Try.ntmps38
    go_wp2
    go_quiet ((go_at_call 63; exact Calls.quiet_of (HB.out _)))
    go_wp2
    go_ret
    rw [HF.out]
    exact ⟨rfl, HW.out _⟩
  have d2 : decide (fr < (nb : Int)) = true := by simpa using a2
  by_cases a3 : 1 ≤ ln
  rotate_left
  · have HF := Lib.hid (show fitsB nb fr ln = false by unfold fitsB; rw [decide_eq_false_iff_not]; omega)
    have d3 : decide (1 ≤ ln) = false := by simpa using a3
    clear a1 a2 a3
    go_enter Try.func38, Try.ntmps38
    go_wp2
    go_quiet ((go_at_call 63; exact Calls.quiet_of (HB.out _)))
    go_wp2
    go_ret
    rw [HF.out]
    exact ⟨rfl, HW.out _⟩
  have d3 : decide (1 ≤ ln) = true := by simpa using a3
  by_cases a4 : ln ≤ 16384
  rotate_left
  · have HF := Lib.hid (show fitsB nb fr ln = false by unfold fitsB; rw [decide_eq_false_iff_not]; omega)
    have d4 : decide (ln ≤ 16384) = false := by simpa using a4
    clear a1 a2 a3 a4
    go_enter Try.func38, Try.ntmps38
    go_wp2
    go_quiet ((go_at_call 63; exact Calls.quiet_of (HB.out _)))
    go_wp2
    go_ret
    rw [HF.out]
    exact ⟨rfl, HW.out _⟩
  have d4 : decide (ln ≤ 16384) = true := by simpa using a4
  have q1 : IntKind.i64.wrap ((nb : Int) - fr) = (nb : Int) - fr := IntWalk.i64_in _ (by omega)
  have HF := Lib.hid (show fitsB nb fr ln = decide (ln ≤ (nb : Int) - fr) by unfold fitsB; rw [decide_eq_decide]; omega)
  clear a1 a2 a3 a4
  go_enter Try.func38, Try.ntmps38
  go_wp2
  go_quiet ((go_at_call 63; exact Calls.quiet_of (HB.out _)))
  go_wp2
  go_ret
  rw [HF.out]
  exact ⟨rfl, HW.out _⟩

/-- All nine cells of a journal. -/
def set9 (w : World) (pj : Nat) (b0 b1 b2 b3 b4 b5 b6 b7 b8 : Value) : World := (((((((((w.setCell ⟨pj, 0, none⟩ b0).setCell ⟨pj, 1, none⟩ b1).setCell ⟨pj, 2, none⟩ b2).setCell ⟨pj, 3, none⟩ b3).setCell ⟨pj, 4, none⟩ b4).setCell ⟨pj, 5, none⟩ b5).setCell ⟨pj, 6, none⟩ b6).setCell ⟨pj, 7, none⟩ b7).setCell ⟨pj, 8, none⟩ b8).drew
theorem set9_fr (w : World) (pj : Nat) (b0 b1 b2 b3 b4 b5 b6 b7 b8 : Value) : Fr (fun k => k = pj) w (set9 w pj b0 b1 b2 b3 b4 b5 b6 b7 b8) := (((((((((Fr.setCell (fun k => k = pj) w (p := ⟨pj, 0, none⟩) (fun _ => rfl) b0).same (Fr.setCell (fun k => k = pj) _ (p := ⟨pj, 1, none⟩) (fun _ => rfl) b1)).same (Fr.setCell (fun k => k = pj) _ (p := ⟨pj, 2, none⟩) (fun _ => rfl) b2)).same (Fr.setCell (fun k => k = pj) _ (p := ⟨pj, 3, none⟩) (fun _ => rfl) b3)).same (Fr.setCell (fun k => k = pj) _ (p := ⟨pj, 4, none⟩) (fun _ => rfl) b4)).same (Fr.setCell (fun k => k = pj) _ (p := ⟨pj, 5, none⟩) (fun _ => rfl) b5)).same (Fr.setCell (fun k => k = pj) _ (p := ⟨pj, 6, none⟩) (fun _ => rfl) b6)).same (Fr.setCell (fun k => k = pj) _ (p := ⟨pj, 7, none⟩) (fun _ => rfl) b7)).same (Fr.setCell (fun k => k = pj) _ (p := ⟨pj, 8, none⟩) (fun _ => rfl) b8)).drew
theorem set9_cells {pd : Nat} {J : JV} {v : Value} (b0 b1 b2 b3 b4 b5 b6 b7 b8 : Value) : ((((((((((jcells pd J v).setIfInBounds 0 b0).setIfInBounds 1 b1).setIfInBounds 2 b2).setIfInBounds 3 b3).setIfInBounds 4 b4).setIfInBounds 5 b5).setIfInBounds 6 b6).setIfInBounds 7 b7).setIfInBounds 8 b8) = #[b0, b1, b2, b3, b4, b5, b6, b7, b8] := by
  simp only [jcells, List.setIfInBounds_toArray, List.set_cons_zero, List.set_cons_succ]
theorem set9_blk {w : World} {pj t pd : Nat} {J : JV} {v : Value} (h : Blk w pj t (jcells pd J v)) (b0 b1 b2 b3 b4 b5 b6 b7 b8 : Value) : Blk (set9 w pj b0 b1 b2 b3 b4 b5 b6 b7 b8) pj t #[b0, b1, b2, b3, b4, b5, b6, b7, b8] := by
  rw [← set9_cells (pd := pd) (J := J) (v := v)]
  have h9 := (((((((((h.set_ 0 b0).set_ 1 b1).set_ 2 b2).set_ 3 b3).set_ 4 b4).set_ 5 b5).set_ 6 b6).set_ 7 b7).set_ 8 b8)
  unfold set9
  generalize jcells pd J v = cs at *
  exact blk_drew h9
/-- The world behind a region under a new name. -/
theorem Exit.then_world {K : Act → World → Prop} {Q : Exit → Act → World → Prop} {a : Act} {w : World} (F : World → Prop) (hF : F w) (h : ∀ w', F w' → Exit.then K Q .normal a w') : Exit.then K Q .normal a w := h w hF
/-- What Begin does. -/
def JV.begin (J : JV) (e : Int) : Nat × JV := if e ≤ J.epoch ∨ 16777215 < e then (2, J) else (0, ⟨J.from_, J.len, e.toNat, 1, [], 0, 0, false⟩)
section
variable {w0 : Bas} {w w' : World} {pj pd : Nat} {v v' : Value} {J J' : JV} {p p' : Pl} {D D' : DS}
set_option maxRecDepth 100000 in
set_option maxHeartbeats 2000000 in
theorem jbegin_any (h : JD w0 pj v J pd p D w) (e : Int) :
    Calls Try.prog 25 #[.pointer (some ⟨pj, 0, none⟩), .int .i64 e] w (JAct w0 pj pd ((J.begin e).1, (J.begin e).2, D)) := by
  obtain ⟨c0, c1, c2, c3, c4, c5, c6, c7, c8⟩ := h.cells
  have hl := h.jok.len h.ok
  by_cases h1 : e ≤ J.epoch
  · have HF := Lib.hid (show J.begin e = (2, J) by unfold JV.begin; rw [if_pos (.inl h1)])
    have d1 : decide (e ≤ (J.epoch : Int)) = true := by simpa using h1
    clear h1
    go_enter Try.func25, Try.ntmps25
    go_wp2
    go_ret
    unfold JAct
    rw [HF.out]
    exact ⟨rfl, _, _, h⟩
  have d1 : decide (e ≤ (J.epoch : Int)) = false := by simpa using h1
  by_cases h2 : 16777215 < e
  · have HF := Lib.hid (show J.begin e = (2, J) by unfold JV.begin; rw [if_pos (.inr h2)])
    have d2 : decide (16777215 < e) = true := by simpa using h2
    clear h1 h2
    go_enter Try.func25, Try.ntmps25
    go_wp2
    go_ret
    unfold JAct
    rw [HF.out]
    exact ⟨rfl, _, _, h⟩
  have d2 : decide (16777215 < e) = false := by simpa using h2
  clear d1
  obtain ⟨n, rfl⟩ := Int.eq_ofNat_of_zero_le (show 0 ≤ e by omega)
  have HF := Lib.hid (show J.begin (n : Int) = (0, ⟨J.from_, J.len, n, 1, [], 0, 0, false⟩) by unfold JV.begin; rw [if_neg (by omega)]; rfl)
  have d1 : decide (n ≤ J.epoch) = false := by simp; omega
  have h3 : n ≤ 16777215 := by omega
  have f0 := h.obj.frozen 0
  have f1 := h.obj.frozen 1
  have f2 := h.obj.frozen 2
  have f3 := h.obj.frozen 3
  have f4 := h.obj.frozen 4
  have f5 := h.obj.frozen 5
  have f6 := h.obj.frozen 6
  have f7 := h.obj.frozen 7
  have f8 := h.obj.frozen 8
  have hpj := h.obj.lt
  have HJ := Lib.hid h
  clear h1 h2 h
  go_enter Try.func25, Try.ntmps25
  go_wp2
  go_region
  refine Exit.then_world (fun V => V = set9 w pj (.pointer (some ⟨pd, 0, none⟩)) (.int .i64 (J.from_ : Int)) (.int .i64 (J.len : Int)) (.int .i64 (n : Int)) (.int .i64 1) (.slice none 0 0) (.int .i64 0) (.int .i64 0) (.bool false)) rfl ?_
  clear c0 c1 c2 c3 c4 c5 c6 c7 c8 f0 f1 f2 f3 f4 f5 f6 f7 f8
  intro V hV
  have hB : Blk V pj 74 (jcells pd ⟨J.from_, J.len, n, 1, [], 0, 0, false⟩ (.slice none 0 0)) := by rw [hV]; exact set9_blk HJ.out.obj _ _ _ _ _ _ _ _ _
  have hF : Fr (fun k => k = pj) w V := by rw [hV]; exact set9_fr _ _ _ _ _ _ _ _ _ _ _
  clear hV
  have hj := HJ.out.jok
  have hlo := HJ.out.lo
  have HD : Hid (JD w0 pj (.slice none 0 0) ⟨J.from_, J.len, n, 1, [], 0, 0, false⟩ pd p D V) := ⟨HJ.out.disk.far hF (fun k hk e => HJ.out.sep (e ▸ hk)), hB, .inl (World.ownsRow_nil _ _ _ _), HJ.out.belx.join hF (fun k e => e ▸ hlo), hlo, (fun k hk => by cases hk), HJ.out.loD, HJ.out.sep, (fun k hk => by cases hk), HJ.out.ok, ⟨hj.area, hj.l1, hj.l2, by show n ≤ 16777215; omega, Nat.le_refl _, by show 1 ≤ 1048575; omega, Nat.le_refl _, Nat.zero_le _, Nat.le_refl _⟩⟩
  have hn9 : n ≤ 16777215 := by omega
  clear hB hF hj
  go_wp2
  go_ret
  unfold JAct
  rw [HF.out]
  exact ⟨rfl, _, _, HD.out⟩
end
end Go.Proofs.Ytcnhfbckaacalaa
