/- Bytes behind the stream of a journal; what Append, Flush, Begin do, as functions; the walk of Flush. -/
import Derived.Test.YtcnhfbckaacalaaJouX
import Derived.Test.YtcnhfbckaacalaaEncL
namespace Go.Proofs.Ytcnhfbckaacalaa
open Go.RowKit
set_option linter.unusedVariables false

theorem jown_lower {W : World} {base e size n : Nat} {v : Value} {xs : List Value} (h : W.ownsRow base e size v n xs) : W.ownsRow 0 e size v n xs := by
  refine ⟨h.1, ?_⟩
  rcases h.2 with h | ⟨g, cap, cur, h1, h2, h3⟩
  · exact .inl h
  · exact .inr ⟨g, cap, cur, h1, Nat.zero_le _, h3⟩
/-- append onto bytes that are a row of the call's own, or have no room. -/
theorem wpList_appS {P : Program} {w : World} {ops : Array Oper} {rest : List Oper} {o : Oper} {a : Act} {Q : Exit → Act → World → Prop} {t : TypeId} (T : ElT P t 5 (.int .u8 0) 1 1) (hgd : o.guard = none) (s x : Operand)
    (ho : o.op = .call { callee := .builtin .append, args := #[s, x], argTypes := #[t, t] }) (v : Value) (n : Nat) (l : List UInt8) (hs : a.eval s = v) (hown : StrAt w v l) (hn : l.length = n) (A : Option Addr) (m c : Nat) (y : List UInt8) (hx : a.eval x = .slice A m c) (hl : y.length = m) (hm : 0 < m) (hr : Rd w A y) (h63 : n + m ≤ 1000000000)
    (h : ∀ v' w', w'.ownsRow 0 5 1 v' (n + m) ((l ++ y).map bv) → w.grownBy w' v.ownBlock → (∀ k, v'.ownBlock = some k → v.ownBlock = some k ∨ w.heap.size ≤ k) → wpList P ops Q rest (a.put o.dst v') w') :
    wpList P ops Q (o :: rest) a w := by
  subst hn
  have hyl : (y.map bv).length = m * 1 := by rw [List.length_map, hl]; omega
  rcases hown with hown | ⟨A0, hv, hr0, hlt⟩
  · refine wpList_app T hgd s x ho 0 v l.length (l.map bv) hs hown A m c (y.map bv) hx hyl hr.cs (bvs_one y) (by unfold maxLen; omega) (by omega) (Nat.zero_le _) ?_
    intro v' w' h1 h2 h3
    rw [← List.map_append] at h1
    refine h v' w' h1 h2 fun k hk => ?_
    rcases h3 with h3 | h3
    · exact .inl (by rw [← h3]; exact hk)
    · rw [h3] at hk
      injection hk with hk
      exact .inr (by omega)
  · obtain ⟨i, hi, hz, hsz, hby⟩ := info_parts T.info
    obtain ⟨ad, hA, hc⟩ : ∃ ad, A = some ad ∧ ∀ j u, (y.map bv)[j]? = some u → w.cell? (ad.add j) = some u := by
      rcases hr.cs with h9 | ⟨ad, hA, hc⟩
      · rw [h9] at hyl; simp at hyl; omega
      · exact ⟨ad, hA, hc⟩
    subst hA
    refine wpList_append_grows w hgd s x t ho 5 i (.int .u8 0) 1 1 T.ht hi hz hsz hby T.hz (by omega) A0 l.length l.length (l.map bv) (by rw [hs, hv]) ?_ (by simp) ?_ ad m c (y.map bv) hx hyl hc (bvs_one y) (by omega) (by unfold maxLen; omega) (by omega) ?_
    · intro e
      rcases hr0 with h9 | ⟨b, off, h9, _⟩
      · rw [h9]; simp
      · rw [e] at h9; cases h9
    · intro b hb j u hu
      rcases hr0.cs with h9 | ⟨ad0, hA0, hc0⟩
      · rw [h9] at hu; simp at hu
      · rw [hb] at hA0
        injection hA0 with hA0
        rw [hA0]
        exact hc0 j u hu
    · intro v' w' h1 h2
      rw [← List.map_append] at h1
      exact h v' w' (jown_lower h1) ⟨h2.os, h2.tape, h2.output, h2.size, fun k hk _ => h2.block k hk (by simp)⟩ fun k hk => .inr (World.ownsRow.lt h1 k hk).1

theorem DiskAt.far {pd : Nat} {p : Pl} {D : DS} {w w' : World} {F : Nat → Prop} (h : DiskAt pd p D w) (hf : Fr F w w') (hF : ∀ k, p.F pd k → ¬ F k) : DiskAt pd p D w' := by
  refine ⟨hf.blk h.obj (hF _ (.inl rfl)), hf.blk h.row (hF _ (.inr (.inl rfl))), h.cap, h.capm, ?_, ?_⟩
  · refine ⟨h.log.1, ?_⟩
    rcases h.log.2 with hn | ⟨g, cap', cur, hv, hb, hh, rest⟩
    · exact .inl hn
    · have hg := (World.ownsRow.lt h.log g (by rw [hv]; rfl)).2
      exact .inr ⟨g, cap', cur, hv, hb, (hf.block g hg (hF g (.inr (.inr (.inl (by rw [hv]; rfl)))))).trans hh, rest⟩
  · have hlt : p.ch < w.heap.size := (Array.getElem?_eq_some_iff.1 h.chan).1
    exact (hf.block _ hlt (hF _ (.inr (.inr (.inr rfl))))).trans h.chan
section
variable {w0 : Bas} {w w' : World} {pj pd : Nat} {v v' : Value} {J J' : JV} {p p' : Pl} {D D' : DS}
/-- Bytes were laid behind the stream. -/
theorem JD.app (h : JD w0 pj v J pd p D w) {x : List UInt8} {n m : Nat} (hn : J.stream.length = n) (hm : x.length = m) (ho : w'.ownsRow 0 5 1 v' (n + m) ((J.stream ++ x).map bv)) (hg : w.grownBy w' v.ownBlock) (hv : ∀ k, v'.ownBlock = some k → v.ownBlock = some k ∨ w.heap.size ≤ k) (hroom : n + m ≤ J.len * (D.size - 15)) :
    JD w0 pj v' { J with stream := J.stream ++ x } pd p D (w'.setCell ⟨pj, 5, none⟩ v') := by
  subst hn hm
  have hf : Fr (fun k => v.ownBlock = some k) w w' := Fr.of_grown hg (fun k e _ => e)
  have hf2 := Fr.setCell (fun k => k = pj) w' (p := ⟨pj, 5, none⟩) (fun _ => rfl) v'
  have hbs := h.belx.size
  have hs1 := hf.size
  have hpl := h.obj.lt
  have hpdl := h.disk.lt
  have hd := (h.disk.far hf (fun k hk e => (h.sepV k e).1 hk)).far hf2 (fun k hk e => h.sep (e ▸ hk))
  have hb : Fr w0.X w0.w w' := h.belx.join hf (fun k e => h.loV k e)
  have hobj := (hf.blk h.obj (fun e => (h.sepV pj e).2 rfl)).set_ 5 v'
  have hj := h.jok
  have hlo := h.lo
  refine ⟨hd, hobj, .inl ?_, hb.join hf2 (fun k e => e ▸ hlo), h.lo, fun k hk => ?_, h.loD, h.sep, fun k hk => ?_, h.ok, ⟨hj.area, hj.l1, hj.l2, hj.ep, hj.lf1, hj.lf2, ?_, by show (J.stream ++ x).length ≤ _; rw [List.length_append]; exact hroom, ?_⟩⟩
  · show World.ownsRow _ _ _ _ _ (J.stream ++ x).length _
    rw [List.length_append]
    refine World.ownsRow.kept (row := some pj) ho (grown_setCell (grown_refl _ (some pj)) (p := ⟨pj, 5, none⟩) (.inl rfl) _) ?_
    cases hq : v'.ownBlock with
    | none => exact .inl rfl
    | some g9 => exact .inr (fun e9 => by
        injection e9 with e9
        rcases hv g9 hq with h9 | h9
        · exact (h.sepV g9 h9).2 e9
        · omega)
  · rcases hv k hk with h9 | h9
    · exact h.loV k h9
    · exact .inl (by omega)
  · rcases hv k hk with h9 | h9
    · exact h.sepV k h9
    · exact ⟨fun e => by have := hpdl k e; omega, by omega⟩
  · show J.safe ≤ (J.stream ++ x).length
    have := hj.safe
    rw [List.length_append]; omega
  · show J.records ≤ (J.stream ++ x).length
    have := hj.recs
    rw [List.length_append]; omega

/-- What Append does behind the bytes: blocks that are full are written. -/
def JV.flushes : Nat → JV → DS → Nat × JV × DS
  | 0, J, D => (0, J, D)
  | k + 1, J, D => if J.safe / (D.size - 15) < J.stream.length / (D.size - 15) then (if (J.wr D).1 = 0 then JV.flushes k (J.wr D).2.1 (J.wr D).2.2 else J.wr D) else (0, J, D)
def JV.app (J : JV) (D : DS) (l : List UInt8) : Nat × JV × DS :=
  if J.broken = true then (61, J, D) else if J.left D < (laidS l).length then (60, J, D)
  else JV.flushes (J.stream.length + (laidS l).length + 1) { J with stream := J.stream ++ laidS l, records := J.records + 1 } D
def JV.flush (J : JV) (D : DS) : Nat × JV × DS :=
  if J.broken = true then (61, J, D) else if J.safe = J.stream.length then (0, J, D) else J.wr D
def JAct (w0 : Bas) (pj pd : Nat) (x : Nat × JV × DS) (r : Ending) (w' : World) : Prop := r = .returned (.int .i64 (x.1 : Int)) ∧ ∃ v' p', JD w0 pj v' x.2.1 pd p' x.2.2 w'

set_option maxRecDepth 100000 in
set_option maxHeartbeats 1000000 in
theorem jflush_any (h : JD w0 pj v J pd p D w) (hlg : D.log.length + 1 ≤ 1000000) :
    Calls Try.prog 19 #[.pointer (some ⟨pj, 0, none⟩)] w (JAct w0 pj pd (J.flush D)) := by
  have hl := h.jok.len h.ok
  have hsf := h.jok.safe
  obtain ⟨A, c, rfl, _⟩ := h.str.form (by omega)
  by_cases hb : J.broken = true
  · have HRD := Lib.hid (jready_any h 61 (by rw [hb]; rfl))
    have HF := Lib.hid (show J.flush D = (61, J, D) by unfold JV.flush; rw [if_pos hb])
    go_enter Try.func19, Try.ntmps19
    go_wp2_with (go_at_call 48; refine HRD.out.mono ?_; rintro r w1 ⟨rfl, rfl⟩)
    go_ret
    unfold JAct
    rw [HF.out]
    exact ⟨rfl, _, _, h⟩
  have HRD := Lib.hid (jready_any h 0 (by simp [hb]))
  obtain ⟨c0, c1, c2, c3, c4, c5, c6, c7, c8⟩ := h.cells
  by_cases he : J.safe = J.stream.length
  · have HF := Lib.hid (show J.flush D = (0, J, D) by unfold JV.flush; rw [if_neg hb, if_pos he])
    have HJ := Lib.hid (fun q => h.drewN q)
    rw [he] at c6
    clear hb he
    go_enter Try.func19, Try.ntmps19
    go_upto_region 4 with (go_at_call 48; refine HRD.out.mono ?_; rintro r w1 ⟨rfl, rfl⟩)
    go_quiet (fail)
    go_wp2
    go_ret
    unfold JAct
    rw [HF.out]
    exact ⟨rfl, _, _, HJ.out _⟩
  · have HF := Lib.hid (show J.flush D = J.wr D by unfold JV.flush; rw [if_neg hb, if_neg he])
    have hd : ((J.safe : Int) == (J.stream.length : Int)) = false := by simp; omega
    have HW := Lib.hid (fun q => jwrite_any (h.drewN q) (by omega) hlg)
    obtain ⟨R, hR⟩ : ∃ R, J.wr D = R := ⟨_, rfl⟩
    rw [hR] at HW HF
    clear hb he hR
    go_enter Try.func19, Try.ntmps19
    go_upto_region 4 with (go_at_call 48; refine HRD.out.mono ?_; rintro r w1 ⟨rfl, rfl⟩)
    go_quiet (fail)
    go_wp2_with (go_at_call 50; refine (HW.out _).mono ?_; rintro r w2 ⟨rfl, p2, hJ2⟩)
    go_ret
    unfold JAct
    rw [HF.out]
    exact ⟨rfl, _, p2, hJ2⟩
end
end Go.Proofs.Ytcnhfbckaacalaa
