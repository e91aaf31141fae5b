/- Bytes behind the stream of a journal; what Append, Flush, Begin do, as functions; the walk of Flush. The walk of Append of layer 6. -/
import Derived.Test.YtcnhfbckaacalaaJouX
import Derived.Test.YtcnhfbckaacalaaEncL
namespace Go.Proofs.Ytcnhfbckaacalaa
section
open Go.RowKit
set_option linter.unusedVariables false

theorem jown_lower {W : World} {base e size n : Nat} {v : Value} {xs : List Value} (h : W.ownsRow base e size v n xs) : W.ownsRow 0 e size v n xs := by
  refine ⟨h.1, ?_⟩
  rcases h.2 with h | ⟨g, cap, cur, h1, h2, h3⟩
  · exact .inl h
  · exact .inr ⟨g, cap, cur, h1, Nat.zero_le _, h3⟩
/-- append onto bytes that are a row of the call's own, or have no room. -/
theorem wpList_appS {P : Program} {w : World} {ops : Array Oper} {rest : List Oper} {o : Oper} {a : Act} {Q : Exit → Act → World → Prop} {t : TypeId} (T : ElT P t 5 (.int .u8 0) 1 1) (hgd : o.guard = none) (s x : Operand)
    (ho : o.op = .call { callee := .builtin .append, args := #[s, x], argTypes := #[t, t] }) (v : Value) (n : Nat) (l : List UInt8) (hs : a.eval s = v) (hown : StrAt w v l) (hn : l.length = n) (A : Option Addr) (m c : Nat) (y : List UInt8) (hx : a.eval x = .slice A m c) (hl : y.length = m) (hm : 0 < m) (hr : Rd w A y) (h63 : n + m ≤ 1000000000)
    (h : ∀ v' w', w'.ownsRow 0 5 1 v' (n + m) ((l ++ y).map bv) → w.grownBy w' v.ownBlock → (∀ k, v'.ownBlock = some k → v.ownBlock = some k ∨ w.heap.size ≤ k) → wpList P ops Q rest (a.put o.dst v') w') :
    wpList P ops Q (o :: rest) a w := by
  subst hn
  have hyl : (y.map bv).length = m * 1 := by rw [List.length_map, hl]; omega
  rcases hown with hown | ⟨A0, hv, hr0, hlt⟩
  · refine wpList_app T hgd s x ho 0 v l.length (l.map bv) hs hown A m c (y.map bv) hx hyl hr.cs (bvs_one y) (by unfold maxLen; omega) (by omega) (Nat.zero_le _) ?_
    intro v' w' h1 h2 h3
    rw [← List.map_append] at h1
    refine h v' w' h1 h2 fun k hk => ?_
    rcases h3 with h3 | h3
    · exact .inl (by rw [← h3]; exact hk)
    · rw [h3] at hk
      injection hk with hk
      exact .inr (by omega)
  · obtain ⟨i, hi, hz, hsz, hby⟩ := info_parts T.info
    obtain ⟨ad, hA, hc⟩ : ∃ ad, A = some ad ∧ ∀ j u, (y.map bv)[j]? = some u → w.cell? (ad.add j) = some u := by
      rcases hr.cs with h9 | ⟨ad, hA, hc⟩
      · rw [h9] at hyl; simp at hyl; omega
      · exact ⟨ad, hA, hc⟩
    subst hA
    refine wpList_append_grows w hgd s x t ho 5 i (.int .u8 0) 1 1 T.ht hi hz hsz hby T.hz (by omega) A0 l.length l.length (l.map bv) (by rw [hs, hv]) ?_ (by simp) ?_ ad m c (y.map bv) hx hyl hc (bvs_one y) (by omega) (by unfold maxLen; omega) (by omega) ?_
    · intro e
      rcases hr0 with h9 | ⟨b, off, h9, _⟩
      · rw [h9]; simp
      · rw [e] at h9; cases h9
    · intro b hb j u hu
      rcases hr0.cs with h9 | ⟨ad0, hA0, hc0⟩
      · rw [h9] at hu; simp at hu
      · rw [hb] at hA0
        injection hA0 with hA0
        rw [hA0]
        exact hc0 j u hu
    · intro v' w' h1 h2
      rw [← List.map_append] at h1
      exact h v' w' (jown_lower h1) ⟨h2.os, h2.tape, h2.output, h2.size, fun k hk _ => h2.block k hk (by simp)⟩ fun k hk => .inr (World.ownsRow.lt h1 k hk).1

theorem DiskAt.far {pd : Nat} {p : Pl} {D : DS} {w w' : World} {F : Nat → Prop} (h : DiskAt pd p D w) (hf : Fr F w w') (hF : ∀ k, p.F pd k → ¬ F k) : DiskAt pd p D w' := by
  refine ⟨hf.blk h.obj (hF _ (.inl rfl)), hf.blk h.row (hF _ (.inr (.inl rfl))), h.cap, h.capm, ?_, ?_⟩
  · refine ⟨h.log.1, ?_⟩
    rcases h.log.2 with hn | ⟨g, cap', cur, hv, hb, hh, rest⟩
    · exact .inl hn
    · have hg := (World.ownsRow.lt h.log g (by rw [hv]; rfl)).2
      exact .inr ⟨g, cap', cur, hv, hb, (hf.block g hg (hF g (.inr (.inr (.inl (by rw [hv]; rfl)))))).trans hh, rest⟩
  · have hlt : p.ch < w.heap.size := (Array.getElem?_eq_some_iff.1 h.chan).1
    exact (hf.block _ hlt (hF _ (.inr (.inr (.inr rfl))))).trans h.chan
section
variable {w0 : Bas} {w w' : World} {pj pd : Nat} {v v' : Value} {J J' : JV} {p p' : Pl} {D D' : DS}
/-- Bytes were laid behind the stream. -/
theorem JD.app (h : JD w0 pj v J pd p D w) {x : List UInt8} {n m : Nat} (hn : J.stream.length = n) (hm : x.length = m) (ho : w'.ownsRow 0 5 1 v' (n + m) ((J.stream ++ x).map bv)) (hg : w.grownBy w' v.ownBlock) (hv : ∀ k, v'.ownBlock = some k → v.ownBlock = some k ∨ w.heap.size ≤ k) (hroom : n + m ≤ J.len * (D.size - 15)) :
    JD w0 pj v' { J with stream := J.stream ++ x } pd p D (w'.setCell ⟨pj, 5, none⟩ v') := by
  subst hn hm
  have hf : Fr (fun k => v.ownBlock = some k) w w' := Fr.of_grown hg (fun k e _ => e)
  have hf2 := Fr.setCell (fun k => k = pj) w' (p := ⟨pj, 5, none⟩) (fun _ => rfl) v'
  have hbs := h.belx.size
  have hs1 := hf.size
  have hpl := h.obj.lt
  have hpdl := h.disk.lt
  have hd := (h.disk.far hf (fun k hk e => (h.sepV k e).1 hk)).far hf2 (fun k hk e => h.sep (e ▸ hk))
  have hb : Fr w0.X w0.w w' := h.belx.join hf (fun k e => h.loV k e)
  have hobj := (hf.blk h.obj (fun e => (h.sepV pj e).2 rfl)).set_ 5 v'
  have hj := h.jok
  have hlo := h.lo
  refine ⟨hd, hobj, .inl ?_, hb.join hf2 (fun k e => e ▸ hlo), h.lo, fun k hk => ?_, h.loD, h.sep, fun k hk => ?_, h.ok, ⟨hj.area, hj.l1, hj.l2, hj.ep, hj.lf1, hj.lf2, ?_, by show (J.stream ++ x).length ≤ _; rw [List.length_append]; exact hroom, ?_⟩⟩
  · show World.ownsRow _ _ _ _ _ (J.stream ++ x).length _
    rw [List.length_append]
    refine World.ownsRow.kept (row := some pj) ho (grown_setCell (grown_refl _ (some pj)) (p := ⟨pj, 5, none⟩) (.inl rfl) _) ?_
    cases hq : v'.ownBlock with
    | none => exact .inl rfl
    | some g9 => exact .inr (fun e9 => by
        injection e9 with e9
        rcases hv g9 hq with h9 | h9
        · exact (h.sepV g9 h9).2 e9
        · omega)
  · rcases hv k hk with h9 | h9
    · exact h.loV k h9
    · exact .inl (by omega)
  · rcases hv k hk with h9 | h9
    · exact h.sepV k h9
    · exact ⟨fun e => by have := hpdl k e; omega, by omega⟩
  · show J.safe ≤ (J.stream ++ x).length
    have := hj.safe
    rw [List.length_append]; omega
  · show J.records ≤ (J.stream ++ x).length
    have := hj.recs
    rw [List.length_append]; omega

/-- What Append does behind the bytes: blocks that are full are written. -/
def JV.flushes : Nat → JV → DS → Nat × JV × DS
  | 0, J, D => (0, J, D)
  | k + 1, J, D => if J.safe / (D.size - 15) < J.stream.length / (D.size - 15) then (if (J.wr D).1 = 0 then JV.flushes k (J.wr D).2.1 (J.wr D).2.2 else J.wr D) else (0, J, D)
def JV.app (J : JV) (D : DS) (l : List UInt8) : Nat × JV × DS :=
  if J.broken = true then (61, J, D) else if J.left D < (laidS l).length then (60, J, D)
  else JV.flushes (J.stream.length + (laidS l).length + 1) { J with stream := J.stream ++ laidS l, records := J.records + 1 } D
def JV.flush (J : JV) (D : DS) : Nat × JV × DS :=
  if J.broken = true then (61, J, D) else if J.safe = J.stream.length then (0, J, D) else J.wr D
def JAct (w0 : Bas) (pj pd : Nat) (x : Nat × JV × DS) (r : Ending) (w' : World) : Prop := r = .returned (.int .i64 (x.1 : Int)) ∧ ∃ v' p', JD w0 pj v' x.2.1 pd p' x.2.2 w'

set_option maxRecDepth 100000 in
set_option maxHeartbeats 1000000 in
theorem jflush_any (h : JD w0 pj v J pd p D w) (hlg : D.log.length + 1 ≤ 1000000) :
    Calls Try.prog 19 #[.pointer (some ⟨pj, 0, none⟩)] w (JAct w0 pj pd (J.flush D)) := by
  have hl := h.jok.len h.ok
  have hsf := h.jok.safe
  obtain ⟨A, c, rfl, _⟩ := h.str.form (by omega)
  by_cases hb : J.broken = true
  · have HRD := Lib.hid (jready_any h 61 (by rw [hb]; rfl))
    have HF := Lib.hid (show J.flush D = (61, J, D) by unfold JV.flush; rw [if_pos hb])
    go_enter Try.func19, Try.ntmps19
    go_wp2_with (go_at_call 48; refine HRD.out.mono ?_; rintro r w1 ⟨rfl, rfl⟩)
    go_ret
    unfold JAct
    rw [HF.out]
    exact ⟨rfl, _, _, h⟩
  have HRD := Lib.hid (jready_any h 0 (by simp [hb]))
  obtain ⟨c0, c1, c2, c3, c4, c5, c6, c7, c8⟩ := h.cells
  by_cases he : J.safe = J.stream.length
  · have HF := Lib.hid (show J.flush D = (0, J, D) by unfold JV.flush; rw [if_neg hb, if_pos he])
    have HJ := Lib.hid (fun q => h.drewN q)
    rw [he] at c6
    clear hb he
    go_enter Try.func19, Try.ntmps19
    go_upto_region 4 with (go_at_call 48; refine HRD.out.mono ?_; rintro r w1 ⟨rfl, rfl⟩)
    go_quiet (fail)
    go_wp2
    go_ret
    unfold JAct
    rw [HF.out]
    exact ⟨rfl, _, _, HJ.out _⟩
  · have HF := Lib.hid (show J.flush D = J.wr D by unfold JV.flush; rw [if_neg hb, if_neg he])
    have hd : ((J.safe : Int) == (J.stream.length : Int)) = false := by simp; omega
    have HW := Lib.hid (fun q => jwrite_any (h.drewN q) (by omega) hlg)
    obtain ⟨R, hR⟩ : ∃ R, J.wr D = R := ⟨_, rfl⟩
    rw [hR] at HW HF
    clear hb he hR
    go_enter Try.func19, Try.ntmps19
    go_upto_region 4 with (go_at_call 48; refine HRD.out.mono ?_; rintro r w1 ⟨rfl, rfl⟩)
    go_quiet (fail)
    go_wp2_with (go_at_call 50; refine (HW.out _).mono ?_; rintro r w2 ⟨rfl, p2, hJ2⟩)
    go_ret
    unfold JAct
    rw [HF.out]
    exact ⟨rfl, _, p2, hJ2⟩
end
end
section
open Go.RowKit
set_option linter.unusedVariables false
section
variable {w0 : Bas} {w w' : World} {pj pd : Nat} {v v' : Value} {J J' : JV} {p p' : Pl} {D D' : DS}
theorem wr_keeps (J : JV) (D : DS) : (J.wr D).2.1.stream = J.stream ∧ (J.wr D).2.1.len = J.len ∧ (J.wr D).2.2.size = D.size ∧ (J.wr D).2.2.nb = D.nb ∧ (J.wr D).2.2.log.length ≤ D.log.length + 1 ∧ ((J.wr D).1 = 0 → (J.wr D).2.1.safe = J.to_ D) := by
  have h := wr_size D ((J.from_ + J.blk D : Nat) : Int) (J.image D)
  have hlog : (D.write ((J.from_ + J.blk D : Nat) : Int) (J.image D)).2.log.length ≤ D.log.length + 1 := by
    unfold DS.write
    split
    · exact Nat.le_succ _
    · split
      · exact Nat.le_succ _
      · split
        · exact Nat.le_succ _
        · split
          · exact Nat.le_succ _
          · simp
  have hwr : J.wr D = if (D.write ((J.from_ + J.blk D : Nat) : Int) (J.image D)).1 = 0 then (0, { J with safe := J.to_ D }, (D.write ((J.from_ + J.blk D : Nat) : Int) (J.image D)).2) else ((D.write ((J.from_ + J.blk D : Nat) : Int) (J.image D)).1, { J with broken := true }, (D.write ((J.from_ + J.blk D : Nat) : Int) (J.image D)).2) := rfl
  by_cases he : (D.write ((J.from_ + J.blk D : Nat) : Int) (J.image D)).1 = 0
  · rw [if_pos he] at hwr
    rw [hwr]
    exact ⟨rfl, rfl, h.1, h.2, hlog, fun _ => rfl⟩
  · rw [if_neg he] at hwr
    rw [hwr]
    exact ⟨rfl, rfl, h.1, h.2, hlog, fun h9 => absurd h9 he⟩
/-- A block is full: behind its write the next one's turn has come. -/
theorem to_full {J : JV} {D : DS} (hs : 64 ≤ D.size) (h : J.safe / (D.size - 15) < J.stream.length / (D.size - 15)) : J.to_ D / (D.size - 15) = J.safe / (D.size - 15) + 1 := by
  have hrm : 0 < D.size - 15 := by omega
  unfold JV.to_ JV.blk
  generalize D.size - 15 = rm at *
  have h1 : (J.safe / rm + 1) * rm ≤ J.stream.length := Nat.le_trans (Nat.mul_le_mul_right rm h) (Nat.div_mul_le_self _ _)
  rw [Nat.min_eq_right h1, Nat.mul_div_cancel _ hrm]
def jgap (pj rm N : Nat) (w : World) : Nat := match w.cell? ⟨pj, 6, none⟩ with
  | .some (.int _ z) => N / rm - z.toNat / rm
  | _ => 0
theorem jgap_eq (h : JD w0 pj v J pd p D w) (rm N : Nat) : jgap pj rm N w = N / rm - J.safe / rm := by
  have h1 := h.cells.2.2.2.2.2.2.1
  unfold jgap
  rw [h1]
  simp

set_option maxRecDepth 100000 in
set_option maxHeartbeats 4000000 in
theorem jappend_any (h : JD w0 pj v J pd p D w) (l : List UInt8) (A : Option Addr) (n c : Nat) (hl : l.length = n) (hn : n ≤ 1000000) (hr : Rd w A l) (hlg : D.log.length + J.len + 1 ≤ 1000000) :
    Calls Try.prog 17 #[.pointer (some ⟨pj, 0, none⟩), .slice A n c] w (JAct w0 pj pd (J.app D l)) := by
  by_cases hb : J.broken = true
  · have HRD := Lib.hid (jready_any h 61 (by rw [hb]; rfl))
    have HF := Lib.hid (show J.app D l = (61, J, D) by unfold JV.app; rw [if_pos hb])
    clear hl
    go_enter Try.func17, Try.ntmps17
    go_wp2_with (go_at_call 48; refine HRD.out.mono ?_; rintro r w1 ⟨rfl, rfl⟩)
    go_ret
    unfold JAct
    rw [HF.out]
    exact ⟨rfl, _, _, h⟩
  have HRD := Lib.hid (jready_any h 0 (by simp [hb]))
  have hst := run_str (P := Try.prog) Try.underlying23 Try.underlying5 Try.underlying9 w A n c l hl hr
  have HSTR := Lib.hid (str_own none (some ⟨w.heap.size, 0, none⟩) [] [l] 0 0 1 1 (w.alloc (.cells #[.string ⟨l.toArray⟩] 9)) rfl rfl (Nat.le_refl _) (by omega) (.inl rfl) (.inr ⟨_, _, rfl, fun j hj => by
    rw [Nat.zero_add, (Blk.new w 9 #[.string ⟨l.toArray⟩]).cell]
    simp only [List.length_cons, List.length_nil] at hj
    obtain rfl : j = 0 := by omega
    rfl⟩) (by omega) (by simp [textSum]; omega))
  obtain ⟨x, hx⟩ : ∃ x, laidS l = x := ⟨_, rfl⟩
  rw [show ([] : List UInt8) ++ laidSs [l] = x by rw [← hx]; simp [laidSs]] at HSTR
  obtain ⟨xn, hxn⟩ : ∃ xn, x.length = xn := ⟨_, rfl⟩
  rw [hxn] at HSTR
  have hxb : 0 < xn ∧ xn ≤ n + 9 := by rw [← hxn, ← hx]; have := wid_le l.length; simp [laidS, laidB_len]; omega
  have HXN := Lib.hid hxn
  have hlf := Lib.hid (jleft_any (h.keep (below_alloc w (.cells #[.string ⟨l.toArray⟩] 9))))
  have HLF : Hid (∀ V, JD w0 pj v J pd p D V → Calls Try.prog 13 #[.pointer (some ⟨pj, 0, none⟩)] V fun e w' => e = .returned (.int .i64 (J.left D : Int)) ∧ ∃ q, w' = V.drewN q) := fun V hV => jleft_any hV
  have HJ := Lib.hid h
  have hsl := h.jok.len h.ok
  obtain ⟨Av, cv, hv, _⟩ := h.str.form (by omega)
  by_cases hroom : J.left D < xn
  · have HF := Lib.hid (show J.app D l = (60, J, D) by unfold JV.app; rw [if_neg hb, hx, hxn, if_pos hroom])
    have hd : decide (J.left D < xn) = true := by simpa using hroom
    clear hb hl hx hxn hlf hroom
    generalize J.left D = lf at *
    go_enter Try.func17, Try.ntmps17
    go_upto_region 5 with (first
      | (go_at_call 48; refine HRD.out.mono ?_; rintro r w1 ⟨rfl, rfl⟩)
      | (go_at_call 49; refine HSTR.out.mono ?_; rintro r w2 ⟨v2, rfl, ho2, hb2⟩))
    have hJ2 := HJ.out.keep (below_step (below_alloc w (.cells #[.string ⟨l.toArray⟩] 9)) hb2)
    obtain ⟨A2, c2, rfl, -⟩ : ∃ A2 c2, v2 = .slice A2 xn c2 ∧ True := by
      obtain ⟨A2, c2, h9, _⟩ := own_rd ho2
      exact ⟨A2, c2, h9, trivial⟩
    have HL2 := Lib.hid (HLF.out _ hJ2)
    clear hJ2 ho2
    have HJ2 : Hid (∀ q, JD w0 pj v J pd p D (w2.drewN q)) := fun q => (HJ.out.keep (below_step (below_alloc w (.cells #[.string ⟨l.toArray⟩] 9)) hb2)).drewN q
    clear hb2
    go_wp2_with (go_at_call 13; refine HL2.out.mono ?_; rintro r w3 ⟨rfl, q, rfl⟩)
    go_ret
    unfold JAct
    rw [HF.out]
    exact ⟨rfl, _, _, HJ2.out _⟩
  have hd : decide (J.left D < xn) = false := by simpa using hroom
  have hro := h.jok.room
  have hfit : J.stream.length + xn ≤ J.len * (D.size - 15) := by unfold JV.left at hroom; omega
  have hl2 := h.jok.l2
  have hs1 := h.ok.s1
  have hs2 := h.ok.s2
  have hml : J.len * (D.size - 15) ≤ 16384 * 4096 := Nat.mul_le_mul hl2 (by omega)
  obtain ⟨R, hR⟩ : ∃ R, J.app D l = R := ⟨_, rfl⟩
  have HFL : Hid (JV.flushes (J.stream.length + xn + 1) { J with stream := J.stream ++ x, records := J.records + 1 } D = R) := by
    have h9 := hR
    unfold JV.app at h9
    rw [if_neg hb, hx, hxn, if_neg hroom] at h9
    exact h9
  rw [hR]
  have hrec := h.jok.recs
  obtain ⟨N0, hN0⟩ : ∃ N0, J.stream.length = N0 := ⟨_, rfl⟩
  rw [hN0] at HFL hfit hsl hrec
  have HN0 := Lib.hid hN0
  subst hv
  rw [hN0] at HJ HLF h
  have hrecs : { J with stream := J.stream ++ x, records := J.records + 1 } = { ({ J with stream := J.stream ++ x } : JV) with records := J.records + 1 } := rfl
  clear hb hl hx hxn hlf hroom hR hN0 hro
  generalize hlfe : J.left D = lf at *
  clear hlfe h
  go_enter Try.func17, Try.ntmps17
  go_upto_region 5 with (first
    | (go_at_call 48; refine HRD.out.mono ?_; rintro r w1 ⟨rfl, rfl⟩)
    | (go_at_call 49; refine HSTR.out.mono ?_; rintro r w2 ⟨v2, rfl, ho2, hb2⟩))
  obtain ⟨A2, c2, rfl, hr2, -⟩ := own_rd ho2
  refine wp_world (fun V => JD w0 pj (.slice Av N0 cv) J pd p D V ∧ Rd V A2 x) ⟨HJ.out.keep (below_step (below_alloc w (.cells #[.string ⟨l.toArray⟩] 9)) hb2), hr2⟩ ?_
  clear ho2 hb2 hr2 HSTR HRD hst
  rintro V2 ⟨hJ2, hr2⟩
  have HL2 := Lib.hid (HLF.out _ hJ2)
  have HJ2 := Lib.hid (And.intro hJ2 hr2)
  clear hJ2 hr2 HLF HJ
  go_upto_region 7 with (go_at_call 13; refine HL2.out.mono ?_; rintro r w3 ⟨rfl, q, rfl⟩)
  refine wp_world (fun V => JD w0 pj (.slice Av N0 cv) J pd p D V ∧ Rd V A2 x) ⟨HJ2.out.1.drewN q, HJ2.out.2.below (below_drewN (Below.refl _ _) q)⟩ ?_
  clear HL2 HJ2 hd
  rintro V3 ⟨hJ3, hr3⟩
  have c5 := hJ3.cells.2.2.2.2.2.1
  have HJ3 := Lib.hid (And.intro hJ3 hr3)
  have hsz3 : N0 + xn ≤ 1000000000 := by omega
  have HAPP : Hid (∀ V v9, V.ownsRow 0 5 1 v9 (N0 + xn) ((J.stream ++ x).map bv) → V3.grownBy V (Value.slice Av N0 cv).ownBlock → (∀ k, v9.ownBlock = some k → (Value.slice Av N0 cv).ownBlock = some k ∨ V3.heap.size ≤ k) → JD w0 pj v9 { J with stream := J.stream ++ x } pd p D (V.setCell ⟨pj, 5, none⟩ v9) ∧ V.frozen? ⟨pj, 5, none⟩ = false ∧ V.cell? ⟨pj, 5, none⟩ = some (.slice Av N0 cv)) := fun V v9 h1 h2 h3 => by
    have hB := (Fr.of_grown (F := fun k => (Value.slice Av N0 cv).ownBlock = some k) h2 (fun k e _ => e)).blk hJ3.obj (fun e => (hJ3.sepV pj e).2 rfl)
    exact ⟨hJ3.app HN0.out HXN.out h1 h2 h3 hfit, hB.frozen 5, hB.cell 5⟩
  clear hJ3 hr3
  go_upto_region 8 with (at_builtin; refine wpList_appS bytesT rfl (.tmp 26) (.tmp 27) rfl (.slice Av N0 cv) N0 J.stream rfl HJ3.out.1.str HN0.out A2 xn c2 x rfl HXN.out hxb.1 HJ3.out.2 hsz3 ?_; intro v4 V4 ho4 hg4 hw4; obtain ⟨hJ5, hf5, hc5⟩ := HAPP.out V4 v4 ho4 hg4 hw4; obtain ⟨A5, c5', rfl, -⟩ := own_rd ho4)
  refine wp_world (JD w0 pj (.slice A5 (N0 + xn) c5') { J with stream := J.stream ++ x } pd p D) hJ5 ?_
  clear hJ5 hf5 hc5 ho4 hg4 hw4 HAPP HJ3 c5
  intro V5 hJ5
  have c7 := hJ5.cells.2.2.2.2.2.2.2.1
  have cf7 := hJ5.obj.frozen 7
  have hj5 := hJ5.jok
  have hwrap : IntKind.i64.wrap ((J.records : Int) + 1) = (J.records : Int) + 1 := IntWalk.i64_in _ (by omega)
  have hJ6 := hJ5.set_ (J' := { J with stream := J.stream ++ x, records := J.records + 1 }) 7 (.int .i64 ((J.records + 1 : Nat) : Int)) rfl rfl ⟨hj5.area, hj5.l1, hj5.l2, hj5.ep, hj5.lf1, hj5.lf2, hj5.safe, hj5.room, by show J.records + 1 ≤ (J.stream ++ x).length; rw [List.length_append, HN0.out, HXN.out]; omega⟩
  rw [show ((J.records + 1 : Nat) : Int) = (J.records : Int) + 1 by push_cast; rfl] at hJ6
  obtain ⟨J1, hJ1⟩ : ∃ J1 : JV, { J with stream := J.stream ++ x, records := J.records + 1 } = J1 := ⟨_, rfl⟩
  have HJN := Lib.hid (show J1.stream.length = N0 + xn by rw [← hJ1]; show (J.stream ++ x).length = _; rw [List.length_append, HN0.out, HXN.out])
  have HJL := Lib.hid (show J1.len = J.len by rw [← hJ1])
  rw [hJ1] at hJ6 HFL
  have HJ6 := Lib.hid hJ6
  clear hJ6 hj5 hJ5 hrecs hJ1
  obtain ⟨rm, hrm⟩ : ∃ rm, D.size - 15 = rm := ⟨_, rfl⟩
  rw [hrm] at hml hfit
  have hrm1 : 49 ≤ rm := by omega
  have hrm2 : rm ≤ 4081 := by omega
  have HRM := Lib.hid hrm
  obtain ⟨N, hN⟩ : ∃ N, N0 + xn = N := ⟨_, rfl⟩
  rw [hN] at HJN HFL hfit hsz3
  have hdl : N / rm ≤ J.len := Nat.div_le_of_le_mul (by rw [Nat.mul_comm]; exact hfit)
  have hdn : N / rm ≤ N := Nat.div_le_self _ _
  clear hrm hN
  go_wp2
  go_loopw [7] (fun e wr => ∃ (Jk : JV) (Dk : DS) (vk : Value) (pk : Pl) (k : Nat), JD w0 pj vk Jk pd pk Dk wr ∧ Jk.stream.length = N ∧ Jk.len = J.len ∧ Dk.size = D.size ∧ JV.flushes k Jk Dk = R ∧ N / rm - Jk.safe / rm < k ∧ Dk.log.length + (N / rm - Jk.safe / rm) + 1 ≤ 1000000) (fun _ wr => jgap pj rm N wr)
  case atStart => exact ⟨J1, D, _, p, N + 1, HJ6.out, HJN.out, HJL.out, rfl, HFL.out, Nat.lt_of_le_of_lt (Nat.le_trans (Nat.sub_le _ _) hdn) (Nat.lt_succ_self _), Nat.le_trans (Nat.add_le_add_right (Nat.add_le_add_left (Nat.le_trans (Nat.sub_le _ _) hdl) _) 1) hlg⟩
  case round =>
    obtain ⟨Jk, Dk, vk, pk, k, hJ, hJn, hL, hS, hfl, hk, hlog⟩ := hrel
    clear HJ6 HFL HJN HJL c7 cf7 hwrap
    have HGP := Lib.hid (jgap_eq hJ rm N)
    have hsafe := hJ.jok.safe
    have HS := Lib.hid hS
    have HRK : Hid (Dk.size - 15 = rm) := by show Dk.size - 15 = rm; rw [hS]; exact HRM.out
    have HFK := Lib.hid hfl
    have HLK := Lib.hid hL
    obtain ⟨Ak, ck, hvk, _⟩ := hJ.str.form (by omega)
    subst hvk
    have HJn := Lib.hid hJn
    rw [hJn] at hJ hsafe
    have c5 := hJ.cells.2.2.2.2.2.1
    have c6 := hJ.cells.2.2.2.2.2.2.1
    have HJK := Lib.hid hJ
    have HR : Hid (∀ q, Calls Try.prog 46 #[.pointer (some ⟨pj, 0, none⟩)] (wr.drewN q) fun e w' => e = .returned (.int .i64 (rm : Int)) ∧ (wr.drewN q) = w') := fun q => by
      have h9 := jroom_any (hJ.drewN q)
      rw [HRK.out] at h9
      exact h9
    obtain ⟨sf, hsf⟩ : ∃ sf, Jk.safe = sf := ⟨_, rfl⟩
    have HSF := Lib.hid hsf
    rw [hsf] at c6 hsafe hk hlog HGP
    obtain ⟨si, hsi⟩ : ∃ si, sf / rm = si := ⟨_, rfl⟩
    obtain ⟨mi, hmi⟩ : ∃ mi, N / rm = mi := ⟨_, rfl⟩
    have q1 : (sf : Int) / (rm : Int) = (si : Int) := by rw [← hsi]; rfl
    have q2 : (N : Int) / (rm : Int) = (mi : Int) := by rw [← hmi]; rfl
    have q3 : ((rm : Int) == 0) = false := by simp; omega
    rw [hsi, hmi] at hk hlog HGP
    rw [hmi] at hdl hdn
    have hsN : si ≤ sf := by rw [← hsi]; exact Nat.div_le_self _ _
    have q4 : IntKind.i64.wrap (si : Int) = (si : Int) := IntWalk.i64_in _ (by omega)
    have q5 : IntKind.i64.wrap (mi : Int) = (mi : Int) := IntWalk.i64_in _ (by omega)
    have HSI := Lib.hid (And.intro hsi hmi)
    obtain ⟨k', hk'⟩ : ∃ k', k = k' + 1 := ⟨k - 1, by omega⟩
    have HK' := Lib.hid hk'
    by_cases hlt : si < mi
    · have hd : decide (si < mi) = true := by simpa using hlt
      have hlts : sf < N := by
        apply Nat.lt_of_not_le
        intro h9
        have := Nat.div_le_div_right (c := rm) h9
        omega
      have HW := Lib.hid (fun q => jwrite_any (hJ.drewN q) (by rw [HJn.out, HSF.out]; exact hlts) (by omega))
      have hkeep := wr_keeps Jk Dk
      have HKP := Lib.hid hkeep
      have hif : Jk.safe / (Dk.size - 15) < Jk.stream.length / (Dk.size - 15) := by rw [HRK.out, HJn.out, HSF.out, hsi, hmi]; exact hlt
      have HTO := Lib.hid (to_full (J := Jk) (D := Dk) (by rw [hS]; exact hs1) hif)
      have HFS : Hid ((if (Jk.wr Dk).1 = 0 then JV.flushes k' (Jk.wr Dk).2.1 (Jk.wr Dk).2.2 else Jk.wr Dk) = R) := by
        have h9 := hfl
        rw [hk'] at h9
        unfold JV.flushes at h9
        rw [if_pos hif] at h9
        exact h9
      obtain ⟨e9, he9⟩ : ∃ e9, (Jk.wr Dk).1 = e9 := ⟨_, rfl⟩
      rw [he9] at HW HFS
      have HE9 := Lib.hid he9
      by_cases hz : e9 = 0
      · rw [if_pos hz] at HFS
        rw [hz] at HW HE9
        clear hkeep hif hsi hmi hfl hJ hS hL hJn hsf hk' he9 hz hlts
        go_upto_region 9 with (fail)
        go_quiet ((go_at_call 46; exact Calls.quiet_of_same ((HR.out _).mono fun e w' ⟨he, hw⟩ => ⟨he, hw.symm⟩)))
        go_wp2_with (go_at_call 50; refine (HW.out _).mono ?_; rintro r w9 ⟨rfl, p9, hJ9⟩)
        have HJ9 := Lib.hid hJ9
        have HSN : Hid ((Jk.wr Dk).2.1.safe / rm = si + 1) := by
          show (Jk.wr Dk).2.1.safe / rm = si + 1
          rw [HKP.out.2.2.2.2.2 HE9.out]
          have h9 := HTO.out
          rw [HRK.out, HSF.out, HSI.out.1] at h9
          exact h9
        clear hJ9
        go_roundw
        case rel =>
          refine ⟨(Jk.wr Dk).2.1, (Jk.wr Dk).2.2, _, p9, k', HJ9.out, by rw [HKP.out.1, HJn.out], by rw [HKP.out.2.1, HLK.out], by rw [HKP.out.2.2.1, HS.out], HFS.out, ?_, ?_⟩
          · rw [HSN.out, HSI.out.2]; have := HK'.out; omega
          · rw [HSN.out, HSI.out.2]; have := HKP.out.2.2.2.2.1; omega
        case measure =>
          rw [HGP.out, jgap_eq HJ9.out, HSN.out, HSI.out.2]
          omega
      · rw [if_neg hz] at HFS
        have hdz : ((e9 : Int) != 0) = true := by rw [bne_iff_ne]; omega
        clear hkeep hif hsi hmi hfl hJ hS hL hJn hsf hk' he9 hz hlts
        go_upto_region 9 with (fail)
        go_quiet ((go_at_call 46; exact Calls.quiet_of_same ((HR.out _).mono fun e w' ⟨he, hw⟩ => ⟨he, hw.symm⟩)))
        go_wp2_with (go_at_call 50; refine (HW.out _).mono ?_; rintro r w9 ⟨rfl, p9, hJ9⟩)
        go_ret
        unfold JAct
        rw [← HFS.out]
        exact ⟨by rw [HE9.out]; rfl, _, p9, hJ9⟩
    · have hd : decide (si < mi) = false := by simpa using hlt
      have HFS : Hid ((0, Jk, Dk) = R) := by
        have h9 := hfl
        rw [hk'] at h9
        unfold JV.flushes at h9
        rw [if_neg (by rw [HRK.out, HJn.out, HSF.out, hsi, hmi]; exact hlt)] at h9
        exact h9
      clear hsi hmi hfl hJ hS hL hJn hsf hk'
      go_upto_region 9 with (fail)
      go_quiet ((go_at_call 46; exact Calls.quiet_of_same ((HR.out _).mono fun e w' ⟨he, hw⟩ => ⟨he, hw.symm⟩)))
      go_wp2
      go_ret
      unfold JAct
      rw [← HFS.out]
      exact ⟨rfl, _, _, HJK.out.drewN _⟩
end
end
end Go.Proofs.Ytcnhfbckaacalaa
