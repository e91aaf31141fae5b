/- A region that draws its order: a held condition may be made stronger on the way. No program is named here. Heap (layer 9): HeapCollects, the walk. Written by hcoll.py. -/
import Derived.Test.YtefnjplfemgibaaOrd
import Derived.Test.YtefnjplfemgibaaHqO
import Derived.Test.YtefnjplfemgibaaHqN
import Derived.Test.YtefnjplfemgibaaHqL
import Derived.Test.YtefnjplfemgibaaHLaysW
namespace Go.Proofs.Ytefnjplfemgibaa
section
open Go.RowKit
set_option linter.unusedVariables false

theorem wpAnyW_more {P : Program} {ops : Array Oper} {Q : Exit → Act → World → Prop} {md : Region.Mode} {S S' : World → Prop} {s : Nat} (h : ∀ V, S' V → S V) :
    ∀ (fuel : Nat) (l : Array Bool) (a : Act) (w : World), wpAnyW P md ops Q s S' fuel l a w → wpAnyW P md ops Q s S fuel l a w
  | 0, _, _, _, H => H
  | fuel + 1, _, _, _, H => ⟨H.1, fun i hi => wpOp_mono (fun a' w' h9 => ⟨fun e => h w' (h9.1 e), wpAnyW_more h fuel _ a' w' h9.2⟩) (H.2 i hi)⟩
end
section
open Go.RowKit
set_option linter.unusedVariables false

def iiv9 (z : Int) : Value := .int .i64 z
section
variable {w W V V' : World} {Aw Aa Ar Ab A2 : Option Addr} {lw cw la ca lr cr nb cb n2 c2 : Nat} {ws rs : List Nat} {nm : List (List UInt8)} {roots : List Int} {p : List UInt8}
theorem intsT9 : ElT Try.prog 55 3 (.int .i64 0) 1 8 := ⟨Try.underlying55, by kernel_rfl, rfl, by omega⟩
theorem own_rdki9 {W : World} {base e n : Nat} {A : Option Addr} {c : Nat} {z : List Int} (h : W.ownsRow base e 1 (.slice A n c) n (z.map iiv9)) : RdK .i64 W A z := by
  have hl : z.length = n := by have := h.1; simpa using this
  rcases h.2 with ⟨_, rfl⟩ | ⟨g, cap, cur, hv, _⟩
  · exact .inl (List.eq_nil_of_length_eq_zero hl)
  · obtain ⟨rfl, _, rfl⟩ := Value.slice.inj hv
    refine .inr ⟨g, 0, rfl, fun j hj => ?_⟩
    have hc := h.cells (g := g) rfl j (iiv9 (z[j]'hj)) (by simp [hj])
    rw [Addr.add_lit] at hc
    rw [hc]
    rfl
theorem bytesT9 : ElT Try.prog 51 5 (.int .u8 0) 1 1 := ⟨Try.underlying51, by kernel_rfl, rfl, by omega⟩
theorem bv_one9 (l : List UInt8) : ∀ u ∈ l.map bv, u.oneCell' = true := by
  intro u hu
  obtain ⟨x, _, rfl⟩ := List.mem_map.1 hu
  rfl
theorem ints_one9 (z : List Int) : ∀ u ∈ z.map iiv9, u.oneCell' = true := by
  intro u hu
  obtain ⟨x, _, rfl⟩ := List.mem_map.1 hu
  rfl
theorem rdki_cs9 {W : World} {A : Option Addr} {z : List Int} (h : RdK .i64 W A z) : Cs W A (z.map iiv9) := by
  rcases h with rfl | ⟨b, off, rfl, hc⟩
  · exact .inl rfl
  · refine .inr ⟨_, rfl, fun j u hu => ?_⟩
    rw [List.getElem?_map] at hu
    cases hx : z[j]? with
    | none => rw [hx] at hu; cases hu
    | some x =>
      rw [hx] at hu
      simp only [Option.map_some, Option.some.injEq] at hu
      subst hu
      obtain ⟨hj, rfl⟩ := List.getElem?_eq_some_iff.1 hx
      rw [Addr.add_lit]
      exact hc j hj
/-! ### what Collect and Get hand back, as one heap and its error -/
def colC (r : Except Nat (HSt × List Nat)) : Nat := match r with
  | .error er => er
  | .ok _ => 0
def colW (r : Except Nat (HSt × List Nat)) : List Nat := match r with
  | .error _ => []
  | .ok st => st.1.ws
def colN (r : Except Nat (HSt × List Nat)) : List (List UInt8) := match r with
  | .error _ => []
  | .ok st => st.1.nm
def colR (r : Except Nat (HSt × List Nat)) : List Nat := match r with
  | .error _ => []
  | .ok st => st.2
theorem col_lay {st : HSt × List Nat} (h : collectP ws nm rs roots = .ok st) : ∃ ts, checkP ts = 0 ∧ st = layS ts := by
  unfold collectP at h
  split at h
  · cases h
  · split at h
    · split at h
      · rename_i hck
        simp only [Except.ok.injEq] at h
        exact ⟨_, hck, h.symm⟩
      · cases h
    · cases h
theorem col_new {W : World} {e : Ending} {w' : World} (h : ColEnds W (collectP ws nm rs roots) e w') {k1 k2 k3 : Nat} (h1 : (colW (collectP ws nm rs roots)).length = k1) (h2 : (colN (collectP ws nm rs roots)).length = k2) (h3 : (colR (collectP ws nm rs roots)).length = k3) :
    HeapNewE W (colC (collectP ws nm rs roots)) k1 k2 k3 (colW (collectP ws nm rs roots)) (colN (collectP ws nm rs roots)) (colR (collectP ws nm rs roots)) e w' := by
  obtain ⟨hb, he, ho⟩ := h
  cases hr : collectP ws nm rs roots with
  | error er =>
    obtain ⟨_, rfl⟩ := he er hr
    rw [hr] at h1 h2 h3
    have e1 : 0 = k1 := h1
    have e2 : 0 = k2 := h2
    have e3 : 0 = k3 := h3
    subst e1 e2 e3
    exact ⟨hb, none, 0, none, 0, none, 0, rfl, hrd_nil _⟩
  | ok st =>
    obtain ⟨vw, va, vr, rfl, hq⟩ := ho st hr
    obtain ⟨ts, hck, rfl⟩ := col_lay hr
    have hf := lay_facts hck
    rw [hr] at h1 h2 h3
    have e1 : (layS ts).1.ws.length = k1 := h1
    have e2 : (layS ts).1.nm.length = k2 := h2
    have e3 : (layS ts).2.length = k3 := h3
    have ow := hq.w
    have oa := hq.a
    have orr := hq.r
    rw [e1] at ow
    rw [e2] at oa
    rw [e3] at orr
    obtain ⟨Bw, dw, rfl⟩ := own_sl ow
    obtain ⟨Ba, da, rfl⟩ := own_sl oa
    obtain ⟨Br, dr, rfl⟩ := own_sl orr
    exact ⟨hb, Bw, dw, Ba, da, Br, dr, rfl, hq.hrd hf.w64 hf.r64 e1 e2 e3⟩
theorem col_le : (colW (collectP ws nm rs roots)).length ≤ 1000000 ∧ (colN (collectP ws nm rs roots)).length ≤ 1000000 ∧ (colR (collectP ws nm rs roots)).length ≤ 1000000 := by
  cases hr : collectP ws nm rs roots with
  | error er => exact ⟨by simp [colW], by simp [colN], by simp [colR]⟩
  | ok st =>
    obtain ⟨ts, hck, rfl⟩ := col_lay hr
    have hf := lay_facts hck
    have hp := (hcheck_le hck).1
    have hl := len_parts ts
    exact ⟨by have := hf.lw; show (layS ts).1.ws.length ≤ _; omega, by have := hf.la; show (layS ts).1.nm.length ≤ _; omega, by have := hf.lr; show (layS ts).2.length ≤ _; omega⟩
def getC (r : Option (List Nat × List (List UInt8) × List Nat)) : Nat := match r with
  | none => 90
  | some _ => 0
def getW (r : Option (List Nat × List (List UInt8) × List Nat)) : List Nat := match r with
  | none => []
  | some q => q.1
def getN (r : Option (List Nat × List (List UInt8) × List Nat)) : List (List UInt8) := match r with
  | none => []
  | some q => q.2.1
def getR (r : Option (List Nat × List (List UInt8) × List Nat)) : List Nat := match r with
  | none => []
  | some q => q.2.2
theorem get_new {W : World} {r : Option (List Nat × List (List UInt8) × List Nat)} {e : Ending} {w' : World} (h : GetEnds W r e w') {k1 k2 k3 : Nat} (h1 : (getW r).length = k1) (h2 : (getN r).length = k2) (h3 : (getR r).length = k3) : HeapNewE W (getC r) k1 k2 k3 (getW r) (getN r) (getR r) e w' := by
  obtain ⟨hb, hn, hs⟩ := h
  cases r with
  | none =>
    have e9 := hn rfl
    subst e9
    have e1 : 0 = k1 := h1
    have e2 : 0 = k2 := h2
    have e3 : 0 = k3 := h3
    subst e1 e2 e3
    exact ⟨hb, none, 0, none, 0, none, 0, rfl, hrd_nil _⟩
  | some q =>
    obtain ⟨a, b, c⟩ := q
    obtain ⟨Aw, cw, Aa, ca, Ar, cr, rfl, hh⟩ := hs a b c rfl
    have e1 : a.length = k1 := h1
    have e2 : b.length = k2 := h2
    have e3 : c.length = k3 := h3
    subst e1 e2 e3
    exact ⟨hb, Aw, cw, Aa, ca, Ar, cr, rfl, hh⟩
theorem numsP_len : ∀ (n : Nat) (t : TS) (e : Nat), (numsP n t e).1.length ≤ n
  | 0, _, _ => by simp [numsP]
  | n + 1, t, e => by
    rw [numsP]
    split
    · simp only [List.length_cons]; have := numsP_len n (t.number false).2 e; omega
    · simp
theorem strsP_len (m : Int) : ∀ (n : Nat) (t : TS) (e : Nat), (strsP m n t e).1.length ≤ n
  | 0, _, _ => by simp [strsP]
  | n + 1, t, e => by
    rw [strsP]
    split
    · simp only [List.length_cons]; have := strsP_len m n (t.str m).2 e; omega
    · simp
def GLe (r : Option (List Nat × List (List UInt8) × List Nat)) : Prop := (getW r).length ≤ 65536 ∧ (getN r).length ≤ 65536 ∧ (getR r).length ≤ 65536
theorem g6_le {w : List Nat} {a : List (List UInt8)} {c : Nat × TS × Nat} (hw : w.length ≤ 65536) (ha : a.length ≤ 65536) (hc : c.1 ≤ 65536) : GLe (g6 w a c) := by
  unfold g6
  have h3 := Nat.le_trans (numsP_len c.1 c.2.1 c.2.2) hc
  generalize numsP c.1 c.2.1 c.2.2 = r at *
  split
  · exact ⟨hw, ha, h3⟩
  · exact ⟨by simp [getW], by simp [getN], by simp [getR]⟩
theorem g5_le {w : List Nat} {a : List (List UInt8) × TS} (e : Nat) (hw : w.length ≤ 65536) (ha : a.1.length ≤ 65536) : GLe (g5 w a e) := by
  unfold g5; exact g6_le hw ha (cntP_le _ _)
theorem g4_le {w : List Nat} (m : Int) {c : Nat × TS × Nat} (hw : w.length ≤ 65536) (hc : c.1 ≤ 65536) : GLe (g4 m w c) := by
  unfold g4; exact g5_le _ hw (Nat.le_trans (strsP_len _ _ _ _) hc)
theorem g3_le (m : Int) {w : List Nat × TS} (e : Nat) (hw : w.1.length ≤ 65536) : GLe (g3 m w e) := by
  unfold g3; exact g4_le m hw (cntP_le _ _)
theorem g2_le (m : Int) {c : Nat × TS × Nat} (hc : c.1 ≤ 65536) : GLe (g2 m c) := by
  unfold g2; exact g3_le m _ (Nat.le_trans (numsP_len _ _ _) hc)
theorem get_le (l : List UInt8) : (getW (getP l)).length ≤ 1000000 ∧ (getN (getP l)).length ≤ 1000000 ∧ (getR (getP l)).length ≤ 1000000 := by
  rw [getP_eq]
  obtain ⟨h1, h2, h3⟩ := g2_le (l.length : Int) (cntP_le ⟨l, 0, 0, 0⟩ 0)
  exact ⟨by omega, by omega, by omega⟩
set_option maxRecDepth 100000 in
set_option maxHeartbeats 16000000 in
theorem coll_in (w : World) (h : HRd w Aw lw cw Aa la ca Ar lr cr ws nm rs) (hs : ∀ s ∈ nm, s.length ≤ 140737488351232) (hlb : roots.length = nb) (hkb : RdK .i64 w Ab roots) (hl2 : p.length = n2) (hr2 : Rd w A2 p) :
    Calls Try.prog 6 #[.agg #[.slice Aw lw cw, .slice Aa la ca, .slice Ar lr cr], .slice Ab nb cb, .slice A2 n2 c2] w (Yes w) := by
  have HSM := Lib.hid (fun V (hV : Below w.heap.size w V) => small_v V (h.below hV) hs)
  have HH := Lib.hid h
  have HLB := Lib.hid hlb
  have HKB := Lib.hid hkb
  have HL2 := Lib.hid hl2
  have HR2 := Lib.hid hr2
  clear h hs hlb hkb hl2 hr2
  obtain ⟨g, hg⟩ : ∃ g, w.heap.size = g := ⟨_, rfl⟩
  have HG := Lib.hid hg
  by_cases q1 : smallH ws nm rs = true
  rotate_left
  · rw [eq_false_of_ne_true q1] at HSM
    clear q1
    go_enter Try.func6, Try.ntmps6
    go_upto_region 1 with (fail)
    refine wp_world (fun V => Below w.heap.size w V ∧ Blk V g 29 #[.slice Aw lw cw, .slice Aa la ca, .slice Ar lr cr]) ⟨below_alloc _ _, by rw [← HG.out]; exact Blk.new _ _ _⟩ ?_
    rintro V0 ⟨hb, hk⟩
    have HB := Lib.hid hb
    have HK := Lib.hid hk
    have x0 := hk.cell 0
    have x1 := hk.cell 1
    have x2 := hk.cell 2
    clear hb hk hg
    go_wp2_with (first
      | (go_at_call 14; refine (HSM.out _ HB.out).mono ?_; rintro e w1 ⟨rfl, hb⟩; have HB := Lib.hid (below_step HB.out hb); have hk := HK.out.keep hb; have HK := Lib.hid hk; have x0 := hk.cell 0; have x1 := hk.cell 1; have x2 := hk.cell 2; clear hb hk)
      | (go_at_call 10; refine (live_from HB.out).mono ?_; rintro e w9 ⟨rfl, hb9⟩))
    go_ret
    exact ⟨rfl, hb9⟩
  rw [q1] at HSM
  have hsm : lw ≤ 5000 ∧ la ≤ 5000 ∧ lr ≤ 5000 ∧ textSum nm ≤ 20000 := by
    unfold smallH at q1
    rw [decide_eq_true_eq] at q1
    have e1 := HH.out.hlw
    have e2 := HH.out.hla
    have e3 := HH.out.hlr
    omega
  clear q1
  by_cases q2 : 100 < nb
  · have d2 : decide ((100 : Int) < (nb : Int)) = true := by (simp <;> omega)
    go_enter Try.func6, Try.ntmps6
    go_upto_region 1 with (fail)
    refine wp_world (fun V => Below w.heap.size w V ∧ Blk V g 29 #[.slice Aw lw cw, .slice Aa la ca, .slice Ar lr cr]) ⟨below_alloc _ _, by rw [← HG.out]; exact Blk.new _ _ _⟩ ?_
    rintro V0 ⟨hb, hk⟩
    have HB := Lib.hid hb
    have HK := Lib.hid hk
    have x0 := hk.cell 0
    have x1 := hk.cell 1
    have x2 := hk.cell 2
    clear hb hk hg
    go_wp2_with (first
      | (go_at_call 14; refine (HSM.out _ HB.out).mono ?_; rintro e w1 ⟨rfl, hb⟩; have HB := Lib.hid (below_step HB.out hb); have hk := HK.out.keep hb; have HK := Lib.hid hk; have x0 := hk.cell 0; have x1 := hk.cell 1; have x2 := hk.cell 2; clear hb hk)
      | (go_at_call 10; refine (live_from HB.out).mono ?_; rintro e w9 ⟨rfl, hb9⟩))
    go_ret
    exact ⟨rfl, hb9⟩
  have d2 : decide ((100 : Int) < (nb : Int)) = false := by (simp <;> omega)
  by_cases q3 : 20000 < n2
  · have d3 : decide ((20000 : Int) < (n2 : Int)) = true := by (simp <;> omega)
    go_enter Try.func6, Try.ntmps6
    go_upto_region 1 with (fail)
    refine wp_world (fun V => Below w.heap.size w V ∧ Blk V g 29 #[.slice Aw lw cw, .slice Aa la ca, .slice Ar lr cr]) ⟨below_alloc _ _, by rw [← HG.out]; exact Blk.new _ _ _⟩ ?_
    rintro V0 ⟨hb, hk⟩
    have HB := Lib.hid hb
    have HK := Lib.hid hk
    have x0 := hk.cell 0
    have x1 := hk.cell 1
    have x2 := hk.cell 2
    clear hb hk hg
    go_wp2_with (first
      | (go_at_call 14; refine (HSM.out _ HB.out).mono ?_; rintro e w1 ⟨rfl, hb⟩; have HB := Lib.hid (below_step HB.out hb); have hk := HK.out.keep hb; have HK := Lib.hid hk; have x0 := hk.cell 0; have x1 := hk.cell 1; have x2 := hk.cell 2; clear hb hk)
      | (go_at_call 10; refine (live_from HB.out).mono ?_; rintro e w9 ⟨rfl, hb9⟩))
    go_ret
    exact ⟨rfl, hb9⟩
  have d3 : decide ((20000 : Int) < (n2 : Int)) = false := by (simp <;> omega)
  obtain ⟨nr, hnr⟩ : ∃ k, (rdV (readP ws nm rs)).length = k := ⟨_, rfl⟩
  obtain ⟨ckr, hckr⟩ : ∃ k, rdC (readP ws nm rs) = k := ⟨_, rfl⟩
  have HNR := Lib.hid (And.intro hnr hckr)
  have HRREAD := Lib.hid (fun V Aw cw Aa ca Ar cr (h : HRd V Aw lw cw Aa la ca Ar lr cr ws nm rs) => show Calls Try.prog 18 #[.agg #[.slice Aw lw cw, .slice Aa la ca, .slice Ar lr cr]] V (ReadNewE V ckr nr (rdV (readP ws nm rs))) from by have h9 := (rread_v V h).mono (fun e w' h => read_new h HNR.out.1); rw [HNR.out.2] at h9; exact h9)
  clear hnr hckr
  obtain ⟨fv, hfv⟩ : ∃ fv, decide ((TV.partsL (rdV (readP ws nm rs)) : Int) ≤ 600) = fv := ⟨_, rfl⟩
  have HFV := Lib.hid hfv
  clear hfv
  cases fv with
  | false =>
    go_enter Try.func6, Try.ntmps6
    go_upto_region 1 with (fail)
    refine wp_world (fun V => Below w.heap.size w V ∧ Blk V g 29 #[.slice Aw lw cw, .slice Aa la ca, .slice Ar lr cr]) ⟨below_alloc _ _, by rw [← HG.out]; exact Blk.new _ _ _⟩ ?_
    rintro V0 ⟨hb, hk⟩
    have HB := Lib.hid hb
    have HK := Lib.hid hk
    have x0 := hk.cell 0
    have x1 := hk.cell 1
    have x2 := hk.cell 2
    clear hb hk hg
    go_wp2_with (first
      | (go_at_call 18; refine (HRREAD.out _ _ _ _ _ _ _ (HH.out.below HB.out)).mono ?_; rintro e w1 ⟨hb, Ay, cy, rfl, hy⟩; have HB := Lib.hid (below_step HB.out hb); have hk := HK.out.keep hb; have HK := Lib.hid hk; have x0 := hk.cell 0; have x1 := hk.cell 1; have x2 := hk.cell 2; clear hb hk; have HY := Lib.hid hy; clear hy)
      | (go_at_call 9; (with_reducible refine (fits_any _ Ay nr cy 600 _ _ HNR.out.1 (by omega) (by omega) (Below.refl _ _) HY.out).mono ?_); rintro e w1 ⟨rfl, hb⟩; have HB := Lib.hid (below_step HB.out hb); have hk := HK.out.keep hb; have HK := Lib.hid hk; have x0 := hk.cell 0; have x1 := hk.cell 1; have x2 := hk.cell 2; clear hb hk; rw [HFV.out])
      | (go_at_call 14; refine (HSM.out _ HB.out).mono ?_; rintro e w1 ⟨rfl, hb⟩; have HB := Lib.hid (below_step HB.out hb); have hk := HK.out.keep hb; have HK := Lib.hid hk; have x0 := hk.cell 0; have x1 := hk.cell 1; have x2 := hk.cell 2; clear hb hk)
      | (go_at_call 10; refine (live_from HB.out).mono ?_; rintro e w9 ⟨rfl, hb9⟩))
    go_ret
    exact ⟨rfl, hb9⟩
  | true =>
    obtain ⟨k1, hk1⟩ : ∃ k, (colW (collectP ws nm rs roots)).length = k := ⟨_, rfl⟩
    obtain ⟨k2, hk2⟩ : ∃ k, (colN (collectP ws nm rs roots)).length = k := ⟨_, rfl⟩
    obtain ⟨k3, hk3⟩ : ∃ k, (colR (collectP ws nm rs roots)).length = k := ⟨_, rfl⟩
    obtain ⟨ck9, hck9⟩ : ∃ k, colC (collectP ws nm rs roots) = k := ⟨_, rfl⟩
    obtain ⟨m1, hm1⟩ : ∃ k, (getW (getP p)).length = k := ⟨_, rfl⟩
    obtain ⟨m2, hm2⟩ : ∃ k, (getN (getP p)).length = k := ⟨_, rfl⟩
    obtain ⟨m3, hm3⟩ : ∃ k, (getR (getP p)).length = k := ⟨_, rfl⟩
    obtain ⟨gk9, hgk9⟩ : ∃ k, getC (getP p) = k := ⟨_, rfl⟩
    have hkb9 : k1 ≤ 1000000 ∧ k2 ≤ 1000000 ∧ k3 ≤ 1000000 := by rw [← hk1, ← hk2, ← hk3]; exact col_le
    have hmb9 : m1 ≤ 1000000 ∧ m2 ≤ 1000000 ∧ m3 ≤ 1000000 := by rw [← hm1, ← hm2, ← hm3]; exact get_le p
    have HKK := Lib.hid (And.intro hk1 (And.intro hk2 (And.intro hk3 hck9)))
    have HMM := Lib.hid (And.intro hm1 (And.intro hm2 (And.intro hm3 hgk9)))
    have HCOL := Lib.hid (fun V Aw cw Aa ca Ar cr Ab cb (h : HRd V Aw lw cw Aa la ca Ar lr cr ws nm rs) (hk : RdK .i64 V Ab roots) => show Calls Try.prog 24 #[.agg #[.slice Aw lw cw, .slice Aa la ca, .slice Ar lr cr], .slice Ab nb cb] V (HeapNewE V ck9 k1 k2 k3 (colW (collectP ws nm rs roots)) (colN (collectP ws nm rs roots)) (colR (collectP ws nm rs roots))) from by have h9 := (hcollect_v V h roots Ab nb cb HLB.out hk (by omega)).mono (fun e w' h => col_new h HKK.out.1 HKK.out.2.1 HKK.out.2.2.1); rw [HKK.out.2.2.2] at h9; exact h9)
    have HRCOL := Lib.hid (fun V Aw cw Aa ca Ar cr Ab cb (h : HRd V Aw lw cw Aa la ca Ar lr cr ws nm rs) (hk : RdK .i64 V Ab roots) => show Calls Try.prog 25 #[.agg #[.slice Aw lw cw, .slice Aa la ca, .slice Ar lr cr], .slice Ab nb cb] V (HeapNewE V ck9 k1 k2 k3 (colW (collectP ws nm rs roots)) (colN (collectP ws nm rs roots)) (colR (collectP ws nm rs roots))) from by have h9 := (rcollect_v V h roots Ab nb cb HLB.out hk (by omega)).mono (fun e w' h => col_new h HKK.out.1 HKK.out.2.1 HKK.out.2.2.1); rw [HKK.out.2.2.2] at h9; exact h9)
    have HGET := Lib.hid (fun V A c (hr : Rd V A p) => show Calls Try.prog 23 #[.slice A n2 c] V (HeapNewE V gk9 m1 m2 m3 (getW (getP p)) (getN (getP p)) (getR (getP p))) from by have h9 := (hget_v A p n2 c V HL2.out (by omega) hr).mono (fun e w' h => get_new h HMM.out.1 HMM.out.2.1 HMM.out.2.2.1); rw [HMM.out.2.2.2] at h9; exact h9)
    have HRGET := Lib.hid (fun V A c (hr : Rd V A p) => show Calls Try.prog 26 #[.slice A n2 c] V (HeapNewE V gk9 m1 m2 m3 (getW (getP p)) (getN (getP p)) (getR (getP p))) from by have h9 := (rget_v A p n2 c V HL2.out (by omega) hr).mono (fun e w' h => get_new h HMM.out.1 HMM.out.2.1 HMM.out.2.2.1); rw [HMM.out.2.2.2] at h9; exact h9)
    have HOWN := Lib.hid (fun V (hV : Below w.heap.size w V) => own_v V (HH.out.below hV) (by omega) (by omega) (by omega))
    obtain ⟨P, hP⟩ : ∃ P, putP ws nm rs = P := ⟨_, rfl⟩
    obtain ⟨np, hnp⟩ : ∃ k, P.length = k := ⟨_, rfl⟩
    have HPL := Lib.hid hnp
    have HPUT := Lib.hid (fun V Aw cw Aa ca Ar cr (h : HRd V Aw lw cw Aa la ca Ar lr cr ws nm rs) => show Calls Try.prog 22 #[.agg #[.slice Aw lw cw, .slice Aa la ca, .slice Ar lr cr]] V (fun e w' => ∃ A c, e = .returned (.slice A np c) ∧ Rd w' A P ∧ Below V.heap.size V w') from by have h9 := hput_v V h ⟨by omega, by omega, by omega⟩ (by omega); rw [hP, hnp] at h9; exact h9.mono (fun e w' ⟨A, c, h1, h2, _, h3⟩ => ⟨A, c, h1, h2, h3⟩))
    have HRPUT := Lib.hid (fun V Aw cw Aa ca Ar cr (h : HRd V Aw lw cw Aa la ca Ar lr cr ws nm rs) => show Calls Try.prog 27 #[.agg #[.slice Aw lw cw, .slice Aa la ca, .slice Ar lr cr]] V (fun e w' => ∃ A c, e = .returned (.slice A np c) ∧ Rd w' A P ∧ Below V.heap.size V w') from by have h9 := rput_v V h ⟨by omega, by omega, by omega⟩ (by omega); rw [hP] at h9; unfold PutEnds at h9; rw [hnp] at h9; exact h9.mono (fun e w' ⟨A, c, h1, h2, _, _, h3⟩ => ⟨A, c, h1, h2, h3⟩))
    clear hk1 hk2 hk3 hck9 hm1 hm2 hm3 hgk9 hP hnp
    generalize collectP ws nm rs roots = COL at *
    generalize getP p = GET at *
    have HS1 := Lib.hid (fun (V : World) (Bw : Option Addr) (dw : Nat) (Ba : Option Addr) (da : Nat) (Br : Option Addr) (dr : Nat) (Cw : Option Addr) (ew : Nat) (Ca : Option Addr) (ea : Nat) (Cr : Option Addr) (er : Nat) (ha : HRd V Bw k1 dw Ba k2 da Br k3 dr (colW COL) (colN COL) (colR COL)) (hb : HRd V Cw k1 ew Ca k2 ea Cr k3 er (colW COL) (colN COL) (colR COL)) => (rSame_v V ha hb hkb9 hkb9).mono (fun e w' h9 => by rw [lays_sameH] at h9; exact h9))
    have HS2 := Lib.hid (fun (V : World) (Bw : Option Addr) (dw : Nat) (Ba : Option Addr) (da : Nat) (Br : Option Addr) (dr : Nat) (Cw : Option Addr) (ew : Nat) (Ca : Option Addr) (ea : Nat) (Cr : Option Addr) (er : Nat) (ha : HRd V Bw m1 dw Ba m2 da Br m3 dr (getW GET) (getN GET) (getR GET)) (hb : HRd V Cw m1 ew Ca m2 ea Cr m3 er (getW GET) (getN GET) (getR GET)) => (rSame_v V ha hb hmb9 hmb9).mono (fun e w' h9 => by rw [lays_sameH] at h9; exact h9))
    go_enter Try.func6, Try.ntmps6
    go_upto_region 1 with (fail)
    refine wp_world (fun V => Below w.heap.size w V ∧ Blk V g 29 #[.slice Aw lw cw, .slice Aa la ca, .slice Ar lr cr]) ⟨below_alloc _ _, by rw [← HG.out]; exact Blk.new _ _ _⟩ ?_
    rintro V0 ⟨hb, hk⟩
    have HB := Lib.hid hb
    have HK := Lib.hid hk
    have x0 := hk.cell 0
    have x1 := hk.cell 1
    have x2 := hk.cell 2
    clear hb hk hg
    go_upto_region 6 with (first
      | (go_at_call 18; refine (HRREAD.out _ _ _ _ _ _ _ (HH.out.below HB.out)).mono ?_; rintro e w1 ⟨hb, Ay, cy, rfl, hy⟩; have HB := Lib.hid (below_step HB.out hb); have hk := HK.out.keep hb; have HK := Lib.hid hk; have x0 := hk.cell 0; have x1 := hk.cell 1; have x2 := hk.cell 2; clear hb hk; have HY := Lib.hid hy; clear hy)
      | (go_at_call 9; (with_reducible refine (fits_any _ Ay nr cy 600 _ _ HNR.out.1 (by omega) (by omega) (Below.refl _ _) HY.out).mono ?_); rintro e w1 ⟨rfl, hb⟩; have HB := Lib.hid (below_step HB.out hb); have hk := HK.out.keep hb; have HK := Lib.hid hk; have x0 := hk.cell 0; have x1 := hk.cell 1; have x2 := hk.cell 2; clear hb hk; rw [HFV.out])
      | (go_at_call 14; refine (HSM.out _ HB.out).mono ?_; rintro e w1 ⟨rfl, hb⟩; have HB := Lib.hid (below_step HB.out hb); have hk := HK.out.keep hb; have HK := Lib.hid hk; have x0 := hk.cell 0; have x1 := hk.cell 1; have x2 := hk.cell 2; clear hb hk)
      | (go_at_call 10; refine (live_from HB.out).mono ?_; rintro e w9 ⟨rfl, hb9⟩))
    refine wp_world (fun V => Below w.heap.size w V ∧ Blk V g 29 #[.slice Aw lw cw, .slice Aa la ca, .slice Ar lr cr]) ⟨HB.out, HK.out⟩ ?_
    clear HB HK HSM HFV HNR HRREAD HY x0 x1 x2
    rintro V2 ⟨hb, hk⟩
    have HB := Lib.hid hb
    have HK := Lib.hid hk
    have x0 := hk.cell 0
    have x1 := hk.cell 1
    have x2 := hk.cell 2
    clear hb hk
    go_upto_region 7 with (first
      | (go_at_call 17; refine (HOWN.out V2 HB.out).mono ?_; rintro e w3 ⟨hb3, Ow, ow, Oa, oa, Oq, oq, rfl, hn3⟩; have HB3 := Lib.hid hb3; have HN3 := Lib.hid hn3; have hbV := Lib.hid (below_step hb3 (below_alloc w3 (.cells #[] 3))); clear hb3 hn3)
      | (at_builtin; refine wpList_app intsT9 rfl (.tmp 43) (.tmp 44) rfl w3.heap.size _ 0 [] rfl (World.ownsRow_lit w3 #[] 0 (Nat.le_refl _) (Nat.zero_le _) rfl) Ab nb cb (roots.map iiv9) rfl (by rw [List.length_map, HLB.out, Nat.mul_one]) ((rdki_cs9 HKB.out).below (HB.out.trans (hbV.out.mono HB.out.size))) (ints_one9 roots) (by unfold maxLen; omega) (by omega) (by simp) ?_; intro v5 w5 ho5 hg5 hat5; have HB5 := Lib.hid (lit_below9 (below_alloc w3 _) hg5 (Nat.le_refl _)); rw [List.nil_append, Nat.zero_add] at ho5; obtain ⟨A5, c5, rfl⟩ := own_sl ho5; have HR5 := Lib.hid (own_rdki9 ho5); clear ho5 hg5 hat5)
      | (go_at_call 24; refine (HCOL.out w5 _ _ _ _ _ _ A5 c5 (HN3.out.below HB5.out) HR5.out).mono ?_; rintro e w4 ⟨hb4, Bw, dw, Ba, da, Br, dr, rfl, hn4⟩; have HB4 := Lib.hid (HB3.out.trans ((HB5.out.trans (hb4.mono HB5.out.size)).mono HB3.out.size)); have HN4 := Lib.hid hn4; clear hb4 hn4 hbV HB5 HR5 HB3 HN3))
    obtain ⟨ga, hga⟩ : ∃ q, w4.heap.size = q := ⟨_, rfl⟩
    rw [hga]
    have hblA := Lib.hid (show Blk (w4.alloc (.cells #[.slice Bw k1 dw, .slice Ba k2 da, .slice Br k3 dr] 29)) ga 29 #[.slice Bw k1 dw, .slice Ba k2 da, .slice Br k3 dr] from Blk.newAt hga)
    have hfrA := Lib.hid (below_alloc w4 (.cells #[.slice Bw k1 dw, .slice Ba k2 da, .slice Br k3 dr] 29))
    have hst := Lib.hid (HB4.out.trans (hfrA.out.mono HB4.out.size))
    refine wp_world (fun V => Below w.heap.size w V ∧ Blk V g 29 #[.slice Aw lw cw, .slice Aa la ca, .slice Ar lr cr] ∧ (Blk V ga 29 #[.slice Bw k1 dw, .slice Ba k2 da, .slice Br k3 dr] ∧ HRd V Bw k1 dw Ba k2 da Br k3 dr (colW COL) (colN COL) (colR COL))) ⟨HB.out.trans (hst.out.mono HB.out.size), HK.out.keep hst.out, hblA.out, HN4.out.below hfrA.out⟩ ?_
    clear HB HK hblA hfrA hst HN4 HB4 hga x0 x1 x2 
    rintro V2 ⟨hb, hk, ⟨hkga, hnga⟩⟩
    have HB := Lib.hid hb
    have HK := Lib.hid hk
    have x0 := hk.cell 0
    have x1 := hk.cell 1
    have x2 := hk.cell 2
    have HKga := Lib.hid hkga
    have HNga := Lib.hid hnga
    clear hb hk hkga hnga
    go_upto_region 8 with (go_at_call 25; refine (HRCOL.out V2 _ _ _ _ _ _ Ab cb (HH.out.below HB.out) (HKB.out.below HB.out)).mono ?_; rintro e w4 ⟨hb4, Cw, ew, Ca, ea, Cr, er, rfl, hn4⟩; have HB4 := Lib.hid hb4; have HN4 := Lib.hid hn4; clear hb4 hn4)
    obtain ⟨gb, hgb⟩ : ∃ q, w4.heap.size = q := ⟨_, rfl⟩
    rw [hgb]
    have hblA := Lib.hid (show Blk (w4.alloc (.cells #[.slice Cw k1 ew, .slice Ca k2 ea, .slice Cr k3 er] 29)) gb 29 #[.slice Cw k1 ew, .slice Ca k2 ea, .slice Cr k3 er] from Blk.newAt hgb)
    have hfrA := Lib.hid (below_alloc w4 (.cells #[.slice Cw k1 ew, .slice Ca k2 ea, .slice Cr k3 er] 29))
    have hst := Lib.hid (HB4.out.trans (hfrA.out.mono HB4.out.size))
    refine wp_world (fun V => Below w.heap.size w V ∧ Blk V g 29 #[.slice Aw lw cw, .slice Aa la ca, .slice Ar lr cr] ∧ (Blk V ga 29 #[.slice Bw k1 dw, .slice Ba k2 da, .slice Br k3 dr] ∧ HRd V Bw k1 dw Ba k2 da Br k3 dr (colW COL) (colN COL) (colR COL)) ∧ (Blk V gb 29 #[.slice Cw k1 ew, .slice Ca k2 ea, .slice Cr k3 er] ∧ HRd V Cw k1 ew Ca k2 ea Cr k3 er (colW COL) (colN COL) (colR COL))) ⟨HB.out.trans (hst.out.mono HB.out.size), HK.out.keep hst.out, ⟨HKga.out.keep hst.out, HNga.out.below hst.out⟩, hblA.out, HN4.out.below hfrA.out⟩ ?_
    clear HB HK hblA hfrA hst HN4 HB4 hgb x0 x1 x2 HKga HNga
    rintro V2 ⟨hb, hk, ⟨hkga, hnga⟩, ⟨hkgb, hngb⟩⟩
    have HB := Lib.hid hb
    have HK := Lib.hid hk
    have x0 := hk.cell 0
    have x1 := hk.cell 1
    have x2 := hk.cell 2
    have HKga := Lib.hid hkga
    have HNga := Lib.hid hnga
    have HKgb := Lib.hid hkgb
    have HNgb := Lib.hid hngb
    clear hb hk hkga hnga hkgb hngb
    go_upto_region 9 with (first
      | (at_builtin; refine wpList_app bytesT9 rfl (.tmp 56) (.tmp 57) rfl V2.heap.size _ 0 [] rfl (World.ownsRow_lit V2 #[] 0 (Nat.le_refl _) (Nat.zero_le _) rfl) A2 n2 c2 (p.map bv) rfl (by rw [List.length_map, HL2.out, Nat.mul_one]) (HR2.out.below (HB.out.trans ((below_alloc V2 _).mono HB.out.size))).cs (bv_one9 p) (by unfold maxLen; omega) (by omega) (by simp) ?_; intro v5 w5 ho5 hg5 hat5; have HB5 := Lib.hid (lit_below9 (below_alloc V2 _) hg5 (Nat.le_refl _)); rw [List.nil_append, Nat.zero_add] at ho5; obtain ⟨A5, c5, rfl, hr5, _, _⟩ := own_rd ho5; have HR5 := Lib.hid hr5; clear ho5 hg5 hat5 hr5)
      | (go_at_call 23; refine (HGET.out w5 A5 c5 HR5.out).mono ?_; rintro e w4 ⟨hb4, Dw, fw, Da, fa, Dr, fr, rfl, hn4⟩; have HB4 := Lib.hid (HB5.out.trans (hb4.mono HB5.out.size)); have HN4 := Lib.hid hn4; clear hb4 hn4 HB5 HR5))
    obtain ⟨gx, hgx⟩ : ∃ q, w4.heap.size = q := ⟨_, rfl⟩
    rw [hgx]
    have hblA := Lib.hid (show Blk (w4.alloc (.cells #[.slice Dw m1 fw, .slice Da m2 fa, .slice Dr m3 fr] 29)) gx 29 #[.slice Dw m1 fw, .slice Da m2 fa, .slice Dr m3 fr] from Blk.newAt hgx)
    have hfrA := Lib.hid (below_alloc w4 (.cells #[.slice Dw m1 fw, .slice Da m2 fa, .slice Dr m3 fr] 29))
    have hst := Lib.hid (HB4.out.trans (hfrA.out.mono HB4.out.size))
    refine wp_world (fun V => Below w.heap.size w V ∧ Blk V g 29 #[.slice Aw lw cw, .slice Aa la ca, .slice Ar lr cr] ∧ (Blk V ga 29 #[.slice Bw k1 dw, .slice Ba k2 da, .slice Br k3 dr] ∧ HRd V Bw k1 dw Ba k2 da Br k3 dr (colW COL) (colN COL) (colR COL)) ∧ (Blk V gb 29 #[.slice Cw k1 ew, .slice Ca k2 ea, .slice Cr k3 er] ∧ HRd V Cw k1 ew Ca k2 ea Cr k3 er (colW COL) (colN COL) (colR COL)) ∧ (Blk V gx 29 #[.slice Dw m1 fw, .slice Da m2 fa, .slice Dr m3 fr] ∧ HRd V Dw m1 fw Da m2 fa Dr m3 fr (getW GET) (getN GET) (getR GET))) ⟨HB.out.trans (hst.out.mono HB.out.size), HK.out.keep hst.out, ⟨HKga.out.keep hst.out, HNga.out.below hst.out⟩, ⟨HKgb.out.keep hst.out, HNgb.out.below hst.out⟩, hblA.out, HN4.out.below hfrA.out⟩ ?_
    clear HB HK hblA hfrA hst HN4 HB4 hgx x0 x1 x2 HKga HNga HKgb HNgb
    rintro V2 ⟨hb, hk, ⟨hkga, hnga⟩, ⟨hkgb, hngb⟩, ⟨hkgx, hngx⟩⟩
    have HB := Lib.hid hb
    have HK := Lib.hid hk
    have x0 := hk.cell 0
    have x1 := hk.cell 1
    have x2 := hk.cell 2
    have HKga := Lib.hid hkga
    have HNga := Lib.hid hnga
    have HKgb := Lib.hid hkgb
    have HNgb := Lib.hid hngb
    have HKgx := Lib.hid hkgx
    have HNgx := Lib.hid hngx
    clear hb hk hkga hnga hkgb hngb hkgx hngx
    go_upto_region 10 with (go_at_call 26; refine (HRGET.out V2 A2 c2 (HR2.out.below HB.out)).mono ?_; rintro e w4 ⟨hb4, Ew, hw, Ea, ha, Er, hr, rfl, hn4⟩; have HB4 := Lib.hid hb4; have HN4 := Lib.hid hn4; clear hb4 hn4)
    obtain ⟨gy, hgy⟩ : ∃ q, w4.heap.size = q := ⟨_, rfl⟩
    rw [hgy]
    have hblA := Lib.hid (show Blk (w4.alloc (.cells #[.slice Ew m1 hw, .slice Ea m2 ha, .slice Er m3 hr] 29)) gy 29 #[.slice Ew m1 hw, .slice Ea m2 ha, .slice Er m3 hr] from Blk.newAt hgy)
    have hfrA := Lib.hid (below_alloc w4 (.cells #[.slice Ew m1 hw, .slice Ea m2 ha, .slice Er m3 hr] 29))
    have hst := Lib.hid (HB4.out.trans (hfrA.out.mono HB4.out.size))
    refine wp_world (fun V => Below w.heap.size w V ∧ Blk V g 29 #[.slice Aw lw cw, .slice Aa la ca, .slice Ar lr cr] ∧ (Blk V ga 29 #[.slice Bw k1 dw, .slice Ba k2 da, .slice Br k3 dr] ∧ HRd V Bw k1 dw Ba k2 da Br k3 dr (colW COL) (colN COL) (colR COL)) ∧ (Blk V gb 29 #[.slice Cw k1 ew, .slice Ca k2 ea, .slice Cr k3 er] ∧ HRd V Cw k1 ew Ca k2 ea Cr k3 er (colW COL) (colN COL) (colR COL)) ∧ (Blk V gx 29 #[.slice Dw m1 fw, .slice Da m2 fa, .slice Dr m3 fr] ∧ HRd V Dw m1 fw Da m2 fa Dr m3 fr (getW GET) (getN GET) (getR GET)) ∧ (Blk V gy 29 #[.slice Ew m1 hw, .slice Ea m2 ha, .slice Er m3 hr] ∧ HRd V Ew m1 hw Ea m2 ha Er m3 hr (getW GET) (getN GET) (getR GET))) ⟨HB.out.trans (hst.out.mono HB.out.size), HK.out.keep hst.out, ⟨HKga.out.keep hst.out, HNga.out.below hst.out⟩, ⟨HKgb.out.keep hst.out, HNgb.out.below hst.out⟩, ⟨HKgx.out.keep hst.out, HNgx.out.below hst.out⟩, hblA.out, HN4.out.below hfrA.out⟩ ?_
    clear HB HK hblA hfrA hst HN4 HB4 hgy x0 x1 x2 HKga HNga HKgb HNgb HKgx HNgx
    rintro V2 ⟨hb, hk, ⟨hkga, hnga⟩, ⟨hkgb, hngb⟩, ⟨hkgx, hngx⟩, ⟨hkgy, hngy⟩⟩
    have HB := Lib.hid hb
    have HK := Lib.hid hk
    have x0 := hk.cell 0
    have x1 := hk.cell 1
    have x2 := hk.cell 2
    have HKga := Lib.hid hkga
    have HNga := Lib.hid hnga
    have HKgb := Lib.hid hkgb
    have HNgb := Lib.hid hngb
    have HKgx := Lib.hid hkgx
    have HNgx := Lib.hid hngx
    have HKgy := Lib.hid hkgy
    have HNgy := Lib.hid hngy
    clear hb hk hkga hnga hkgb hngb hkgx hngx hkgy hngy
    have HSK : Hid (∀ U, Below V2.heap.size V2 U → Blk U g 29 #[.slice Aw lw cw, .slice Aa la ca, .slice Ar lr cr] ∧ Blk U ga 29 #[.slice Bw k1 dw, .slice Ba k2 da, .slice Br k3 dr] ∧ Blk U gb 29 #[.slice Cw k1 ew, .slice Ca k2 ea, .slice Cr k3 er] ∧ Blk U gx 29 #[.slice Dw m1 fw, .slice Da m2 fa, .slice Dr m3 fr] ∧ Blk U gy 29 #[.slice Ew m1 hw, .slice Ea m2 ha, .slice Er m3 hr]) := Lib.hid fun U hU => ⟨HK.out.keep hU, HKga.out.keep hU, HKgb.out.keep hU, HKgx.out.keep hU, HKgy.out.keep hU⟩
    go_upto_region 10 with (fail)
    clear x0 x1 x2
    refine wp_region_W 31 (fun V => Blk V g 29 #[.slice Aw lw cw, .slice Aa la ca, .slice Ar lr cr] ∧ Blk V ga 29 #[.slice Bw k1 dw, .slice Ba k2 da, .slice Br k3 dr] ∧ Blk V gb 29 #[.slice Cw k1 ew, .slice Ca k2 ea, .slice Cr k3 er] ∧ Blk V gx 29 #[.slice Dw m1 fw, .slice Da m2 fa, .slice Dr m3 fr] ∧ Blk V gy 29 #[.slice Ew m1 hw, .slice Ea m2 ha, .slice Er m3 hr]) (by kernel_rfl) ?_ (fun hS0 => ?_)
    · exact HSK.out _ (Below.refl _ _).drew
    have HW : Hid (Below V2.heap.size V2 V2.drew) := (Below.refl _ _).drew
    (refine wpAnyW_take (i := 0) (v := ?_) rfl (by kernel_rfl) (by kernel_rfl) (by kernel_rfl) (by kernel_rfl) (fun _ _ _ h => h) (Or.inl ⟨by kernel_rfl, ?_⟩) (by assumption) ?_; rotate_left; focus (intro V9 hS9; obtain ⟨b, ba, bb, bx, by'⟩ := hS9; have ba0 := ba.cell 0; have ba1 := ba.cell 1; have ba2 := ba.cell 2; go_simp; (try (with_reducible rfl)); done))
    try simp only [Act.put, List.getElem_toArray, List.getElem_cons_zero, List.setIfInBounds_toArray, List.set_cons_succ, List.set_cons_zero]
    (refine wpAnyW_take (i := 1) (v := ?_) rfl (by kernel_rfl) (by kernel_rfl) (by kernel_rfl) (by kernel_rfl) (fun _ _ _ h => h) (Or.inl ⟨by kernel_rfl, ?_⟩) (by assumption) ?_; rotate_left; focus (intro V9 hS9; obtain ⟨b, ba, bb, bx, by'⟩ := hS9; have bb0 := bb.cell 0; have bb1 := bb.cell 1; have bb2 := bb.cell 2; go_simp; (try (with_reducible rfl)); done))
    try simp only [Act.put, List.getElem_toArray, List.getElem_cons_succ, List.getElem_cons_zero, List.setIfInBounds_toArray, List.set_cons_succ, List.set_cons_zero]
    refine wpAnyW_ready (rs := [2]) (by kernel_rfl) (by simp) ?_
    refine AllReadyW.cons rfl (fun K hK => ?_) AllReadyW.nil
    go_simp
    refine (HS1.out V2.drew _ _ _ _ _ _ _ _ _ _ _ _ (HNga.out.below HW.out) (HNgb.out.below HW.out)).mono ?_
    rintro e u1 ⟨rfl, hb⟩
    have HW := Lib.hid (HW.out.trans (hb.mono HW.out.size))
    clear hb
    refine hK.out _ _ (HSK.out u1 HW.out) (fun _ => ?_)
    clear hK K
    try simp only [Act.put, List.getElem_toArray, List.getElem_cons_succ, List.getElem_cons_zero, List.setIfInBounds_toArray, List.set_cons_succ, List.set_cons_zero]
    (refine wpAnyW_take (i := 3) (v := ?_) rfl (by kernel_rfl) (by kernel_rfl) (by kernel_rfl) (by kernel_rfl) (fun _ _ _ h => h) (Or.inl ⟨by kernel_rfl, ?_⟩) (by assumption) ?_; rotate_left; focus (intro V9 hS9; go_simp; (try (with_reducible rfl)); done))
    try simp only [Act.put, List.getElem_toArray, List.getElem_cons_succ, List.getElem_cons_zero, List.setIfInBounds_toArray, List.set_cons_succ, List.set_cons_zero]
    (refine wpAnyW_take (i := 4) (v := ?_) rfl (by kernel_rfl) (by kernel_rfl) (by kernel_rfl) (by kernel_rfl) (fun _ _ _ h => h) (Or.inl ⟨by kernel_rfl, ?_⟩) (by assumption) ?_; rotate_left; focus (intro V9 hS9; go_simp; (try (with_reducible rfl)); done))
    try simp only [Act.put, List.getElem_toArray, List.getElem_cons_succ, List.getElem_cons_zero, List.setIfInBounds_toArray, List.set_cons_succ, List.set_cons_zero]
    (refine wpAnyW_take (i := 6) (v := ?_) rfl (by kernel_rfl) (by kernel_rfl) (by kernel_rfl) (by kernel_rfl) (fun _ _ _ h => h) (Or.inl ⟨by kernel_rfl, ?_⟩) (by assumption) ?_; rotate_left; focus (intro V9 hS9; go_simp; (try (with_reducible rfl)); done))
    try simp only [Act.put, List.getElem_toArray, List.getElem_cons_succ, List.getElem_cons_zero, List.setIfInBounds_toArray, List.set_cons_succ, List.set_cons_zero]
    refine wpAnyW_ready (rs := [5]) (by kernel_rfl) (by simp) ?_
    refine AllReadyW.cons rfl (fun K hK => ?_) AllReadyW.nil
    go_simp
    refine (hnum_v _ _).mono ?_
    rintro e u2 ⟨rfl, rfl⟩
    refine hK.out _ _ (HSK.out u1 HW.out) (fun _ => ?_)
    clear hK K
    try simp only [Act.put, List.getElem_toArray, List.getElem_cons_succ, List.getElem_cons_zero, List.setIfInBounds_toArray, List.set_cons_succ, List.set_cons_zero]
    (refine wpAnyW_take (i := 7) (v := ?_) rfl (by kernel_rfl) (by kernel_rfl) (by kernel_rfl) (by kernel_rfl) (fun _ _ _ h => h) (Or.inl ⟨by kernel_rfl, ?_⟩) (by assumption) ?_; rotate_left; focus (intro V9 hS9; go_simp; (try (with_reducible rfl)); done))
    try simp only [Act.put, List.getElem_toArray, List.getElem_cons_succ, List.getElem_cons_zero, List.setIfInBounds_toArray, List.set_cons_succ, List.set_cons_zero]
    (refine wpAnyW_take (i := 8) (v := ?_) rfl (by kernel_rfl) (by kernel_rfl) (by kernel_rfl) (by kernel_rfl) (fun _ _ _ h => h) (Or.inl ⟨by kernel_rfl, ?_⟩) (by assumption) ?_; rotate_left; focus (intro V9 hS9; go_simp; (try (with_reducible rfl)); done))
    try simp only [Act.put, List.getElem_toArray, List.getElem_cons_succ, List.getElem_cons_zero, List.setIfInBounds_toArray, List.set_cons_succ, List.set_cons_zero]
    (refine wpAnyW_take (i := 9) (v := ?_) rfl (by kernel_rfl) (by kernel_rfl) (by kernel_rfl) (by kernel_rfl) (fun _ _ _ h => h) (Or.inl ⟨by kernel_rfl, ?_⟩) (by assumption) ?_; rotate_left; focus (intro V9 hS9; go_simp; (try (with_reducible rfl)); done))
    try simp only [Act.put, List.getElem_toArray, List.getElem_cons_succ, List.getElem_cons_zero, List.setIfInBounds_toArray, List.set_cons_succ, List.set_cons_zero]
    (refine wpAnyW_take (i := 10) (v := ?_) rfl (by kernel_rfl) (by kernel_rfl) (by kernel_rfl) (by kernel_rfl) (fun _ _ _ h => h) (Or.inl ⟨by kernel_rfl, ?_⟩) (by assumption) ?_; rotate_left; focus (intro V9 hS9; obtain ⟨b, ba, bb, bx, by'⟩ := hS9; have b0 := b.cell 0; have b1 := b.cell 1; have b2 := b.cell 2; go_simp; (try (with_reducible rfl)); done))
    try simp only [Act.put, List.getElem_toArray, List.getElem_cons_succ, List.getElem_cons_zero, List.setIfInBounds_toArray, List.set_cons_succ, List.set_cons_zero]
    (refine wpAnyW_take (i := 14) (v := ?_) rfl (by kernel_rfl) (by kernel_rfl) (by kernel_rfl) (by kernel_rfl) (fun _ _ _ h => h) (Or.inl ⟨by kernel_rfl, ?_⟩) (by assumption) ?_; rotate_left; focus (intro V9 hS9; obtain ⟨b, ba, bb, bx, by'⟩ := hS9; have b0 := b.cell 0; have b1 := b.cell 1; have b2 := b.cell 2; go_simp; (try (with_reducible rfl)); done))
    try simp only [Act.put, List.getElem_toArray, List.getElem_cons_succ, List.getElem_cons_zero, List.setIfInBounds_toArray, List.set_cons_succ, List.set_cons_zero]
    refine wpAnyW_ready (rs := [11]) (by kernel_rfl) (by simp) ?_
    refine AllReadyW.cons rfl (fun K hK => ?_) AllReadyW.nil
    go_simp
    refine (HOWN.out u1 (HB.out.trans (HW.out.mono HB.out.size))).mono ?_
    rintro e u2 ⟨hb, Ow, ow, Oa, oa, Oq, oq, rfl, hn⟩
    have HW := Lib.hid (HW.out.trans (hb.mono HW.out.size))
    have HN2 := Lib.hid hn
    clear hb hn
    refine hK.out _ _ (HSK.out u2 HW.out) (fun _ => ?_)
    clear hK K
    try simp only [Act.put, List.getElem_toArray, List.getElem_cons_succ, List.getElem_cons_zero, List.setIfInBounds_toArray, List.set_cons_succ, List.set_cons_zero]
    refine wpAnyW_ready (rs := [12]) (by kernel_rfl) (by simp) ?_
    refine AllReadyW.cons rfl (fun K hK => ?_) AllReadyW.nil
    go_simp
    refine (HPUT.out u2 _ _ _ _ _ _ HN2.out).mono ?_
    rintro e u3 ⟨A6, c6, rfl, hr6, hb⟩
    have HW := Lib.hid (HW.out.trans (hb.mono HW.out.size))
    have HR6 := Lib.hid hr6
    clear hb hr6
    refine hK.out _ _ (HSK.out u3 HW.out) (fun _ => ?_)
    clear hK K
    try simp only [Act.put, List.getElem_toArray, List.getElem_cons_succ, List.getElem_cons_zero, List.setIfInBounds_toArray, List.set_cons_succ, List.set_cons_zero]
    refine wpAnyW_more (S' := fun V => (Blk V g 29 #[.slice Aw lw cw, .slice Aa la ca, .slice Ar lr cr] ∧ Blk V ga 29 #[.slice Bw k1 dw, .slice Ba k2 da, .slice Br k3 dr] ∧ Blk V gb 29 #[.slice Cw k1 ew, .slice Ca k2 ea, .slice Cr k3 er] ∧ Blk V gx 29 #[.slice Dw m1 fw, .slice Da m2 fa, .slice Dr m3 fr] ∧ Blk V gy 29 #[.slice Ew m1 hw, .slice Ea m2 ha, .slice Er m3 hr]) ∧ Rd V A6 P) (fun V h => h.1) _ _ _ _ ?_
    have hS1 : (Blk u3 g 29 #[.slice Aw lw cw, .slice Aa la ca, .slice Ar lr cr] ∧ Blk u3 ga 29 #[.slice Bw k1 dw, .slice Ba k2 da, .slice Br k3 dr] ∧ Blk u3 gb 29 #[.slice Cw k1 ew, .slice Ca k2 ea, .slice Cr k3 er] ∧ Blk u3 gx 29 #[.slice Dw m1 fw, .slice Da m2 fa, .slice Dr m3 fr] ∧ Blk u3 gy 29 #[.slice Ew m1 hw, .slice Ea m2 ha, .slice Er m3 hr]) ∧ Rd u3 A6 P := ⟨HSK.out u3 HW.out, HR6.out⟩
    (refine wpAnyW_take (i := 13) (v := ?_) rfl (by kernel_rfl) (by kernel_rfl) (by kernel_rfl) (by kernel_rfl) (fun _ _ _ h => h) (Or.inl ⟨by kernel_rfl, ?_⟩) (by assumption) ?_; rotate_left; focus (intro V9 hS9; have hcv := run_str (P := Try.prog) Try.underlying51 Try.underlying5 Try.underlying9 V9 A6 np c6 P HPL.out hS9.2; go_simp; (try (with_reducible rfl)); done))
    try simp only [Act.put, List.getElem_toArray, List.getElem_cons_succ, List.getElem_cons_zero, List.setIfInBounds_toArray, List.set_cons_succ, List.set_cons_zero]
    refine wpAnyW_ready (rs := [15]) (by kernel_rfl) (by simp) ?_
    refine AllReadyW.cons rfl (fun K hK => ?_) AllReadyW.nil
    go_simp
    refine (HRPUT.out u3 _ _ _ _ _ _ (HH.out.below (HB.out.trans (HW.out.mono HB.out.size)))).mono ?_
    rintro e u4 ⟨A7, c7, rfl, hr7, hb⟩
    have HW := Lib.hid (HW.out.trans (hb.mono HW.out.size))
    have HR7 := Lib.hid hr7
    have HR6 := Lib.hid (HR6.out.below hb)
    clear hb hr7 hS1
    refine hK.out _ _ ⟨HSK.out u4 HW.out, HR6.out⟩ (fun _ => ?_)
    clear hK K
    try simp only [Act.put, List.getElem_toArray, List.getElem_cons_succ, List.getElem_cons_zero, List.setIfInBounds_toArray, List.set_cons_succ, List.set_cons_zero]
    refine wpAnyW_more (S' := fun V => ((Blk V g 29 #[.slice Aw lw cw, .slice Aa la ca, .slice Ar lr cr] ∧ Blk V ga 29 #[.slice Bw k1 dw, .slice Ba k2 da, .slice Br k3 dr] ∧ Blk V gb 29 #[.slice Cw k1 ew, .slice Ca k2 ea, .slice Cr k3 er] ∧ Blk V gx 29 #[.slice Dw m1 fw, .slice Da m2 fa, .slice Dr m3 fr] ∧ Blk V gy 29 #[.slice Ew m1 hw, .slice Ea m2 ha, .slice Er m3 hr]) ∧ Rd V A6 P) ∧ Rd V A7 P) (fun V h => h.1) _ _ _ _ ?_
    have hS1 : ((Blk u4 g 29 #[.slice Aw lw cw, .slice Aa la ca, .slice Ar lr cr] ∧ Blk u4 ga 29 #[.slice Bw k1 dw, .slice Ba k2 da, .slice Br k3 dr] ∧ Blk u4 gb 29 #[.slice Cw k1 ew, .slice Ca k2 ea, .slice Cr k3 er] ∧ Blk u4 gx 29 #[.slice Dw m1 fw, .slice Da m2 fa, .slice Dr m3 fr] ∧ Blk u4 gy 29 #[.slice Ew m1 hw, .slice Ea m2 ha, .slice Er m3 hr]) ∧ Rd u4 A6 P) ∧ Rd u4 A7 P := ⟨⟨HSK.out u4 HW.out, HR6.out⟩, HR7.out⟩
    have HRK : Hid (∀ U, Below u4.heap.size u4 U → Rd U A6 P ∧ Rd U A7 P) := Lib.hid fun U hU => ⟨HR6.out.below hU, HR7.out.below hU⟩
    (refine wpAnyW_take (i := 16) (v := ?_) rfl (by kernel_rfl) (by kernel_rfl) (by kernel_rfl) (by kernel_rfl) (fun _ _ _ h => h) (Or.inl ⟨by kernel_rfl, ?_⟩) (by assumption) ?_; rotate_left; focus (intro V9 hS9; have hcv := run_str (P := Try.prog) Try.underlying51 Try.underlying5 Try.underlying9 V9 A7 np c7 P HPL.out hS9.2; go_simp; (try (with_reducible rfl)); done))
    try simp only [Act.put, List.getElem_toArray, List.getElem_cons_succ, List.getElem_cons_zero, List.setIfInBounds_toArray, List.set_cons_succ, List.set_cons_zero]
    (refine wpAnyW_take (i := 17) (v := ?_) rfl (by kernel_rfl) (by kernel_rfl) (by kernel_rfl) (by kernel_rfl) (fun _ _ _ h => h) (Or.inl ⟨by kernel_rfl, ?_⟩) (by assumption) ?_; rotate_left; focus (intro V9 hS9; go_simp; (try (with_reducible rfl)); done))
    try simp only [Act.put, List.getElem_toArray, List.getElem_cons_succ, List.getElem_cons_zero, List.setIfInBounds_toArray, List.set_cons_succ, List.set_cons_zero]
    (refine wpAnyW_take (i := 18) (v := ?_) rfl (by kernel_rfl) (by kernel_rfl) (by kernel_rfl) (by kernel_rfl) (fun _ _ _ h => h) (Or.inl ⟨by kernel_rfl, ?_⟩) (by assumption) ?_; rotate_left; focus (intro V9 hS9; go_simp; (try (with_reducible rfl)); done))
    try simp only [Act.put, List.getElem_toArray, List.getElem_cons_succ, List.getElem_cons_zero, List.setIfInBounds_toArray, List.set_cons_succ, List.set_cons_zero]
    (refine wpAnyW_take (i := 19) (v := ?_) rfl (by kernel_rfl) (by kernel_rfl) (by kernel_rfl) (by kernel_rfl) (fun _ _ _ h => h) (Or.inl ⟨by kernel_rfl, ?_⟩) (by assumption) ?_; rotate_left; focus (intro V9 hS9; go_simp; (try (with_reducible rfl)); done))
    try simp only [Act.put, List.getElem_toArray, List.getElem_cons_succ, List.getElem_cons_zero, List.setIfInBounds_toArray, List.set_cons_succ, List.set_cons_zero]
    (refine wpAnyW_take (i := 20) (v := ?_) rfl (by kernel_rfl) (by kernel_rfl) (by kernel_rfl) (by kernel_rfl) (fun _ _ _ h => h) (Or.inl ⟨by kernel_rfl, ?_⟩) (by assumption) ?_; rotate_left; focus (intro V9 hS9; obtain ⟨⟨⟨b, ba, bb, bx, by'⟩, _⟩, _⟩ := hS9; have bx0 := bx.cell 0; have bx1 := bx.cell 1; have bx2 := bx.cell 2; go_simp; (try (with_reducible rfl)); done))
    try simp only [Act.put, List.getElem_toArray, List.getElem_cons_succ, List.getElem_cons_zero, List.setIfInBounds_toArray, List.set_cons_succ, List.set_cons_zero]
    (refine wpAnyW_take (i := 21) (v := ?_) rfl (by kernel_rfl) (by kernel_rfl) (by kernel_rfl) (by kernel_rfl) (fun _ _ _ h => h) (Or.inl ⟨by kernel_rfl, ?_⟩) (by assumption) ?_; rotate_left; focus (intro V9 hS9; obtain ⟨⟨⟨b, ba, bb, bx, by'⟩, _⟩, _⟩ := hS9; have by'0 := by'.cell 0; have by'1 := by'.cell 1; have by'2 := by'.cell 2; go_simp; (try (with_reducible rfl)); done))
    try simp only [Act.put, List.getElem_toArray, List.getElem_cons_succ, List.getElem_cons_zero, List.setIfInBounds_toArray, List.set_cons_succ, List.set_cons_zero]
    refine wpAnyW_ready (rs := [22]) (by kernel_rfl) (by simp) ?_
    refine AllReadyW.cons rfl (fun K hK => ?_) AllReadyW.nil
    go_simp
    refine (HS2.out u4 _ _ _ _ _ _ _ _ _ _ _ _ (HNgx.out.below HW.out) (HNgy.out.below HW.out)).mono ?_
    rintro e u5 ⟨rfl, hb⟩
    have HW := Lib.hid (HW.out.trans (hb.mono HW.out.size))
    refine hK.out _ _ ⟨⟨HSK.out u5 HW.out, (HRK.out u5 hb).1⟩, (HRK.out u5 hb).2⟩ (fun hS1 => ?_)
    clear hK K
    try simp only [Act.put, List.getElem_toArray, List.getElem_cons_succ, List.getElem_cons_zero, List.setIfInBounds_toArray, List.set_cons_succ, List.set_cons_zero]
    (refine wpAnyW_take (i := 23) (v := ?_) rfl (by kernel_rfl) (by kernel_rfl) (by kernel_rfl) (by kernel_rfl) (fun _ _ _ h => h) (Or.inl ⟨by kernel_rfl, ?_⟩) (by assumption) ?_; rotate_left; focus (intro V9 hS9; go_simp; (try (with_reducible rfl)); done))
    try simp only [Act.put, List.getElem_toArray, List.getElem_cons_succ, List.getElem_cons_zero, List.setIfInBounds_toArray, List.set_cons_succ, List.set_cons_zero]
    (refine wpAnyW_take (i := 24) (v := ?_) rfl (by kernel_rfl) (by kernel_rfl) (by kernel_rfl) (by kernel_rfl) (fun _ _ _ h => h) (Or.inl ⟨by kernel_rfl, ?_⟩) (by assumption) ?_; rotate_left; focus (intro V9 hS9; go_simp; (try (with_reducible rfl)); done))
    try simp only [Act.put, List.getElem_toArray, List.getElem_cons_succ, List.getElem_cons_zero, List.setIfInBounds_toArray, List.set_cons_succ, List.set_cons_zero]
    (refine wpAnyW_take (i := 25) (v := ?_) rfl (by kernel_rfl) (by kernel_rfl) (by kernel_rfl) (by kernel_rfl) (fun _ _ _ h => h) (Or.inl ⟨by kernel_rfl, ?_⟩) (by assumption) ?_; rotate_left; focus (intro V9 hS9; go_simp; (try (with_reducible rfl)); done))
    try simp only [Act.put, List.getElem_toArray, List.getElem_cons_succ, List.getElem_cons_zero, List.setIfInBounds_toArray, List.set_cons_succ, List.set_cons_zero]
    (refine wpAnyW_take (i := 27) (v := ?_) rfl (by kernel_rfl) (by kernel_rfl) (by kernel_rfl) (by kernel_rfl) (fun _ _ _ h => h) (Or.inl ⟨by kernel_rfl, ?_⟩) (by assumption) ?_; rotate_left; focus (intro V9 hS9; go_simp; (try (with_reducible rfl)); done))
    try simp only [Act.put, List.getElem_toArray, List.getElem_cons_succ, List.getElem_cons_zero, List.setIfInBounds_toArray, List.set_cons_succ, List.set_cons_zero]
    refine wpAnyW_ready (rs := [26]) (by kernel_rfl) (by simp) ?_
    refine AllReadyW.cons rfl (fun K hK => ?_) AllReadyW.nil
    go_simp
    refine (hnum_v _ _).mono ?_
    rintro e u6 ⟨rfl, rfl⟩
    refine hK.out _ _ hS1 (fun hS1 => ?_)
    clear hK K
    try simp only [Act.put, List.getElem_toArray, List.getElem_cons_succ, List.getElem_cons_zero, List.setIfInBounds_toArray, List.set_cons_succ, List.set_cons_zero]
    (refine wpAnyW_take (i := 28) (v := ?_) rfl (by kernel_rfl) (by kernel_rfl) (by kernel_rfl) (by kernel_rfl) (fun _ _ _ h => h) (Or.inl ⟨by kernel_rfl, ?_⟩) (by assumption) ?_; rotate_left; focus (intro V9 hS9; go_simp; (try (with_reducible rfl)); done))
    try simp only [Act.put, List.getElem_toArray, List.getElem_cons_succ, List.getElem_cons_zero, List.setIfInBounds_toArray, List.set_cons_succ, List.set_cons_zero]
    (refine wpAnyW_take (i := 29) (v := ?_) rfl (by kernel_rfl) (by kernel_rfl) (by kernel_rfl) (by kernel_rfl) (fun _ _ _ h => h) (Or.inl ⟨by kernel_rfl, ?_⟩) (by assumption) ?_; rotate_left; focus (intro V9 hS9; go_simp; (try (with_reducible rfl)); done))
    try simp only [Act.put, List.getElem_toArray, List.getElem_cons_succ, List.getElem_cons_zero, List.setIfInBounds_toArray, List.set_cons_succ, List.set_cons_zero]
    (refine wpAnyW_take (i := 30) (v := ?_) rfl (by kernel_rfl) (by kernel_rfl) (by kernel_rfl) (by kernel_rfl) (fun _ _ _ h => h) (Or.inl ⟨by kernel_rfl, ?_⟩) (by assumption) ?_; rotate_left; focus (intro V9 hS9; go_simp; (try (with_reducible rfl)); done))
    try simp only [Act.put, List.getElem_toArray, List.getElem_cons_succ, List.getElem_cons_zero, List.setIfInBounds_toArray, List.set_cons_succ, List.set_cons_zero]
    refine wpAnyW_ready (rs := [31]) (by kernel_rfl) (by simp) ?_
    refine AllReadyW.consE rfl (by kernel_rfl) (fun K hK => ?_) AllReadyW.nil
    go_simp
    refine (live_from (HB.out.trans (HW.out.mono HB.out.size))).mono ?_
    rintro e u7 ⟨rfl, hb7⟩
    refine hK.out _ _ ?_
    clear hK K
    try simp only [Act.put, List.getElem_toArray, List.getElem_cons_succ, List.getElem_cons_zero, List.setIfInBounds_toArray, List.set_cons_succ, List.set_cons_zero]
    refine wpAnyW_ready (rs := [32]) (by kernel_rfl) (by simp) ?_
    refine AllReadyW.consE rfl (by kernel_rfl) (fun K hK => ?_) AllReadyW.nil
    go_simp
    refine hK.out _ _ ?_
    clear hK K
    try simp only [Act.put, List.getElem_toArray, List.getElem_cons_succ, List.getElem_cons_zero, List.setIfInBounds_toArray, List.set_cons_succ, List.set_cons_zero]
    refine wpAnyW_ready (rs := [33]) (by kernel_rfl) (by simp) ?_
    refine AllReadyW.consE rfl (by kernel_rfl) (fun K hK => ?_) AllReadyW.nil
    go_simp
    refine hK.out _ _ ?_
    clear hK K
    refine wpAnyW_done (by kernel_rfl) ?_ _
    go_wp2
    go_ret
    exact ⟨rfl, hb7⟩
end
end
end Go.Proofs.Ytefnjplfemgibaa
