/- Heap (layer 9): HeapBack, the walk. Written by hpback.py. -/
import Derived.Test.YtefnjplfemgibaaHpT
import Derived.Test.YtefnjplfemgibaaHpU
import Derived.Test.YtefnjplfemgibaaHpV
import Derived.Test.YtefnjplfemgibaaHpX
namespace Go.Proofs.Ytefnjplfemgibaa
open Go.RowKit
set_option linter.unusedVariables false

def iiv (z : Int) : Value := .int .i64 z
section
variable {w W V V' : World} {Aw Aa Ar A1 A2 : Option Addr} {lw cw la ca lr cr n1 n2 c1 c2 : Nat} {ws rs : List Nat} {nm : List (List UInt8)} {l m : List TV}
theorem backT : ElT Try.prog 55 3 (.int .i64 0) 1 8 := ⟨Try.underlying55, by kernel_rfl, rfl, by omega⟩
theorem own_rdki {W : World} {base e n : Nat} {A : Option Addr} {c : Nat} {z : List Int} (h : W.ownsRow base e 1 (.slice A n c) n (z.map iiv)) : RdK .i64 W A z := by
  have hl : z.length = n := by have := h.1; simpa using this
  rcases h.2 with ⟨_, rfl⟩ | ⟨g, cap, cur, hv, _⟩
  · exact .inl (List.eq_nil_of_length_eq_zero hl)
  · obtain ⟨rfl, _, rfl⟩ := Value.slice.inj hv
    refine .inr ⟨g, 0, rfl, fun j hj => ?_⟩
    have hc := h.cells (g := g) rfl j (iiv (z[j]'hj)) (by simp [hj])
    rw [Addr.add_lit] at hc
    rw [hc]
    rfl
/-- A heap in new memory. -/
def HeapNew (V : World) (k1 k2 k3 : Nat) (wa : List Nat) (na : List (List UInt8)) (ra : List Nat) (e : Ending) (w' : World) : Prop :=
  Below V.heap.size V w' ∧ ∃ Bw dw Ba da Br dr, e = .returned (.tuple #[.agg #[.slice Bw k1 dw, .slice Ba k2 da, .slice Br k3 dr], .int .i64 0]) ∧ HRd w' Bw k1 dw Ba k2 da Br k3 dr wa na ra
theorem hlay_ok {A : Option Addr} {n c : Nat} (hl : l.length = n) (hnm : TV.namedL l) (hR : RdM V A c l) (hck : checkP l = 0) {k1 k2 k3 : Nat} {wa ra : List Nat} {na : List (List UInt8)} (e1 : (layS l).1.ws = wa) (e2 : (layS l).1.nm = na) (e3 : (layS l).2 = ra) (h1 : wa.length = k1) (h2 : na.length = k2) (h3 : ra.length = k3) :
    Calls Try.prog 11 #[.slice A n c] V (HeapNew V k1 k2 k3 wa na ra) := by
  have hf := lay_facts hck
  rw [e1, e2, e3] at hf
  refine (hlay_v l A n c V hl hnm hR).mono ?_
  rintro e w2 ⟨hb2, hq⟩
  rcases hq with ⟨hq, _⟩ | ⟨_, vw, va, vr, rfl, ho⟩
  · exact absurd hck hq
  · rw [e1, e2, e3] at ho
    have ow := ho.w
    have oa := ho.a
    have orr := ho.r
    rw [h1] at ow
    rw [h2] at oa
    rw [h3] at orr
    obtain ⟨Bw, dw, rfl⟩ := own_sl ow
    obtain ⟨Ba, da, rfl⟩ := own_sl oa
    obtain ⟨Br, dr, rfl⟩ := own_sl orr
    exact ⟨hb2, Bw, dw, Ba, da, Br, dr, rfl, ho.hrd hf.w64 hf.r64 h1 h2 h3⟩
theorem hcollect_ok (h : HRd V Aw lw cw Aa la ca Ar lr cr ws nm rs) {ts : List TV} (hrd : readP ws nm rs = .ok ts) (Ab : Option Addr) (cb : Nat) (hkb : RdK .i64 V Ab (allI lr)) (hnb : lr ≤ 1000000) {k1 k2 k3 : Nat} {wa ra : List Nat} {na : List (List UInt8)} (e1 : (layS ts).1.ws = wa) (e2 : (layS ts).1.nm = na) (e3 : (layS ts).2 = ra) (h1 : wa.length = k1) (h2 : na.length = k2) (h3 : ra.length = k3) :
    Calls Try.prog 24 #[.agg #[.slice Aw lw cw, .slice Aa la ca, .slice Ar lr cr], .slice Ab lr cb] V (HeapNew V k1 k2 k3 wa na ra) := by
  obtain ⟨hck, hcol⟩ := collect_all h.w64 h.r64 hrd
  rw [h.hlr] at hcol
  have hf := lay_facts hck
  rw [e1, e2, e3] at hf
  refine (hcollect_v V h (allI lr) Ab lr cb (allI_len lr) hkb hnb).mono ?_
  rintro e w2 ⟨hb2, _, hq⟩
  obtain ⟨vw, va, vr, rfl, ho⟩ := hq _ hcol
  rw [e1, e2, e3] at ho
  have ow := ho.w
  have oa := ho.a
  have orr := ho.r
  rw [h1] at ow
  rw [h2] at oa
  rw [h3] at orr
  obtain ⟨Bw, dw, rfl⟩ := own_sl ow
  obtain ⟨Ba, da, rfl⟩ := own_sl oa
  obtain ⟨Br, dr, rfl⟩ := own_sl orr
  exact ⟨hb2, Bw, dw, Ba, da, Br, dr, rfl, ho.hrd hf.w64 hf.r64 h1 h2 h3⟩
theorem hread_ok (h : HRd V Aw lw cw Aa la ca Ar lr cr ws nm rs) {ts : List TV} (hrd : readP ws nm rs = .ok ts) {n : Nat} (hn : ts.length = n) :
    Calls Try.prog 16 #[.agg #[.slice Aw lw cw, .slice Aa la ca, .slice Ar lr cr]] V fun e w' => Below V.heap.size V w' ∧ ∃ A c, e = .returned (.tuple #[.slice A n c, .int .i64 0]) ∧ RdM w' A c ts := by
  refine (hread_v V h).mono ?_
  rintro e w2 ⟨hb2, _, hq⟩
  obtain ⟨A, c, rfl, hL⟩ := hq ts hrd
  obtain ⟨A', n', c', e9, h8, h9⟩ := hL.val
  obtain ⟨rfl, rfl, rfl⟩ := Value.slice.inj e9
  exact ⟨hb2, A, c, by rw [hn], h9⟩
theorem hget_ok {A : Option Addr} {P : List UInt8} {z c : Nat} (hz : P.length = z) (hz9 : z ≤ 140737488351232) (hr : Rd V A P) (hg : getP P = some (ws, nm, rs)) {k1 k2 k3 : Nat} (h1 : ws.length = k1) (h2 : nm.length = k2) (h3 : rs.length = k3) :
    Calls Try.prog 23 #[.slice A z c] V (HeapNew V k1 k2 k3 ws nm rs) := by
  refine (hget_v A P z c V hz hz9 hr).mono ?_
  rintro e w2 ⟨hb2, _, hq⟩
  obtain ⟨Bw, dw, Ba, da, Br, dr, rfl, h9⟩ := hq ws nm rs hg
  rw [h1, h2, h3] at h9
  exact ⟨hb2, Bw, dw, Ba, da, Br, dr, by rw [h1, h2, h3], h9⟩
theorem back_sameH (ws rs : List Nat) (nm : List (List UInt8)) : sameH ws rs nm ws rs nm = true := by simp [sameH]
set_option maxRecDepth 100000 in
set_option maxHeartbeats 16000000 in
theorem back_in (w : World) (hl : l.length = n1) (hl2 : m.length = n2) (h1 : RdM w A1 c1 l) (h2 : RdM w A2 c2 m) (hnm1 : TV.namedL l) (hnm2 : TV.namedL m) (h : HRd w Aw lw cw Aa la ca Ar lr cr ws nm rs) (hs : ∀ s ∈ nm, s.length ≤ 140737488351232) :
    Calls Try.prog 7 #[.slice A1 n1 c1, .slice A2 n2 c2, .agg #[.slice Aw lw cw, .slice Aa la ca, .slice Ar lr cr]] w (Yes w) := by
  have HSM := Lib.hid (fun V (hV : Below w.heap.size w V) => small_v V (h.below hV) hs)
  have HCK1 := Lib.hid (fun V (hV : Below w.heap.size w V) => rcheck_any l A1 n1 c1 w V hl hnm1 hV h1)
  have HCK2 := Lib.hid (fun V (hV : Below w.heap.size w V) => rcheck_any m A2 n2 c2 w V hl2 hnm2 hV h2)
  have HFT1 := Lib.hid (fun V (hV : Below w.heap.size w V) => fits_any l A1 n1 c1 600 w V hl (by omega) (by omega) hV h1)
  have HFT2 := Lib.hid (fun V (hV : Below w.heap.size w V) => fits_any m A2 n2 c2 600 w V hl2 (by omega) (by omega) hV h2)
  have HIN := Lib.hid (And.intro hl (And.intro hl2 (And.intro h1 (And.intro h2 (And.intro hnm1 (And.intro hnm2 h))))))
  clear hl hl2 h1 h2 hnm1 hnm2 h hs
  obtain ⟨g, hg⟩ : ∃ g, w.heap.size = g := ⟨_, rfl⟩
  have HG := Lib.hid hg
  by_cases q1 : checkP l = 0
  rotate_left
  · obtain ⟨ck, hce⟩ : ∃ ck, checkP l = ck := ⟨_, rfl⟩
    rw [hce] at HCK1 q1
    have d1 : ((ck : Int) != 0) = true := by simpa using q1
    clear hce q1 HIN
    go_enter Try.func7, Try.ntmps7
    go_upto_region 1 with (fail)
    refine wp_world (fun V => Below w.heap.size w V ∧ Blk V g 29 #[.slice Aw lw cw, .slice Aa la ca, .slice Ar lr cr]) ⟨below_alloc _ _, by rw [← HG.out]; exact Blk.new _ _ _⟩ ?_
    rintro V0 ⟨hb, hk⟩
    have HB := Lib.hid hb
    have HK := Lib.hid hk
    have x0 := hk.cell 0
    have x1 := hk.cell 1
    have x2 := hk.cell 2
    clear hb hk hg
    go_wp2_with (first
          | (go_at_call 8; (with_reducible refine (HCK1.out _ HB.out).mono ?_); rintro e w1 ⟨rfl, hb⟩; have HB := Lib.hid (below_step HB.out hb); have hk := HK.out.keep hb; have HK := Lib.hid hk; have x0 := hk.cell 0; have x1 := hk.cell 1; have x2 := hk.cell 2; clear hb hk)
          | (go_at_call 8; (with_reducible refine (HCK2.out _ HB.out).mono ?_); rintro e w1 ⟨rfl, hb⟩; have HB := Lib.hid (below_step HB.out hb); have hk := HK.out.keep hb; have HK := Lib.hid hk; have x0 := hk.cell 0; have x1 := hk.cell 1; have x2 := hk.cell 2; clear hb hk)
          | (go_at_call 9; (with_reducible refine (HFT1.out _ HB.out).mono ?_); rintro e w1 ⟨rfl, hb⟩; have HB := Lib.hid (below_step HB.out hb); have hk := HK.out.keep hb; have HK := Lib.hid hk; have x0 := hk.cell 0; have x1 := hk.cell 1; have x2 := hk.cell 2; clear hb hk)
          | (go_at_call 9; (with_reducible refine (HFT2.out _ HB.out).mono ?_); rintro e w1 ⟨rfl, hb⟩; have HB := Lib.hid (below_step HB.out hb); have hk := HK.out.keep hb; have HK := Lib.hid hk; have x0 := hk.cell 0; have x1 := hk.cell 1; have x2 := hk.cell 2; clear hb hk)
          | (go_at_call 14; refine (HSM.out _ HB.out).mono ?_; rintro e w1 ⟨rfl, hb⟩; have HB := Lib.hid (below_step HB.out hb); have hk := HK.out.keep hb; have HK := Lib.hid hk; have x0 := hk.cell 0; have x1 := hk.cell 1; have x2 := hk.cell 2; clear hb hk)
          | (go_at_call 10; refine (live_from HB.out).mono ?_; rintro e w9 ⟨rfl, hb9⟩))
    go_ret
    exact ⟨rfl, hb9⟩
  rw [q1] at HCK1
  by_cases q2 : checkP m = 0
  rotate_left
  · obtain ⟨ck, hce⟩ : ∃ ck, checkP m = ck := ⟨_, rfl⟩
    rw [hce] at HCK2 q2
    have d1 : ((ck : Int) != 0) = true := by simpa using q2
    clear hce q1 q2 HIN
    go_enter Try.func7, Try.ntmps7
    go_upto_region 1 with (fail)
    refine wp_world (fun V => Below w.heap.size w V ∧ Blk V g 29 #[.slice Aw lw cw, .slice Aa la ca, .slice Ar lr cr]) ⟨below_alloc _ _, by rw [← HG.out]; exact Blk.new _ _ _⟩ ?_
    rintro V0 ⟨hb, hk⟩
    have HB := Lib.hid hb
    have HK := Lib.hid hk
    have x0 := hk.cell 0
    have x1 := hk.cell 1
    have x2 := hk.cell 2
    clear hb hk hg
    go_wp2_with (first
          | (go_at_call 8; (with_reducible refine (HCK1.out _ HB.out).mono ?_); rintro e w1 ⟨rfl, hb⟩; have HB := Lib.hid (below_step HB.out hb); have hk := HK.out.keep hb; have HK := Lib.hid hk; have x0 := hk.cell 0; have x1 := hk.cell 1; have x2 := hk.cell 2; clear hb hk)
          | (go_at_call 8; (with_reducible refine (HCK2.out _ HB.out).mono ?_); rintro e w1 ⟨rfl, hb⟩; have HB := Lib.hid (below_step HB.out hb); have hk := HK.out.keep hb; have HK := Lib.hid hk; have x0 := hk.cell 0; have x1 := hk.cell 1; have x2 := hk.cell 2; clear hb hk)
          | (go_at_call 9; (with_reducible refine (HFT1.out _ HB.out).mono ?_); rintro e w1 ⟨rfl, hb⟩; have HB := Lib.hid (below_step HB.out hb); have hk := HK.out.keep hb; have HK := Lib.hid hk; have x0 := hk.cell 0; have x1 := hk.cell 1; have x2 := hk.cell 2; clear hb hk)
          | (go_at_call 9; (with_reducible refine (HFT2.out _ HB.out).mono ?_); rintro e w1 ⟨rfl, hb⟩; have HB := Lib.hid (below_step HB.out hb); have hk := HK.out.keep hb; have HK := Lib.hid hk; have x0 := hk.cell 0; have x1 := hk.cell 1; have x2 := hk.cell 2; clear hb hk)
          | (go_at_call 14; refine (HSM.out _ HB.out).mono ?_; rintro e w1 ⟨rfl, hb⟩; have HB := Lib.hid (below_step HB.out hb); have hk := HK.out.keep hb; have HK := Lib.hid hk; have x0 := hk.cell 0; have x1 := hk.cell 1; have x2 := hk.cell 2; clear hb hk)
          | (go_at_call 10; refine (live_from HB.out).mono ?_; rintro e w9 ⟨rfl, hb9⟩))
    go_ret
    exact ⟨rfl, hb9⟩
  rw [q2] at HCK2
  by_cases q3 : (TV.partsL l : Int) ≤ 600
  rotate_left
  · rw [decide_eq_false q3] at HFT1
    clear q1 q2 q3 HIN
    go_enter Try.func7, Try.ntmps7
    go_upto_region 1 with (fail)
    refine wp_world (fun V => Below w.heap.size w V ∧ Blk V g 29 #[.slice Aw lw cw, .slice Aa la ca, .slice Ar lr cr]) ⟨below_alloc _ _, by rw [← HG.out]; exact Blk.new _ _ _⟩ ?_
    rintro V0 ⟨hb, hk⟩
    have HB := Lib.hid hb
    have HK := Lib.hid hk
    have x0 := hk.cell 0
    have x1 := hk.cell 1
    have x2 := hk.cell 2
    clear hb hk hg
    go_wp2_with (first
          | (go_at_call 8; (with_reducible refine (HCK1.out _ HB.out).mono ?_); rintro e w1 ⟨rfl, hb⟩; have HB := Lib.hid (below_step HB.out hb); have hk := HK.out.keep hb; have HK := Lib.hid hk; have x0 := hk.cell 0; have x1 := hk.cell 1; have x2 := hk.cell 2; clear hb hk)
          | (go_at_call 8; (with_reducible refine (HCK2.out _ HB.out).mono ?_); rintro e w1 ⟨rfl, hb⟩; have HB := Lib.hid (below_step HB.out hb); have hk := HK.out.keep hb; have HK := Lib.hid hk; have x0 := hk.cell 0; have x1 := hk.cell 1; have x2 := hk.cell 2; clear hb hk)
          | (go_at_call 9; (with_reducible refine (HFT1.out _ HB.out).mono ?_); rintro e w1 ⟨rfl, hb⟩; have HB := Lib.hid (below_step HB.out hb); have hk := HK.out.keep hb; have HK := Lib.hid hk; have x0 := hk.cell 0; have x1 := hk.cell 1; have x2 := hk.cell 2; clear hb hk)
          | (go_at_call 9; (with_reducible refine (HFT2.out _ HB.out).mono ?_); rintro e w1 ⟨rfl, hb⟩; have HB := Lib.hid (below_step HB.out hb); have hk := HK.out.keep hb; have HK := Lib.hid hk; have x0 := hk.cell 0; have x1 := hk.cell 1; have x2 := hk.cell 2; clear hb hk)
          | (go_at_call 14; refine (HSM.out _ HB.out).mono ?_; rintro e w1 ⟨rfl, hb⟩; have HB := Lib.hid (below_step HB.out hb); have hk := HK.out.keep hb; have HK := Lib.hid hk; have x0 := hk.cell 0; have x1 := hk.cell 1; have x2 := hk.cell 2; clear hb hk)
          | (go_at_call 10; refine (live_from HB.out).mono ?_; rintro e w9 ⟨rfl, hb9⟩))
    go_ret
    exact ⟨rfl, hb9⟩
  rw [decide_eq_true q3] at HFT1
  by_cases q4 : (TV.partsL m : Int) ≤ 600
  rotate_left
  · rw [decide_eq_false q4] at HFT2
    clear q1 q2 q3 q4 HIN
    go_enter Try.func7, Try.ntmps7
    go_upto_region 1 with (fail)
    refine wp_world (fun V => Below w.heap.size w V ∧ Blk V g 29 #[.slice Aw lw cw, .slice Aa la ca, .slice Ar lr cr]) ⟨below_alloc _ _, by rw [← HG.out]; exact Blk.new _ _ _⟩ ?_
    rintro V0 ⟨hb, hk⟩
    have HB := Lib.hid hb
    have HK := Lib.hid hk
    have x0 := hk.cell 0
    have x1 := hk.cell 1
    have x2 := hk.cell 2
    clear hb hk hg
    go_wp2_with (first
          | (go_at_call 8; (with_reducible refine (HCK1.out _ HB.out).mono ?_); rintro e w1 ⟨rfl, hb⟩; have HB := Lib.hid (below_step HB.out hb); have hk := HK.out.keep hb; have HK := Lib.hid hk; have x0 := hk.cell 0; have x1 := hk.cell 1; have x2 := hk.cell 2; clear hb hk)
          | (go_at_call 8; (with_reducible refine (HCK2.out _ HB.out).mono ?_); rintro e w1 ⟨rfl, hb⟩; have HB := Lib.hid (below_step HB.out hb); have hk := HK.out.keep hb; have HK := Lib.hid hk; have x0 := hk.cell 0; have x1 := hk.cell 1; have x2 := hk.cell 2; clear hb hk)
          | (go_at_call 9; (with_reducible refine (HFT1.out _ HB.out).mono ?_); rintro e w1 ⟨rfl, hb⟩; have HB := Lib.hid (below_step HB.out hb); have hk := HK.out.keep hb; have HK := Lib.hid hk; have x0 := hk.cell 0; have x1 := hk.cell 1; have x2 := hk.cell 2; clear hb hk)
          | (go_at_call 9; (with_reducible refine (HFT2.out _ HB.out).mono ?_); rintro e w1 ⟨rfl, hb⟩; have HB := Lib.hid (below_step HB.out hb); have hk := HK.out.keep hb; have HK := Lib.hid hk; have x0 := hk.cell 0; have x1 := hk.cell 1; have x2 := hk.cell 2; clear hb hk)
          | (go_at_call 14; refine (HSM.out _ HB.out).mono ?_; rintro e w1 ⟨rfl, hb⟩; have HB := Lib.hid (below_step HB.out hb); have hk := HK.out.keep hb; have HK := Lib.hid hk; have x0 := hk.cell 0; have x1 := hk.cell 1; have x2 := hk.cell 2; clear hb hk)
          | (go_at_call 10; refine (live_from HB.out).mono ?_; rintro e w9 ⟨rfl, hb9⟩))
    go_ret
    exact ⟨rfl, hb9⟩
  rw [decide_eq_true q4] at HFT2
  by_cases q5 : smallH ws nm rs = true
  rotate_left
  · rw [eq_false_of_ne_true q5] at HSM
    clear q1 q2 q3 q4 q5 HIN
    go_enter Try.func7, Try.ntmps7
    go_upto_region 1 with (fail)
    refine wp_world (fun V => Below w.heap.size w V ∧ Blk V g 29 #[.slice Aw lw cw, .slice Aa la ca, .slice Ar lr cr]) ⟨below_alloc _ _, by rw [← HG.out]; exact Blk.new _ _ _⟩ ?_
    rintro V0 ⟨hb, hk⟩
    have HB := Lib.hid hb
    have HK := Lib.hid hk
    have x0 := hk.cell 0
    have x1 := hk.cell 1
    have x2 := hk.cell 2
    clear hb hk hg
    go_wp2_with (first
          | (go_at_call 8; (with_reducible refine (HCK1.out _ HB.out).mono ?_); rintro e w1 ⟨rfl, hb⟩; have HB := Lib.hid (below_step HB.out hb); have hk := HK.out.keep hb; have HK := Lib.hid hk; have x0 := hk.cell 0; have x1 := hk.cell 1; have x2 := hk.cell 2; clear hb hk)
          | (go_at_call 8; (with_reducible refine (HCK2.out _ HB.out).mono ?_); rintro e w1 ⟨rfl, hb⟩; have HB := Lib.hid (below_step HB.out hb); have hk := HK.out.keep hb; have HK := Lib.hid hk; have x0 := hk.cell 0; have x1 := hk.cell 1; have x2 := hk.cell 2; clear hb hk)
          | (go_at_call 9; (with_reducible refine (HFT1.out _ HB.out).mono ?_); rintro e w1 ⟨rfl, hb⟩; have HB := Lib.hid (below_step HB.out hb); have hk := HK.out.keep hb; have HK := Lib.hid hk; have x0 := hk.cell 0; have x1 := hk.cell 1; have x2 := hk.cell 2; clear hb hk)
          | (go_at_call 9; (with_reducible refine (HFT2.out _ HB.out).mono ?_); rintro e w1 ⟨rfl, hb⟩; have HB := Lib.hid (below_step HB.out hb); have hk := HK.out.keep hb; have HK := Lib.hid hk; have x0 := hk.cell 0; have x1 := hk.cell 1; have x2 := hk.cell 2; clear hb hk)
          | (go_at_call 14; refine (HSM.out _ HB.out).mono ?_; rintro e w1 ⟨rfl, hb⟩; have HB := Lib.hid (below_step HB.out hb); have hk := HK.out.keep hb; have HK := Lib.hid hk; have x0 := hk.cell 0; have x1 := hk.cell 1; have x2 := hk.cell 2; clear hb hk)
          | (go_at_call 10; refine (live_from HB.out).mono ?_; rintro e w9 ⟨rfl, hb9⟩))
    go_ret
    exact ⟨rfl, hb9⟩
  rw [q5] at HSM
  by_cases q6 : 100 < lr
  · have d1 : decide (100 < lr) = true := by simpa using q6
    have d2 : decide ((100 : Int) < (lr : Int)) = true := by simp; omega
    clear q1 q2 q3 q4 q5 HIN
    go_enter Try.func7, Try.ntmps7
    go_upto_region 1 with (fail)
    refine wp_world (fun V => Below w.heap.size w V ∧ Blk V g 29 #[.slice Aw lw cw, .slice Aa la ca, .slice Ar lr cr]) ⟨below_alloc _ _, by rw [← HG.out]; exact Blk.new _ _ _⟩ ?_
    rintro V0 ⟨hb, hk⟩
    have HB := Lib.hid hb
    have HK := Lib.hid hk
    have x0 := hk.cell 0
    have x1 := hk.cell 1
    have x2 := hk.cell 2
    clear hb hk hg
    go_wp2_with (first
          | (go_at_call 8; (with_reducible refine (HCK1.out _ HB.out).mono ?_); rintro e w1 ⟨rfl, hb⟩; have HB := Lib.hid (below_step HB.out hb); have hk := HK.out.keep hb; have HK := Lib.hid hk; have x0 := hk.cell 0; have x1 := hk.cell 1; have x2 := hk.cell 2; clear hb hk)
          | (go_at_call 8; (with_reducible refine (HCK2.out _ HB.out).mono ?_); rintro e w1 ⟨rfl, hb⟩; have HB := Lib.hid (below_step HB.out hb); have hk := HK.out.keep hb; have HK := Lib.hid hk; have x0 := hk.cell 0; have x1 := hk.cell 1; have x2 := hk.cell 2; clear hb hk)
          | (go_at_call 9; (with_reducible refine (HFT1.out _ HB.out).mono ?_); rintro e w1 ⟨rfl, hb⟩; have HB := Lib.hid (below_step HB.out hb); have hk := HK.out.keep hb; have HK := Lib.hid hk; have x0 := hk.cell 0; have x1 := hk.cell 1; have x2 := hk.cell 2; clear hb hk)
          | (go_at_call 9; (with_reducible refine (HFT2.out _ HB.out).mono ?_); rintro e w1 ⟨rfl, hb⟩; have HB := Lib.hid (below_step HB.out hb); have hk := HK.out.keep hb; have HK := Lib.hid hk; have x0 := hk.cell 0; have x1 := hk.cell 1; have x2 := hk.cell 2; clear hb hk)
          | (go_at_call 14; refine (HSM.out _ HB.out).mono ?_; rintro e w1 ⟨rfl, hb⟩; have HB := Lib.hid (below_step HB.out hb); have hk := HK.out.keep hb; have HK := Lib.hid hk; have x0 := hk.cell 0; have x1 := hk.cell 1; have x2 := hk.cell 2; clear hb hk)
          | (go_at_call 10; refine (live_from HB.out).mono ?_; rintro e w9 ⟨rfl, hb9⟩))
    go_ret
    exact ⟨rfl, hb9⟩
  have d6 : decide (100 < lr) = false := by simpa using q6
  have d62 : decide ((100 : Int) < (lr : Int)) = false := by simp; omega
  have hlr9 : lr ≤ 100 := by omega
  obtain ⟨k1, k2, k3, k4⟩ := of_decide_eq_true q5
  have HQ := Lib.hid (And.intro q1 (And.intro q2 (And.intro k4 (And.intro (show lw ≤ 5000 by rw [← HIN.out.2.2.2.2.2.2.hlw]; exact k2) (show la ≤ 5000 by rw [← HIN.out.2.2.2.2.2.2.hla]; exact k1)))))
  clear q1 q2 q3 q4 q5 q6 k1 k2 k3 k4
  go_enter Try.func7, Try.ntmps7
  go_upto_region 1 with (fail)
  refine wp_world (fun V => Below w.heap.size w V ∧ Blk V g 29 #[.slice Aw lw cw, .slice Aa la ca, .slice Ar lr cr]) ⟨below_alloc _ _, by rw [← HG.out]; exact Blk.new _ _ _⟩ ?_
  rintro V0 ⟨hb, hk⟩
  have HB := Lib.hid hb
  have HK := Lib.hid hk
  have x0 := hk.cell 0
  have x1 := hk.cell 1
  have x2 := hk.cell 2
  clear hb hk hg
  go_upto_region 3 with (first
      | (go_at_call 8; (with_reducible refine (HCK1.out _ HB.out).mono ?_); rintro e w1 ⟨rfl, hb⟩; have HB := Lib.hid (below_step HB.out hb); have hk := HK.out.keep hb; have HK := Lib.hid hk; have x0 := hk.cell 0; have x1 := hk.cell 1; have x2 := hk.cell 2; clear hb hk)
      | (go_at_call 8; (with_reducible refine (HCK2.out _ HB.out).mono ?_); rintro e w1 ⟨rfl, hb⟩; have HB := Lib.hid (below_step HB.out hb); have hk := HK.out.keep hb; have HK := Lib.hid hk; have x0 := hk.cell 0; have x1 := hk.cell 1; have x2 := hk.cell 2; clear hb hk)
      | (go_at_call 9; (with_reducible refine (HFT1.out _ HB.out).mono ?_); rintro e w1 ⟨rfl, hb⟩; have HB := Lib.hid (below_step HB.out hb); have hk := HK.out.keep hb; have HK := Lib.hid hk; have x0 := hk.cell 0; have x1 := hk.cell 1; have x2 := hk.cell 2; clear hb hk)
      | (go_at_call 9; (with_reducible refine (HFT2.out _ HB.out).mono ?_); rintro e w1 ⟨rfl, hb⟩; have HB := Lib.hid (below_step HB.out hb); have hk := HK.out.keep hb; have HK := Lib.hid hk; have x0 := hk.cell 0; have x1 := hk.cell 1; have x2 := hk.cell 2; clear hb hk)
      | (go_at_call 14; refine (HSM.out _ HB.out).mono ?_; rintro e w1 ⟨rfl, hb⟩; have HB := Lib.hid (below_step HB.out hb); have hk := HK.out.keep hb; have HK := Lib.hid hk; have x0 := hk.cell 0; have x1 := hk.cell 1; have x2 := hk.cell 2; clear hb hk)
      | (go_at_call 10; refine (live_from HB.out).mono ?_; rintro e w9 ⟨rfl, hb9⟩))
  obtain ⟨wa, ewa⟩ : ∃ x, (layS l).1.ws = x := ⟨_, rfl⟩
  obtain ⟨na, ena⟩ : ∃ x, (layS l).1.nm = x := ⟨_, rfl⟩
  obtain ⟨ra, era⟩ : ∃ x, (layS l).2 = x := ⟨_, rfl⟩
  obtain ⟨wb, ewb⟩ : ∃ x, (layS m).1.ws = x := ⟨_, rfl⟩
  obtain ⟨nb, enb⟩ : ∃ x, (layS m).1.nm = x := ⟨_, rfl⟩
  obtain ⟨rb, erb⟩ : ∃ x, (layS m).2 = x := ⟨_, rfl⟩
  have hfa := lay_facts HQ.out.1
  have hfb := lay_facts HQ.out.2.1
  have hsm := lay_same HQ.out.1 HQ.out.2.1
  rw [ewa, ena, era] at hfa
  rw [ewb, enb, erb] at hfb
  rw [ewa, ena, era, ewb, enb, erb] at hsm
  obtain ⟨i1, ei1⟩ : ∃ x, wa.length = x := ⟨_, rfl⟩
  obtain ⟨i2, ei2⟩ : ∃ x, na.length = x := ⟨_, rfl⟩
  obtain ⟨i3, ei3⟩ : ∃ x, ra.length = x := ⟨_, rfl⟩
  obtain ⟨j1, ej1⟩ : ∃ x, wb.length = x := ⟨_, rfl⟩
  obtain ⟨j2, ej2⟩ : ∃ x, nb.length = x := ⟨_, rfl⟩
  obtain ⟨j3, ej3⟩ : ∃ x, rb.length = x := ⟨_, rfl⟩
  have HLA := Lib.hid (fun V (hV : Below w.heap.size w V) => hlay_ok (V := V) HIN.out.1 HIN.out.2.2.2.2.1 (HIN.out.2.2.1.below hV) HQ.out.1 ewa ena era ei1 ei2 ei3)
  have HLB := Lib.hid (fun V (hV : Below w.heap.size w V) => hlay_ok (V := V) HIN.out.2.1 HIN.out.2.2.2.2.2.1 (HIN.out.2.2.2.1.below hV) HQ.out.2.1 ewb enb erb ej1 ej2 ej3)
  have HRA := Lib.hid hfa.read
  have HSAB := Lib.hid hsm
  have hi : i1 ≤ 1000000 ∧ i2 ≤ 1000000 ∧ i3 ≤ 1000000 := ⟨by have := hfa.lw; omega, by have := hfa.la; omega, by have := hfa.lr; have := len_parts l; have := (hcheck_le HQ.out.1).1; omega⟩
  have hj : j1 ≤ 1000000 ∧ j2 ≤ 1000000 ∧ j3 ≤ 1000000 := ⟨by have := hfb.lw; omega, by have := hfb.la; omega, by have := hfb.lr; have := len_parts m; have := (hcheck_le HQ.out.2.1).1; omega⟩
  have HI := Lib.hid hi
  have HJ := Lib.hid hj
  clear ewa ena era ewb enb erb hfa hfb hsm ei1 ei2 ei3 ej1 ej2 ej3 hi hj HCK1 HCK2 HFT1 HFT2 HSM
  refine wp_world (fun V => Below w.heap.size w V ∧ Blk V g 29 #[.slice Aw lw cw, .slice Aa la ca, .slice Ar lr cr]) ⟨below_step HB.out (Below.refl _ _), HK.out.keep (Below.refl _ _)⟩ ?_
  clear HB HK
  rintro V10 ⟨h09, h19⟩
  have HB := Lib.hid h09
  have HK := Lib.hid h19
  clear h09 h19
  go_upto_region 4 with (go_at_call 11; refine (HLA.out _ HB.out).mono ?_; rintro e w2 ⟨hb, Baw, dBaw, Baa, dBaa, Bar, dBar, rfl, hR⟩)
  obtain ⟨ga, hgx⟩ : ∃ g, w2.heap.size = g := ⟨_, rfl⟩
  rw [hgx]
  refine wp_world (fun V => Below w.heap.size w V ∧ Blk V g 29 #[.slice Aw lw cw, .slice Aa la ca, .slice Ar lr cr] ∧ Blk V ga 29 #[.slice Baw i1 dBaw, .slice Baa i2 dBaa, .slice Bar i3 dBar] ∧ HRd V Baw i1 dBaw Baa i2 dBaa Bar i3 dBar wa na ra) ⟨below_step HB.out (below_step hb (below_alloc _ _)), HK.out.keep (below_step hb (below_alloc _ _)), by rw [← hgx]; exact Blk.new _ _ _, hR.below (below_alloc _ _)⟩ ?_
  clear HB HK
  rintro V11 ⟨h09, h19, h29, h39⟩
  have HB := Lib.hid h09
  have HK := Lib.hid h19
  have HKA := Lib.hid h29
  have HRDA := Lib.hid h39
  clear h09 h19 h29 h39
  clear hb hR hgx
  go_upto_region 5 with (go_at_call 11; refine (HLB.out _ HB.out).mono ?_; rintro e w2 ⟨hb, Bbw, dBbw, Bba, dBba, Bbr, dBbr, rfl, hR⟩)
  obtain ⟨gb, hgx⟩ : ∃ g, w2.heap.size = g := ⟨_, rfl⟩
  rw [hgx]
  refine wp_world (fun V => Below w.heap.size w V ∧ Blk V g 29 #[.slice Aw lw cw, .slice Aa la ca, .slice Ar lr cr] ∧ Blk V ga 29 #[.slice Baw i1 dBaw, .slice Baa i2 dBaa, .slice Bar i3 dBar] ∧ HRd V Baw i1 dBaw Baa i2 dBaa Bar i3 dBar wa na ra ∧ Blk V gb 29 #[.slice Bbw j1 dBbw, .slice Bba j2 dBba, .slice Bbr j3 dBbr] ∧ HRd V Bbw j1 dBbw Bba j2 dBba Bbr j3 dBbr wb nb rb) ⟨below_step HB.out (below_step hb (below_alloc _ _)), HK.out.keep (below_step hb (below_alloc _ _)), HKA.out.keep (below_step hb (below_alloc _ _)), HRDA.out.below (below_step hb (below_alloc _ _)), by rw [← hgx]; exact Blk.new _ _ _, hR.below (below_alloc _ _)⟩ ?_
  clear HB HK HKA HRDA
  rintro V12 ⟨h09, h19, h29, h39, h49, h59⟩
  have HB := Lib.hid h09
  have HK := Lib.hid h19
  have HKA := Lib.hid h29
  have HRDA := Lib.hid h39
  have HKB := Lib.hid h49
  have HRDB := Lib.hid h59
  clear h09 h19 h29 h39 h49 h59
  clear hb hR hgx HLA HLB
  have a0 := HKA.out.cell 0
  have a1 := HKA.out.cell 1
  have a2 := HKA.out.cell 2
  have HRX := Lib.hid (hread_ok HRDA.out HRA.out HIN.out.1)
  go_upto_region 6 with (go_at_call 16; refine HRX.out.mono ?_; rintro e w2 ⟨hb, Ax, cx, rfl, hX⟩)
  clear HRX a0 a1 a2
  refine wp_world (fun V => Below w.heap.size w V ∧ Blk V g 29 #[.slice Aw lw cw, .slice Aa la ca, .slice Ar lr cr] ∧ Blk V ga 29 #[.slice Baw i1 dBaw, .slice Baa i2 dBaa, .slice Bar i3 dBar] ∧ HRd V Baw i1 dBaw Baa i2 dBaa Bar i3 dBar wa na ra ∧ Blk V gb 29 #[.slice Bbw j1 dBbw, .slice Bba j2 dBba, .slice Bbr j3 dBbr] ∧ HRd V Bbw j1 dBbw Bba j2 dBba Bbr j3 dBbr wb nb rb ∧ RdM V Ax cx l) ⟨below_step HB.out hb, HK.out.keep hb, HKA.out.keep hb, HRDA.out.below hb, HKB.out.keep hb, HRDB.out.below hb, hX⟩ ?_
  clear HB HK HKA HRDA HKB HRDB
  rintro V13 ⟨h09, h19, h29, h39, h49, h59, h69⟩
  have HB := Lib.hid h09
  have HK := Lib.hid h19
  have HKA := Lib.hid h29
  have HRDA := Lib.hid h39
  have HKB := Lib.hid h49
  have HRDB := Lib.hid h59
  have HX := Lib.hid h69
  clear h09 h19 h29 h39 h49 h59 h69
  clear hb hX
  have HROW1 := Lib.hid (fun V (hV : Below V13.heap.size V13 V) => rows_any l l Ax n1 cx A1 n1 c1 V13 V HIN.out.1 HIN.out.1 hV HX.out (HIN.out.2.2.1.below HB.out))
  have HROW2 := Lib.hid (fun V (hV : Below V13.heap.size V13 V) => rows_any l m A1 n1 c1 A2 n2 c2 V13 V HIN.out.1 HIN.out.2.1 hV (HIN.out.2.2.1.below HB.out) (HIN.out.2.2.2.1.below HB.out))
  have HSM := Lib.hid (fun V (hV : Below V13.heap.size V13 V) => rSame_v V (HRDA.out.below hV) (HRDB.out.below hV) HI.out HJ.out)
  rw [rowsB_self] at HROW1
  rw [HSAB.out] at HSM
  generalize rowsB l m = bb at *
  have HC := Lib.hid (Below.refl V13.heap.size V13)
  have HKA2 := HKA
  have HKB2 := HKB
  have a0 := HKA.out.cell 0
  have a1 := HKA.out.cell 1
  have a2 := HKA.out.cell 2
  have b0 := HKB.out.cell 0
  have b1 := HKB.out.cell 1
  have b2 := HKB.out.cell 2
  go_upto_region 8 with (first
    | (go_at_call 12; refine (hnum_v _ _).mono ?_; rintro e w' ⟨rfl, rfl⟩)
    | (go_at_call 20; (with_reducible refine (HROW1.out _ HC.out).mono ?_); rintro e w2 ⟨rfl, hb⟩; have HC := Lib.hid (below_step HC.out hb); have hka := HKA2.out.keep hb; have HKA2 := Lib.hid hka; have a0 := hka.cell 0; have a1 := hka.cell 1; have a2 := hka.cell 2; have hkb := HKB2.out.keep hb; have HKB2 := Lib.hid hkb; have b0 := hkb.cell 0; have b1 := hkb.cell 1; have b2 := hkb.cell 2; clear hb hka hkb)
    | (go_at_call 20; (with_reducible refine (HROW2.out _ HC.out).mono ?_); rintro e w2 ⟨rfl, hb⟩; have HC := Lib.hid (below_step HC.out hb); have hka := HKA2.out.keep hb; have HKA2 := Lib.hid hka; have a0 := hka.cell 0; have a1 := hka.cell 1; have a2 := hka.cell 2; have hkb := HKB2.out.keep hb; have HKB2 := Lib.hid hkb; have b0 := hkb.cell 0; have b1 := hkb.cell 1; have b2 := hkb.cell 2; clear hb hka hkb)
    | (go_at_call 19; refine (HSM.out _ HC.out).mono ?_; rintro e w2 ⟨rfl, hb⟩; have HC := Lib.hid (below_step HC.out hb); have hka := HKA2.out.keep hb; have HKA2 := Lib.hid hka; have a0 := hka.cell 0; have a1 := hka.cell 1; have a2 := hka.cell 2; have hkb := HKB2.out.keep hb; have HKB2 := Lib.hid hkb; have b0 := hkb.cell 0; have b1 := hkb.cell 1; have b2 := hkb.cell 2; clear hb hka hkb))
  refine wp_world (fun V => Below w.heap.size w V ∧ Blk V g 29 #[.slice Aw lw cw, .slice Aa la ca, .slice Ar lr cr]) ⟨below_step HB.out HC.out, HK.out.keep HC.out⟩ ?_
  clear HB HK HKA HRDA HKB HRDB HX
  rintro V14 ⟨h09, h19⟩
  have HB := Lib.hid h09
  have HK := Lib.hid h19
  clear h09 h19
  clear HC HKA2 HKB2 HROW1 HROW2 HSM HSAB HRA a0 a1 a2 b0 b1 b2
  have x0 := HK.out.cell 0
  have x1 := HK.out.cell 1
  have x2 := HK.out.cell 2
  have HH := Lib.hid (HIN.out.2.2.2.2.2.2.below HB.out)
  cases hQ : readP ws nm rs with
  | error er =>
    have HRY := Lib.hid (hread_v _ HH.out)
    rw [hQ] at HRY
    clear hQ
    go_upto_region 9 with (go_at_call 16; refine HRY.out.mono ?_; rintro e w2 ⟨hb, hq, _⟩; obtain ⟨hne, rfl⟩ := hq er rfl)
    have d1 : ((er : Int) != 0) = true := by simpa using hne
    refine wp_world (fun V => Below w.heap.size w V) (below_step HB.out hb) ?_
    clear hb HB HK HH HRY x0 x1 x2 hne
    rintro V9 hb
    have HB := Lib.hid hb
    clear hb
    go_wp2_with (first
      | (go_at_call 12; refine (hnum_v _ _).mono ?_; rintro e w' ⟨rfl, rfl⟩)
      | (go_at_call 10; refine (live_from HB.out).mono ?_; rintro e w9 ⟨rfl, hb9⟩))
    go_ret
    exact ⟨rfl, hb9⟩
  | ok ts =>
    obtain ⟨nt, hnt⟩ : ∃ n, ts.length = n := ⟨_, rfl⟩
    have hrl := readP_isL HH.out.w64 HH.out.r64 hQ
    obtain rfl : nt = lr := by rw [← hnt, hrl.2.2, HH.out.hlr]
    have HNT := Lib.hid hnt
    have HQQ := Lib.hid hQ
    have HRY := Lib.hid (hread_ok HH.out hQ hnt)
    clear hQ hrl hnt
    go_upto_region 9 with (go_at_call 16; refine HRY.out.mono ?_; rintro e w2 ⟨hb, Ay, cy, rfl, hY⟩)
    clear HRY
    refine wp_world (fun V => Below w.heap.size w V ∧ Blk V g 29 #[.slice Aw lw cw, .slice Aa la ca, .slice Ar nt cr] ∧ RdM V Ay cy ts) ⟨below_step HB.out hb, HK.out.keep hb, hY⟩ ?_
    clear HB HK
    rintro V15 ⟨h09, h19, h29⟩
    have HB := Lib.hid h09
    have HK := Lib.hid h19
    have HY := Lib.hid h29
    clear h09 h19 h29
    clear hb hY HH x0 x1 x2
    have HFT := Lib.hid (fits_any ts Ay nt cy 600 _ _ HNT.out (by omega) (by omega) (Below.refl V15.heap.size V15) HY.out)
    by_cases q7 : (TV.partsL ts : Int) ≤ 600
    rotate_left
    · rw [decide_eq_false q7] at HFT
      clear q7
      go_wp2_with (first
        | (go_at_call 12; refine (hnum_v _ _).mono ?_; rintro e w' ⟨rfl, rfl⟩)
        | (go_at_call 9; refine HFT.out.mono ?_; rintro e w2 ⟨rfl, hb⟩)
        | (go_at_call 10; refine (live_from (below_step HB.out hb)).mono ?_; rintro e w9 ⟨rfl, hb9⟩))
      go_ret
      exact ⟨rfl, hb9⟩
    rw [decide_eq_true q7] at HFT
    clear q7
    go_upto_region 12 with (first
      | (go_at_call 12; refine (hnum_v _ _).mono ?_; rintro e w' ⟨rfl, rfl⟩)
      | (go_at_call 9; refine HFT.out.mono ?_; rintro e w2 ⟨rfl, hb⟩))
    clear HFT
    refine wp_world (fun V => Below w.heap.size w V ∧ Blk V g 29 #[.slice Aw lw cw, .slice Aa la ca, .slice Ar nt cr] ∧ RdM V Ay cy ts) ⟨below_step HB.out hb, HK.out.keep hb, HY.out.below hb⟩ ?_
    clear HB HK HY
    rintro V16 ⟨h09, h19, h29⟩
    have HB := Lib.hid h09
    have HK := Lib.hid h19
    have HY := Lib.hid h29
    clear h09 h19 h29
    clear hb
    obtain ⟨B, hBs⟩ : ∃ B, V16.heap.size = B := ⟨_, rfl⟩
    have HBS := Lib.hid hBs
    clear hBs
    go_wp2
    go_loopw [15, 16] (fun v iv wr => ∃ (j : Nat) (Aj : Option Addr) (cj : Nat), j ≤ nt ∧ iv = .int .i64 j ∧ v = .slice Aj j cj ∧ wr.ownsRow B 3 1 (.slice Aj j cj) j ((allI j).map iiv) ∧ Below B V16 wr) (fun _ iv _ => nt - (intOf iv).toNat)
    case atStart => exact ⟨0, none, 0, Nat.zero_le _, rfl, rfl, World.ownsRow_nil _ _ _ _, Below.refl _ _⟩
    case round =>
      obtain ⟨j, Aj, cj, hj, rfl, rfl, hown, hbl⟩ := hrel
      have HLE := Lib.hid (Nat.le_trans (Nat.le_of_eq HBS.out.symm) hbl.size)
      have HBLB := Lib.hid hbl
      rw [← HBS.out] at hbl
      have HBL := Lib.hid hbl
      have HOWN := Lib.hid hown
      have hk := HK.out.keep hbl
      have x0 := hk.cell 0
      have x1 := hk.cell 1
      have x2 := hk.cell 2
      clear hown hbl hk
      by_cases hlt : j < nt
      · have hd1 : decide (j < nt) = true := by simp; omega
        have HTK := Lib.hid (allI_succ j)
        go_upto_region 14 with (at_builtin; refine wpList_app backT rfl (.tmp 113) (.tmp 115) rfl B (.slice Aj j cj) j ((allI j).map iiv) rfl (own_far HOWN.out (below_alloc _ _)) (some ⟨wr.heap.size, 0, none⟩) 1 1 [iiv (j : Int)] rfl rfl (blk_cs (Blk.new wr _ _)) (by intro u hu; simp only [List.mem_cons, List.mem_nil_iff, or_false] at hu; rw [hu]; rfl) (by unfold maxLen; omega) (by omega) (Nat.le_trans HLE.out (below_alloc _ _).size) ?_; intro v7 w7 ho7 hg7 hat7; obtain ⟨A7, c7, rfl⟩ := own_sl ho7; have HO7 := Lib.hid ho7; have HG7 := Lib.hid hg7; clear ho7 hg7 hat7)
        have hbl7 : Below B V16 w7 := (HBLB.out.alloc HLE.out _).grown HG7.out (Nat.le_trans HLE.out (below_alloc _ _).size) (fun k hk => (own_heap HOWN.out hk).1)
        have HEND := Lib.hid (show w7.ownsRow B 3 1 (.slice A7 (j + 1) c7) (j + 1) ((allI (j + 1)).map iiv) ∧ Below B V16 w7 from ⟨by rw [HTK.out, List.map_append]; exact HO7.out, hbl7⟩)
        clear hbl7 HO7 HG7 HTK HOWN HBL HBLB x0 x1 x2
        go_wp2
        go_roundw
        case rel => exact ⟨j + 1, A7, c7, by omega, by go_num, rfl, HEND.out⟩
        case measure => simp [intOf]; omega
      · obtain rfl : nt = j := by omega
        have hd1 : decide (nt < nt) = false := by simp
        clear x0 x1
        go_upto_region 16 with (fail)
        have hri := own_rdki HOWN.out
        refine wp_world (fun V => Below w.heap.size w V ∧ Blk V g 29 #[.slice Aw lw cw, .slice Aa la ca, .slice Ar nt cr] ∧ RdM V Ay cy ts ∧ RdK .i64 V Aj (allI nt)) ⟨below_step HB.out HBL.out, HK.out.keep HBL.out, HY.out.below HBL.out, hri⟩ ?_
        clear HB HK HY
        rintro V17 ⟨h09, h19, h29, h39⟩
        have HB := Lib.hid h09
        have HK := Lib.hid h19
        have HY := Lib.hid h29
        have HKI := Lib.hid h39
        clear h09 h19 h29 h39
        clear hri HOWN HBL HBLB HLE HBS x2
        obtain ⟨hckt, _⟩ := collect_all HIN.out.2.2.2.2.2.2.w64 HIN.out.2.2.2.2.2.2.r64 HQQ.out
        obtain ⟨wc, ewc⟩ : ∃ x, (layS ts).1.ws = x := ⟨_, rfl⟩
        obtain ⟨nc, enc⟩ : ∃ x, (layS ts).1.nm = x := ⟨_, rfl⟩
        obtain ⟨rc, erc⟩ : ∃ x, (layS ts).2 = x := ⟨_, rfl⟩
        have hfc := lay_facts hckt
        rw [ewc, enc, erc] at hfc
        obtain ⟨e1, ee1⟩ : ∃ x, wc.length = x := ⟨_, rfl⟩
        obtain ⟨e2, ee2⟩ : ∃ x, nc.length = x := ⟨_, rfl⟩
        obtain ⟨e3, ee3⟩ : ∃ x, rc.length = x := ⟨_, rfl⟩
        have hE : e1 ≤ 1000000 ∧ e2 ≤ 1000000 ∧ e3 ≤ 1000000 := ⟨by have := hfc.lw; omega, by have := hfc.la; omega, by have := hfc.lr; have := HNT.out; omega⟩
        have HE := Lib.hid hE
        have HCO := Lib.hid (hcollect_ok (HIN.out.2.2.2.2.2.2.below HB.out) HQQ.out Aj cj HKI.out (by omega) ewc enc erc ee1 ee2 ee3)
        have HGP := Lib.hid (get_put (ws := wc) (rs := rc) (nm := nc) hfc.w64 hfc.r64 (by have := hfc.lw; omega) (by have := hfc.la; omega) (by have := hfc.lr; have := HNT.out; omega) (by have := hfc.sum; omega) (fun s hs => by have := hfc.nb s hs; omega))
        have hpl : (putP wc nc rc).length ≤ 10000000 := by
          have a1 := laidL_len wc
          have a2 := laidL_len rc
          have a3 := laidSs_len nc
          have a4 := laidB_len wc.length 0
          have a5 := laidB_len nc.length 0
          have a6 := laidB_len rc.length 0
          have b4 := wid_le wc.length
          have b5 := wid_le nc.length
          have b6 := wid_le rc.length
          have := hfc.sum
          have := hfc.lw
          have := hfc.la
          have := hfc.lr
          have := HNT.out
          rw [putP_eq]
          simp only [List.length_append]
          omega
        obtain ⟨P, hP⟩ : ∃ P, putP wc nc rc = P := ⟨_, rfl⟩
        obtain ⟨z, hz⟩ : ∃ z, P.length = z := ⟨_, rfl⟩
        have HPV : Hid (∀ (V : World) (Cw Ca Cr : Option Addr) (dw da dr : Nat), HRd V Cw e1 dw Ca e2 da Cr e3 dr wc nc rc → Calls Try.prog 22 #[.agg #[.slice Cw e1 dw, .slice Ca e2 da, .slice Cr e3 dr]] V fun e W' => ∃ A c, e = .returned (.slice A z c) ∧ Rd W' A P ∧ (z ≤ c ∧ c ≤ 9223372036854775807) ∧ Below V.heap.size V W') := Lib.hid fun V Cw Ca Cr dw da dr hC => by
          have h9 := hput_v V hC hE (by have := hfc.sum; omega)
          rw [hP, hz] at h9
          exact h9
        rw [hP, hz] at hpl
        rw [hP] at HGP
        have HGV : Hid (∀ (V : World) (A : Option Addr) (c : Nat), Rd V A P → Calls Try.prog 23 #[.slice A z c] V (HeapNew V e1 e2 e3 wc nc rc)) := Lib.hid fun V A c hr => hget_ok hz (by omega) hr HGP.out ee1 ee2 ee3
        have HRC := Lib.hid hfc.read
        have HW := Lib.hid hfc.w64
        clear hckt ewc enc erc hfc ee1 ee2 ee3 hE hP hz HGP
        have x0 := HK.out.cell 0
        have x1 := HK.out.cell 1
        have x2 := HK.out.cell 2
        go_upto_region 17 with (go_at_call 24; refine HCO.out.mono ?_; rintro e w2 ⟨hb, Cw, dw, Ca, da, Cr, dr, rfl, hR⟩)
        obtain ⟨gc, hgx⟩ : ∃ g, w2.heap.size = g := ⟨_, rfl⟩
        rw [hgx]
        clear HCO
        refine wp_world (fun V => Below w.heap.size w V ∧ RdM V Ay cy ts ∧ Blk V gc 29 #[.slice Cw e1 dw, .slice Ca e2 da, .slice Cr e3 dr] ∧ HRd V Cw e1 dw Ca e2 da Cr e3 dr wc nc rc) ⟨below_step HB.out (below_step hb (below_alloc _ _)), HY.out.below (below_step hb (below_alloc _ _)), by rw [← hgx]; exact Blk.new _ _ _, hR.below (below_alloc _ _)⟩ ?_
        clear HB HK HY HKI
        rintro V18 ⟨h09, h19, h29, h39⟩
        have HB := Lib.hid h09
        have HY := Lib.hid h19
        have HKC := Lib.hid h29
        have HRDC := Lib.hid h39
        clear h09 h19 h29 h39
        clear hb hR hgx x0 x1 x2
        have c0 := HKC.out.cell 0
        have c1' := HKC.out.cell 1
        have c2' := HKC.out.cell 2
        have HRZ := Lib.hid (hread_ok HRDC.out HRC.out HNT.out)
        go_upto_region 18 with (go_at_call 16; refine HRZ.out.mono ?_; rintro e w2 ⟨hb, Az, cz, rfl, hZ⟩)
        clear HRZ c0 c1' c2'
        refine wp_world (fun V => Below w.heap.size w V ∧ RdM V Ay cy ts ∧ Blk V gc 29 #[.slice Cw e1 dw, .slice Ca e2 da, .slice Cr e3 dr] ∧ HRd V Cw e1 dw Ca e2 da Cr e3 dr wc nc rc ∧ RdM V Az cz ts) ⟨below_step HB.out hb, HY.out.below hb, HKC.out.keep hb, HRDC.out.below hb, hZ⟩ ?_
        clear HB HY HKC HRDC
        rintro V19 ⟨h09, h19, h29, h39, h49⟩
        have HB := Lib.hid h09
        have HY := Lib.hid h19
        have HKC := Lib.hid h29
        have HRDC := Lib.hid h39
        have HZ := Lib.hid h49
        clear h09 h19 h29 h39 h49
        clear hb hZ
        have c0 := HKC.out.cell 0
        have c1' := HKC.out.cell 1
        have c2' := HKC.out.cell 2
        have HPX := Lib.hid (HPV.out _ _ _ _ _ _ _ HRDC.out)
        go_upto_region 19 with (first
          | (go_at_call 22; refine HPX.out.mono ?_; rintro e w2 ⟨Ap, cp, rfl, hrp, hcp, hb⟩)
          | (go_at_call 23; refine (HGV.out _ _ _ hrp).mono ?_; rintro e w3 ⟨hb3, Ew, fw, Ea, fa, Er, fr, rfl, hR⟩))
        obtain ⟨gp, hgx⟩ : ∃ g, w3.heap.size = g := ⟨_, rfl⟩
        rw [hgx]
        clear HPX HPV HGV
        refine wp_world (fun V => Below w.heap.size w V ∧ RdM V Ay cy ts ∧ Blk V gc 29 #[.slice Cw e1 dw, .slice Ca e2 da, .slice Cr e3 dr] ∧ HRd V Cw e1 dw Ca e2 da Cr e3 dr wc nc rc ∧ RdM V Az cz ts ∧ Blk V gp 29 #[.slice Ew e1 fw, .slice Ea e2 fa, .slice Er e3 fr] ∧ HRd V Ew e1 fw Ea e2 fa Er e3 fr wc nc rc) ⟨below_step HB.out (below_step (below_step hb hb3) (below_alloc _ _)), HY.out.below (below_step (below_step hb hb3) (below_alloc _ _)), HKC.out.keep (below_step (below_step hb hb3) (below_alloc _ _)), HRDC.out.below (below_step (below_step hb hb3) (below_alloc _ _)), HZ.out.below (below_step (below_step hb hb3) (below_alloc _ _)), by rw [← hgx]; exact Blk.new _ _ _, hR.below (below_alloc _ _)⟩ ?_
        clear HB HY HKC HRDC HZ
        rintro V20 ⟨h09, h19, h29, h39, h49, h59, h69⟩
        have HB := Lib.hid h09
        have HY := Lib.hid h19
        have HKC := Lib.hid h29
        have HRDC := Lib.hid h39
        have HZ := Lib.hid h49
        have HKP := Lib.hid h59
        have HRDP := Lib.hid h69
        clear h09 h19 h29 h39 h49 h59 h69
        clear hb hb3 hR hgx hrp hcp c0 c1' c2'
        have HROW1 := Lib.hid (rows_any ts ts Ay nt cy Az nt cz V20 V20 HNT.out HNT.out (Below.refl _ _) HY.out HZ.out)
        rw [rowsB_self] at HROW1
        have HSM := Lib.hid (fun V (hV : Below V20.heap.size V20 V) => rSame_v V (HRDP.out.below hV) (HRDC.out.below hV) HE.out HE.out)
        rw [back_sameH] at HSM
        go_wp2_with (first
          | (go_at_call 12; refine (hnum_v _ _).mono ?_; rintro e w' ⟨rfl, rfl⟩)
          | (go_at_call 20; refine HROW1.out.mono ?_; rintro e w2 ⟨rfl, hb⟩; have HC := Lib.hid hb; have hka := HKC.out.keep hb; have hkb := HKP.out.keep hb; have a0 := hka.cell 0; have a1 := hka.cell 1; have a2 := hka.cell 2; have b0 := hkb.cell 0; have b1 := hkb.cell 1; have b2 := hkb.cell 2; clear hb hka hkb)
          | (go_at_call 19; refine (HSM.out _ HC.out).mono ?_; rintro e w3 ⟨rfl, hb3⟩; have HC2 := Lib.hid (below_step HC.out hb3); clear hb3)
          | (go_at_call 10; refine (live_from (below_step HB.out HC2.out)).mono ?_; rintro e w9 ⟨rfl, hb9⟩))
        go_ret
        exact ⟨rfl, hb9⟩
end
end Go.Proofs.Ytefnjplfemgibaa
