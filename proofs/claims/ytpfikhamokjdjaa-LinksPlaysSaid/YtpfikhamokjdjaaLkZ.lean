/- Links (layer 18): the document's object in memory: pair, find, Of. -/
import Derived.Test.YtpfikhamokjdjaaLkY
namespace Go.Proofs.Ytpfikhamokjdjaa
open Go.RowKit Go.Sort
set_option linter.unusedVariables false

/-- The document's links in memory. -/
structure RK (W : World) (B pr : Nat) (AP : Option Addr) (cP : Nat) (AW : Option Addr) (cW : Nat) (P : PL) (K : WL) : Prop where
  obj : Blk W pr 50 #[.slice AP P.length cP, .slice AW K.length cW]
  p : W.ownsRow B 75 2 (.slice AP P.length cP) P.length (P.flatMap encP)
  w : W.ownsRow B 33 3 (.slice AW K.length cW) K.length (K.flatMap encW)
  lo : B ≤ pr
  np : ∀ g, (Value.slice AP P.length cP).ownBlock = some g → g ≠ pr
  nw : ∀ g, (Value.slice AW K.length cW).ownBlock = some g → g ≠ pr
section
variable {W V : World} {B pr cP cW : Nat} {AP AW : Option Addr} {P : PL} {K : WL}
theorem RK.keep (h : RK W B pr AP cP AW cW P K) (hb : Below W.heap.size W V) : RK V B pr AP cP AW cW P K := ⟨h.obj.keep hb, own_bel h.p hb, own_bel h.w hb, h.lo, h.np, h.nw⟩
theorem RK.fr (h : RK W B pr AP cP AW cW P K) {F : Nat → Prop} (hf : Fr F W V) (hF : ∀ k, F k → k < B) : RK V B pr AP cP AW cW P K :=
  ⟨hf.blk h.obj (fun h9 => by have := hF _ h9; have := h.lo; omega), own_fr9 h.p hf (fun g hg h9 => by have := hF _ h9; have := (World.ownsRow.lt h.p g hg).1; omega), own_fr9 h.w hf (fun g hg h9 => by have := hF _ h9; have := (World.ownsRow.lt h.w g hg).1; omega), h.lo, h.np, h.nw⟩
theorem pairT75 : ElT Try.prog 48 75 (.agg #[.int .i64 0, .int .i64 0]) 2 16 := ⟨Try.underlying48, by kernel_rfl, rfl, by decide⟩
theorem cell75 {W : World} {base g cap n : Nat} {zs : PL} (h : W.ownsRow base 75 2 (.slice (some ⟨g, 0, none⟩) n cap) n (zs.flatMap encP)) {k : Nat} (hk : k < zs.length) (hn : zs.length = n) :
    W.cell? ⟨g, k * 2, none⟩ = some (.int .i64 zs[k].1) ∧ W.cell? ⟨g, k * 2 + 1, none⟩ = some (.int .i64 zs[k].2) := by
  have key : ∀ j, j < 2 → W.cell? ⟨g, k * 2 + j, none⟩ = (encP zs[k])[j]? := fun j hj => by
    rw [h.cellAt (k * 2 + j) (by omega), flat_get (enc := encP) (k := 2) (fun _ => rfl) zs (k * 2 + j) (by omega)]
    have e1 : (k * 2 + j) / 2 = k := by omega
    have e2 : (k * 2 + j) % 2 = j := by omega
    rw [e1, e2, getElem!_pos zs k hk]
  exact ⟨key 0 (by omega), key 1 (by omega)⟩
set_option maxHeartbeats 1000000 in
theorem rpair_v (a b : Int) (W : World) : Calls Try.prog 39 #[.int .i64 a, .int .i64 b] W fun e w' => e = .returned (pv (pairN a b)) ∧ Below W.heap.size W w' := by
  rcases Int.lt_trichotomy a b with h | rfl | h
  · have HE := Lib.hid (show pairN a b = (a, b) by unfold pairN; rw [Int.min_eq_left (by omega), Int.max_eq_right (by omega)])
    go_enter Try.func39, Try.ntmps39
    go_wp2
    all_goals first | (exfalso; omega) | skip
    refine bodyPost_ret (v := .agg #[.int .i64 a, .int .i64 b]) (by simp [results, Try.results39, go_sem]; omega) rfl ?_
    rw [HE.out]
    exact ⟨rfl, below_alloc _ _⟩
  · have HE := Lib.hid (show pairN a a = (a, a) by unfold pairN; rw [Int.min_eq_left (by omega), Int.max_eq_right (by omega)])
    go_enter Try.func39, Try.ntmps39
    go_wp2
    all_goals first | (exfalso; omega) | skip
    all_goals
      refine bodyPost_ret (v := .agg #[.int .i64 a, .int .i64 a]) (by simp [results, Try.results39, go_sem]) rfl ?_
      rw [HE.out]
      exact ⟨rfl, below_alloc _ _⟩
  · have HE := Lib.hid (show pairN a b = (b, a) by unfold pairN; rw [Int.min_eq_right (by omega), Int.max_eq_left (by omega)])
    go_enter Try.func39, Try.ntmps39
    go_wp2
    all_goals first | (exfalso; omega) | skip
    refine bodyPost_ret (v := .agg #[.int .i64 b, .int .i64 a]) (by simp [results, Try.results39, go_sem]; omega) rfl ?_
    rw [HE.out]
    exact ⟨rfl, below_alloc _ _⟩
theorem eqIn75 (a b c d : Int) (w : World) : (Op.equalIn 10000 75 (.agg #[.int .i64 a, .int .i64 b]) (.agg #[.int .i64 c, .int .i64 d])).run Try.prog w = .ok (a == c && b == d) w := by
  have u3 := Try.underlying2
  have a3 := Try.isAgg2
  have z3 := Try.sizeOf2
  have hS : Try.prog.underlying 75 = some (.struct (Try.prog.fieldsOf 75)) := by kernel_rfl
  have hp : Try.prog.stoodInHeld 75 = false := by kernel_rfl
  rw [show (10000 : Nat) = 9999 + 1 from rfl, run_equalIn_agg w 9999 75 _ _ hS hp]
  simp only [Program.fieldsOf, Try.underlying75]
  go_simp
  by_cases h1 : a = c <;> by_cases h2 : b = d <;> simp [h1, h2]
theorem eqlPair (x y : Int × Int) (w : World) : (binOp .eql 75 (.agg #[.int .i64 x.1, .int .i64 x.2]) (.agg #[.int .i64 y.1, .int .i64 y.2])).run Try.prog w = .ok (.bool (x == y)) w := by
  rw [run_eql_struct, eqIn75]
  obtain ⟨x1, x2⟩ := x
  obtain ⟨y1, y2⟩ := y
  simp [Result.andThen]
  rfl
/-- Is it there? -/
def thereP (P : PL) (p : Int × Int) : Bool := (P[cutN (lessP p) P]?).any fun q => q == p
set_option maxRecDepth 100000 in
set_option maxHeartbeats 4000000 in
theorem rfind_v (h : RK W B pr AP cP AW cW P K) (p : Int × Int) (hl : P.length ≤ 1000000) :
    Calls Try.prog 38 #[.pointer (some ⟨pr, 0, none⟩), .agg #[.int .i64 p.1, .int .i64 p.2]] W fun e w' => e = .returned (.tuple #[.int .i64 (cutN (lessP p) P : Nat), .bool (thereP P p)]) ∧ Below W.heap.size W w' := by
  obtain ⟨pa, pb⟩ := p
  have HH := Lib.hid h
  obtain ⟨n, hn⟩ : ∃ n, P.length = n := ⟨_, rfl⟩
  have HN := Lib.hid hn
  obtain ⟨q, hq⟩ : ∃ q, cutN (lessP (pa, pb)) P = q := ⟨_, rfl⟩
  have HQ := Lib.hid hq
  have hqn : q ≤ n := by rw [← hq, ← hn]; exact cut_le
  have hnb : n ≤ 1000000 := by omega
  obtain ⟨g0, hg0⟩ : ∃ g, W.heap.size = g := ⟨_, rfl⟩
  clear h hn hq hl
  go_enter Try.func38, Try.ntmps38
  go_wp2
  go_loopw [6] (fun i wr => ∃ k : Nat, k ≤ q ∧ i = .int .i64 (k : Int) ∧ Below W.heap.size W wr ∧ Blk wr g0 75 #[.int .i64 pa, .int .i64 pb]) (fun i _ => q + 1 - (intOf i).toNat)
  case atStart => exact ⟨0, Nat.zero_le _, rfl, below_alloc _ _, Blk.newAt9 hg0⟩
  case round =>
    obtain ⟨k, hk, rfl, hb, hbk⟩ := hrel
    have HB := Lib.hid hb
    have HBK := Lib.hid hbk
    have HR := Lib.hid (HH.out.keep hb)
    have m0 := HR.out.obj.cell 0
    rw [HN.out] at m0
    have b0 := hbk.cell 0
    have b1 := hbk.cell 1
    clear hb hbk
    by_cases hlt : k < q
    · have hkq : k < cutN (lessP (pa, pb)) P := by rw [HQ.out]; exact hlt
      obtain ⟨hkp, hle⟩ := cut_lt hkq
      have hkn : k < n := by rw [← HN.out]; exact hkp
      have hrow := HR.out.p
      rw [HN.out] at hrow
      obtain ⟨g, rfl, hc⟩ := own_at9 (g := 0) (c := cP) hrow (by omega)
      obtain ⟨z0, z1⟩ := cell75 hrow hkp HN.out
      generalize P[k] = x at z0 z1 hle
      obtain ⟨xa, xb⟩ := x
      simp only at z0 z1
      have hd : decide (k < n) = true := by simpa using hkn
      have q1 : (0 : Int) ≤ (k : Int) := by omega
      have q2 : (k : Int) < (n : Int) := by omega
      unfold lessP at hle
      simp only at hle
      clear hrow hkq hkp
      by_cases c1 : xa < pa
      · have d1 : decide (xa < pa) = true := by simpa using c1
        clear c1 hle
        go_wp2
        go_quiet (fail)
        clear m0 b0 b1 z0 z1 d1
        go_wp2
        go_roundw
        case rel => exact ⟨k + 1, hlt, by go_num, below_drewN HB.out _, HBK.out.keep (below_drewN (Below.refl _ _) _)⟩
        case measure => simp [intOf]; omega
      · have d1 : decide (xa < pa) = false := by simpa using c1
        have c2 : xa = pa ∧ xb < pb := by simp [c1] at hle; exact hle
        have d2 : (xa == pa) = true := by simpa using c2.1
        have d3 : decide (xb < pb) = true := by simpa using c2.2
        clear c1 c2 hle
        go_wp2
        go_quiet (fail)
        clear m0 b0 b1 z0 z1 d1 d2 d3
        go_wp2
        go_roundw
        case rel => exact ⟨k + 1, hlt, by go_num, below_drewN HB.out _, HBK.out.keep (below_drewN (Below.refl _ _) _)⟩
        case measure => simp [intOf]; omega
    · obtain rfl : k = q := by omega
      have HT := Lib.hid (show thereP P (pa, pb) = ((P[k]?).any fun q => q == (pa, pb)) by unfold thereP; rw [HQ.out])
      have q1 : (0 : Int) ≤ (k : Int) := by omega
      by_cases hkn : k < n
      · have hkp : k < P.length := by rw [HN.out]; exact hkn
        have hle : lessP (pa, pb) P[k] = false := by
          have h9 : cutN (lessP (pa, pb)) P < P.length := by rw [HQ.out]; exact hkp
          have := cut_at h9
          simp only [HQ.out] at this
          exact this
        have HT2 := Lib.hid (show thereP P (pa, pb) = (P[k] == (pa, pb)) by rw [HT.out, List.getElem?_eq_getElem hkp]; rfl)
        have hrow := HR.out.p
        rw [HN.out] at hrow
        obtain ⟨g, rfl, hc⟩ := own_at9 (g := 0) (c := cP) hrow (by omega)
        obtain ⟨z0, z1⟩ := cell75 hrow hkp HN.out
        obtain ⟨x, hx⟩ : ∃ x, P[k] = x := ⟨_, rfl⟩
        rw [hx] at z0 z1 hle HT2
        have HZX := Lib.hid hx
        have de := fun w => eqlPair x (pa, pb) w
        clear hx
        obtain ⟨xa, xb⟩ := x
        simp only at z0 z1 de
        have hd : decide (k < n) = true := by simpa using hkn
        have q2 : (k : Int) < (n : Int) := by omega
        unfold lessP at hle
        simp only at hle
        have c1 : ¬ xa < pa := by simp at hle; omega
        have d1 : decide (xa < pa) = false := by simpa using c1
        clear hrow
        by_cases c2 : xa = pa
        case' pos =>
          have d2 : (xa == pa) = true := by simpa using c2
          have c3 : ¬ xb < pb := by simp [c2] at hle; omega
          have d3 : decide (xb < pb) = false := by simpa using c3
          clear c1 c2 c3 hle
          go_wp2
          go_quiet (fail)
          clear m0 b0 b1 z0 z1 d2 d3
        case' neg =>
          have d2 : (xa == pa) = false := by simpa using c2
          clear c1 c2 hle
          go_wp2
          go_quiet (fail)
          clear m0 b0 b1 z0 z1 d2
        all_goals
          go_wp2
          refine wp_world (fun V => Below wr.heap.size wr V) (below_drewN (Below.refl _ _) _) ?_
          rintro V hbV
          have HV := Lib.hid (HB.out.trans (hbV.mono HB.out.size))
          have hrk := HR.out.keep hbV
          have m0 := hrk.obj.cell 0
          rw [HN.out] at m0
          have b0 := (HBK.out.keep hbV).cell 0
          have b1 := (HBK.out.keep hbV).cell 1
          have hrow := hrk.p
          rw [HN.out] at hrow
          obtain ⟨z0, z1⟩ := cell75 hrow (by rw [HN.out]; exact hkn) HN.out
          have e9 := HZX.out
          rw [e9] at z0 z1
          simp only at z0 z1
          clear hrk hrow hbV e9
          go_quiet (fail)
          clear m0 b0 b1 z0 z1 de
          go_wp2
          go_ret2
          rw [HQ.out, HT2.out]
          exact ⟨rfl, below_drewN HV.out _⟩
      · obtain rfl : k = n := by omega
        have hd : decide (k < k) = false := by simp
        have HT2 := Lib.hid (show thereP P (pa, pb) = false by rw [HT.out, List.getElem?_eq_none (by rw [HN.out]; exact Nat.le_refl _)]; rfl)
        go_wp2
        go_quiet (fail)
        clear m0 b0 b1
        go_wp2
        refine wp_world (fun V => Below wr.heap.size wr V) (below_drewN (Below.refl _ _) _) ?_
        rintro V hbV
        have HV := Lib.hid (HB.out.trans (hbV.mono HB.out.size))
        have hrk := HR.out.keep hbV
        have m0 := hrk.obj.cell 0
        rw [HN.out] at m0
        clear hrk hbV
        go_quiet (fail)
        clear m0
        go_wp2
        go_ret2
        rw [HQ.out, HT2.out]
        exact ⟨rfl, below_drewN HV.out _⟩
end
end Go.Proofs.Ytpfikhamokjdjaa
