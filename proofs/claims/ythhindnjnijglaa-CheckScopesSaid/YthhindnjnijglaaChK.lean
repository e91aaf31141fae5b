/- Layer 12: the walks of the checker's row and clauses. Written by chgenk.py. -/
import Derived.Test.YthhindnjnijglaaChJ
namespace Go.Proofs.Ythhindnjnijglaa
open Go.RowKit
set_option linter.unusedVariables false

theorem rowC_take (blt : List UInt8 → Nat → Int) (nm? : List UInt8 → Nat → Bool) (P : Nms) (s : CS) : ∀ (l : List ND) (k : Nat) (h : k < l.length), rowC blt nm? P (l.take (k + 1)) s = expC blt nm? (rowC blt nm? P (l.take k) s).1 l[k] (rowC blt nm? P (l.take k) s).2
  | t :: r, 0, _ => by simp [rowC]
  | t :: r, k + 1, h => by
    simp only [List.take_succ_cons, rowC, List.getElem_cons_succ]
    rw [rowC_take blt nm? _ _ r k (by simpa using h)]
  | [], _, h => by simp at h
/-- One clause. -/
def cl1C (blt : List UInt8 → Nat → Int) (nm? : List UInt8 → Nat → Bool) (P : Nms) (x : CD) (s : CS) : CS :=
  (rowC blt nm? (patCL P x.patterns s).1 x.body (grdCL blt (patCL P x.patterns s).1 x.guards (patCL P x.patterns s).2)).2
theorem clsC_take (blt : List UInt8 → Nat → Int) (nm? : List UInt8 → Nat → Bool) (P : Nms) (s : CS) : ∀ (l : List CD) (k : Nat) (h : k < l.length), clsC blt nm? P (l.take (k + 1)) s = cl1C blt nm? P l[k] (clsC blt nm? P (l.take k) s)
  | .mk p g b nm a :: r, 0, _ => by simp [clsC, cl1C, CD.patterns, CD.guards, CD.body]
  | .mk p g b nm a :: r, k + 1, h => by
    simp only [List.take_succ_cons, clsC, List.getElem_cons_succ]
    rw [clsC_take blt nm? _ _ r k (by simpa using h)]
  | [], _, h => by simp at h
section
variable {w0 : World} {cb mb : Nat} {nm? : List UInt8 → Nat → Bool} {K P : Nms} {v : Value} {sc : CS} {V V' : World}
def ExpOk (w0 : World) (cb mb : Nat) (nm? : List UInt8 → Nat → Bool) (K : Nms) (N : Nat) : Prop := ∀ (x : EN) (P : Nms) (v : Value) (sc : CS) (V : World), x.t.sz ≤ N → x.Ok NoB w0 → x.t.wf → x.t.all (fun s => s ∈ K) → CA w0 cb mb nm? K P v sc V →
  Calls Try.prog 67 #[.pointer (some ⟨cb, 0, none⟩), v, .agg #[.int .i64 x.t.kind, .int .i64 x.t.int, .string ⟨x.t.name.toArray⟩, .int .i64 x.t.at_, .slice x.A x.t.kids.length x.c, .slice x.B x.t.clauses.length x.d, .slice x.C x.t.body.length x.e]] V (REnd w0 cb mb nm? K V (expC bltP nm? P x.t sc))
def RowOk (w0 : World) (cb mb : Nat) (nm? : List UInt8 → Nat → Bool) (K : Nms) (N : Nat) : Prop := ∀ (l : List ND) (A : Option Addr) (c : Nat) (P : Nms) (v : Value) (sc : CS) (V : World), ND.szL l ≤ N → RdN NoB w0 A c l → ND.wfL l → ND.allL (fun s => s ∈ K) l → CA w0 cb mb nm? K P v sc V →
  Calls Try.prog 55 #[.pointer (some ⟨cb, 0, none⟩), v, .slice A l.length c] V (REnd w0 cb mb nm? K V (rowC bltP nm? P l sc))
def ClsOk (w0 : World) (cb mb : Nat) (nm? : List UInt8 → Nat → Bool) (K : Nms) (N : Nat) : Prop := ∀ (m : List CD) (A : Option Addr) (c : Nat) (P : Nms) (v : Value) (sc : CS) (V : World), CD.szL m ≤ N → RdC NoB w0 A c m → CD.wfL m → CD.allL (fun s => s ∈ K) m → CA w0 cb mb nm? K P v sc V →
  Calls Try.prog 28 #[.pointer (some ⟨cb, 0, none⟩), v, .slice A m.length c] V (VEnd w0 cb mb nm? K P v V (clsC bltP nm? P m sc))

set_option maxRecDepth 100000 in
set_option maxHeartbeats 4000000 in
theorem crow_of {N : Nat} (hE : ExpOk w0 cb mb nm? K N) : RowOk w0 cb mb nm? K N := by
  intro l A c P v sc V hN hR hwf hal h
  have hlc := hR.1
  have hlc2 := hR.2.1
  have HH := Lib.hid h
  have HR := Lib.hid hR
  have HI : Hid (∀ (j : Nat) (hj : j < l.length) (x : EN) (P' : Nms) (v' : Value) (s' : CS) (V' : World), x.t = l[j] → x.Ok NoB w0 → CA w0 cb mb nm? K P' v' s' V' → Calls Try.prog 67 #[.pointer (some ⟨cb, 0, none⟩), v', .agg #[.int .i64 x.t.kind, .int .i64 x.t.int, .string ⟨x.t.name.toArray⟩, .int .i64 x.t.at_, .slice x.A x.t.kids.length x.c, .slice x.B x.t.clauses.length x.d, .slice x.C x.t.body.length x.e]] V' (REnd w0 cb mb nm? K V' (expC bltP nm? P' l[j] s'))) := fun j hj x P' v' s' V' hx hxo hca => by
    rw [← hx]
    exact hE x P' v' s' V' (by rw [hx]; have h9 := ndsz_at l j hj; omega) hxo (by rw [hx]; exact ndwf_at hwf hj) (by rw [hx]; exact ndall_at hal hj) hca
  obtain ⟨len, hlen⟩ : ∃ len, l.length = len := ⟨_, rfl⟩
  have HLN := Lib.hid hlen
  rw [hlen] at hlc ⊢
  obtain ⟨r0, rfl⟩ := h.sc.form
  clear h hR hlen hE hN hwf hal
  go_enter Try.func55, Try.ntmps55
  go_upto_region 2 with (fail)
  go_loopw [1, 11] (fun w i wr => ∃ j : Nat, j ≤ len ∧ i = .int .i64 j ∧ Hid (CA w0 cb mb nm? K (rowC bltP nm? P (l.take j) sc).1 w (rowC bltP nm? P (l.take j) sc).2 wr) ∧ Hid (CFr cb V wr)) (fun _ i _ => len - (intOf i).toNat)
  case atStart => exact ⟨0, Nat.zero_le _, rfl, by unfold Hid; simpa [rowC] using HH.out, Fr.refl _ _⟩
  case round =>
    obtain ⟨j, hj, rfl, HC, HF⟩ := hrel
    clear HH
    by_cases hlt : j < len
    · have hd1 : decide (j < len) = true := by simpa using hlt
      have hkl : j < l.length := by rw [HLN.out]; exact hlt
      obtain ⟨b, o, x, rfl, hx, hok, e0, e1, e2, e3, e4, e5, e6⟩ := rdn_item HR.out hkl
      have HCL := Lib.hid (HI.out j hkl x _ _ _ _ hx hok (HC.out.keep (below_alloc wr (.cells #[.int .i64 x.t.kind, .int .i64 x.t.int, .string ⟨x.t.name.toArray⟩, .int .i64 x.t.at_, .slice x.A x.t.kids.length x.c, .slice x.B x.t.clauses.length x.d, .slice x.C x.t.body.length x.e] 26))))
      have HT := Lib.hid (rowC_take bltP nm? P sc l j hkl)
      replace e0 := HC.out.old e0
      replace e1 := HC.out.old e1
      replace e2 := HC.out.old e2
      replace e3 := HC.out.old e3
      replace e4 := HC.out.old e4
      replace e5 := HC.out.old e5
      replace e6 := HC.out.old e6
      have hq1 : (0 : Int) ≤ (j : Int) := by omega
      have hq2 : (j : Int) < (len : Int) := by omega
      clear hx hok
      go_wp2_with (go_at_call 67; refine HCL.out.mono ?_; rintro e V5 ⟨v5', rfl, hk5, hf5⟩)
      go_roundw
      case rel => exact ⟨j + 1, by omega, by go_num, by rw [HT.out]; exact hk5, (HF.out.same (Fr.alloc _ _ _)).same hf5⟩
      case measure => simp [intOf]; omega
    · obtain rfl : j = len := by omega
      have hd1 : decide (j < j) = false := by simp
      have HT : Hid (rowC bltP nm? P l sc = rowC bltP nm? P (l.take j) sc) := by rw [List.take_of_length_le (by rw [HLN.out]; exact Nat.le_refl _)]; exact rfl
      go_wp2
      go_ret
      rw [HT.out]
      exact ⟨_, rfl, HC.out, HF.out⟩
set_option maxRecDepth 100000 in
set_option maxHeartbeats 8000000 in
theorem cls_of {N : Nat} (hK : KK K) (hRo : RowOk w0 cb mb nm? K N) : ClsOk w0 cb mb nm? K N := by
  intro m A c P v sc V hN hR hwf hal h
  have hlc := hR.1
  have hlc2 := hR.2.1
  have HH := Lib.hid h
  have HR := Lib.hid hR
  have HPT : Hid (∀ (j : Nat) (hj : j < m.length) (x : EC), x.t = m[j] → ∀ (k : Nat) (hk : k < x.t.patterns.length) (y : EN) (P' : Nms) (v' : Value) (s' : CS) (V' : World), y.t = x.t.patterns[k] → y.Ok NoB w0 → CA w0 cb mb nm? K P' v' s' V' → Calls Try.prog 53 #[.pointer (some ⟨cb, 0, none⟩), v', .agg #[.int .i64 y.t.kind, .int .i64 y.t.int, .string ⟨y.t.name.toArray⟩, .int .i64 y.t.at_, .slice y.A y.t.kids.length y.c, .slice y.B y.t.clauses.length y.d, .slice y.C y.t.body.length y.e]] V' (REnd w0 cb mb nm? K V' (patC P' x.t.patterns[k] s'))) := fun j hj x hx k hk y P' v' s' V' hy hyo hca => by
    have w1 := cdwf_at hwf hj
    have w2 := cdall_at hal hj
    rw [← hx] at w1 w2
    rw [← hy]
    refine cpat_any hK y.t.sz y P' v' s' V' (Nat.le_refl _) hyo ?_ ?_ hca
    · rw [hy]; refine ndwf_at ?_ hk; revert w1; cases x.t; simp only [CD.wf, CD.patterns]; exact fun w => w.1
    · rw [hy]; exact ndall_at ((CD.all_iff _).1 w2).2.1 hk
  have HGD : Hid (∀ (j : Nat) (hj : j < m.length) (x : EC), x.t = m[j] → ∀ (k : Nat) (hk : k < x.t.guards.length) (y : EN) (P' : Nms) (v' : Value) (s' : CS) (V' : World), y.t = x.t.guards[k] → y.Ok NoB w0 → CA w0 cb mb nm? K P' v' s' V' → Calls Try.prog 54 #[.pointer (some ⟨cb, 0, none⟩), v', .agg #[.int .i64 y.t.kind, .int .i64 y.t.int, .string ⟨y.t.name.toArray⟩, .int .i64 y.t.at_, .slice y.A y.t.kids.length y.c, .slice y.B y.t.clauses.length y.d, .slice y.C y.t.body.length y.e]] V' (VEnd w0 cb mb nm? K P' v' V' (grdC bltP P' x.t.guards[k] s'))) := fun j hj x hx k hk y P' v' s' V' hy hyo hca => by
    have w2 := cdall_at hal hj
    rw [← hx] at w2
    rw [← hy]
    refine cgrd_any hK y.t.sz y s' V' (Nat.le_refl _) hyo ?_ hca
    rw [hy]; exact ndall_at ((CD.all_iff _).1 w2).2.2.1 hk
  have HRO : Hid (∀ (j : Nat) (hj : j < m.length) (x : EC) (P' : Nms) (v' : Value) (s' : CS) (V' : World), x.t = m[j] → x.Ok NoB w0 → CA w0 cb mb nm? K P' v' s' V' → Calls Try.prog 55 #[.pointer (some ⟨cb, 0, none⟩), v', .slice x.C x.t.body.length x.e] V' (REnd w0 cb mb nm? K V' (rowC bltP nm? P' (m[j]).body s'))) := fun j hj x P' v' s' V' hx hxo hca => by
    have w1 := cdwf_at hwf hj
    have w2 := cdall_at hal hj
    have w3 := cdsz_at m j hj
    rw [← hx] at w1 w2 w3 ⊢
    refine hRo x.t.body x.C x.e P' v' s' V' ?_ hxo.body ?_ ((CD.all_iff _).1 w2).2.2.2 hca
    · revert w3; cases x.t; simp only [CD.sz, CD.body]; intro w3; omega
    · revert w1; cases x.t; simp only [CD.wf, CD.body]; exact fun w => w.2.2
  obtain ⟨len, hlen⟩ : ∃ len, m.length = len := ⟨_, rfl⟩
  have HLN := Lib.hid hlen
  rw [hlen] at hlc ⊢
  obtain ⟨r0, rfl⟩ := h.sc.form
  clear h hR hlen hRo hN hwf hal
  go_enter Try.func28, Try.ntmps28
  go_upto_region 1 with (fail)
  go_loopw [15] (fun i wr => ∃ j : Nat, j ≤ len ∧ i = .int .i64 j ∧ Hid (CA w0 cb mb nm? K P (.map r0) (clsC bltP nm? P (m.take j) sc) wr) ∧ Hid (CFr cb V wr)) (fun i _ => len - (intOf i).toNat)
  case atStart => exact ⟨0, Nat.zero_le _, rfl, by unfold Hid; simpa [clsC] using HH.out, Fr.refl _ _⟩
  case round =>
    obtain ⟨j, hj, rfl, HC, HF⟩ := hrel
    clear HH
    by_cases hlt : j < len
    · have hd1 : decide (j < len) = true := by simpa using hlt
      have hkl : j < m.length := by rw [HLN.out]; exact hlt
      obtain ⟨b, o, x, rfl, hx, hok, e0, e1, e2, e3, e4⟩ := rdc_item HR.out hkl
      have HT := Lib.hid (clsC_take bltP nm? P sc m j hkl)
      have HPX := Lib.hid (HPT.out j hkl x hx)
      have HGX := Lib.hid (HGD.out j hkl x hx)
      have HRX := Lib.hid (HRO.out j hkl x)
      have HX := Lib.hid hx
      have HOK := Lib.hid hok
      replace e0 := HC.out.old e0
      replace e1 := HC.out.old e1
      replace e2 := HC.out.old e2
      replace e3 := HC.out.old e3
      replace e4 := HC.out.old e4
      have hq1 : (0 : Int) ≤ (j : Int) := by omega
      have hq2 : (j : Int) < (len : Int) := by omega
      clear hx hok
      obtain ⟨s1, hs1⟩ : ∃ s1, clsC bltP nm? P (m.take j) sc = s1 := ⟨_, rfl⟩
      rw [hs1] at HC HT
      have HS1 := Lib.hid hs1
      clear hs1
      go_upto_region 3 with (fail)
      obtain ⟨b7, hb7⟩ : ∃ b7, wr.heap.size = b7 := ⟨_, rfl⟩
      rw [hb7]
      refine wp_world (fun V' => CA w0 cb mb nm? K P (.map r0) s1 V' ∧ Blk V' b7 67 #[.slice x.A x.t.patterns.length x.c, .slice x.B x.t.guards.length x.d, .slice x.C x.t.body.length x.e, .string ⟨x.t.name.toArray⟩, .int .i64 x.t.at_] ∧ CFr cb V V' ∧ cb < b7) ⟨HC.out.keep (below_alloc _ _), by rw [← hb7]; exact Blk.new _ _ _, HF.out.same (Fr.alloc _ _ _), by rw [← hb7]; exact HC.out.lt⟩ ?_
      clear HC HF hb7 e0 e1 e2 e3 e4
      rintro V1 ⟨hc1, hx1, hf1, hcb⟩
      have HC1 := Lib.hid hc1
      have HX1 := Lib.hid hx1
      have HF1 := Lib.hid hf1
      have HCB := Lib.hid hcb
      have c0 := hx1.cell 0
      clear hc1 hx1 hf1 hcb
      obtain ⟨np, hnp⟩ : ∃ np, x.t.patterns.length = np := ⟨_, rfl⟩
      have HNP := Lib.hid hnp
      have hpc : np ≤ x.c := by rw [← hnp]; exact HOK.out.patterns.1
      have hpc2 : x.c ≤ 9223372036854775807 := HOK.out.patterns.2.1
      obtain ⟨ng, hng⟩ : ∃ ng, x.t.guards.length = ng := ⟨_, rfl⟩
      have HNG := Lib.hid hng
      have hgc : ng ≤ x.d := by rw [← hng]; exact HOK.out.guards.1
      have hgc2 : x.d ≤ 9223372036854775807 := HOK.out.guards.2.1
      rw [hnp] at c0
      clear hnp hng
      go_upto_region 5 with (fail)
      clear c0
      go_loopw [8, 23] (fun w i wr => ∃ k : Nat, k ≤ np ∧ i = .int .i64 k ∧ Hid (CA w0 cb mb nm? K (patCL P (x.t.patterns.take k) s1).1 w (patCL P (x.t.patterns.take k) s1).2 wr) ∧ Hid (CFr cb V1 wr)) (fun _ i _ => np - (intOf i).toNat)
      case atStart => exact ⟨0, Nat.zero_le _, rfl, by unfold Hid; simpa [patCL] using HC1.out, Fr.refl _ _⟩
      case round =>
        obtain ⟨k, hk, rfl, HD, HG⟩ := hrel
        by_cases hlt2 : k < np
        · have hd2 : decide (k < np) = true := by simpa using hlt2
          have hkp : k < x.t.patterns.length := by rw [HNP.out]; exact hlt2
          obtain ⟨b2, o2, y, hyA, hy, hyo, y0, y1, y2, y3, y4, y5, y6⟩ := rdn_item HOK.out.patterns hkp
          rw [hyA]
          have HCL := Lib.hid (HPX.out k hkp y _ _ _ _ hy hyo (HD.out.keep (below_alloc _ (.cells #[.int .i64 y.t.kind, .int .i64 y.t.int, .string ⟨y.t.name.toArray⟩, .int .i64 y.t.at_, .slice y.A y.t.kids.length y.c, .slice y.B y.t.clauses.length y.d, .slice y.C y.t.body.length y.e] 26))))
          have HT2 := Lib.hid (patCL_take P s1 x.t.patterns k hkp)
          replace y0 := HD.out.old y0
          replace y1 := HD.out.old y1
          replace y2 := HD.out.old y2
          replace y3 := HD.out.old y3
          replace y4 := HD.out.old y4
          replace y5 := HD.out.old y5
          replace y6 := HD.out.old y6
          have hq3 : (0 : Int) ≤ (k : Int) := by omega
          have hq4 : (k : Int) < (np : Int) := by omega
          clear hy hyo hyA
          go_wp2_with (go_at_call 53; refine HCL.out.mono ?_; rintro e V5 ⟨v5', rfl, hk5, hf5⟩)
          go_roundw
          case rel => exact ⟨k + 1, by omega, by go_num, by rw [HT2.out]; exact hk5, (HG.out.same (Fr.alloc _ _ _)).same hf5⟩
          case measure => simp [intOf]; omega
        · obtain rfl : k = np := by omega
          have hd2 : decide (k < k) = false := by simp
          have HT2 : Hid (patCL P (x.t.patterns.take k) s1 = patCL P x.t.patterns s1) := by unfold Hid; rw [List.take_of_length_le (by rw [HNP.out]; exact Nat.le_refl _)]
          rw [HT2.out] at HD
          obtain ⟨r8, rfl⟩ := HD.out.sc.form
          obtain ⟨q2, hq2'⟩ : ∃ q, patCL P x.t.patterns s1 = q := ⟨_, rfl⟩
          rw [hq2'] at HD
          have HQ2 := Lib.hid hq2'
          have HX3 := Lib.hid (HG.out.blk HX1.out (show ¬ b7 = cb by have := HCB.out; omega))
          have c1 := HX3.out.cell 1
          rw [HNG.out] at c1
          clear hq2' HT2
          go_upto_region 10 with (fail)
          clear c1
          go_loopw [35] (fun i wr => ∃ k : Nat, k ≤ ng ∧ i = .int .i64 k ∧ Hid (CA w0 cb mb nm? K q2.1 (.map r8) (grdCL bltP q2.1 (x.t.guards.take k) q2.2) wr) ∧ Hid (CFr cb V1 wr)) (fun i _ => ng - (intOf i).toNat)
          case atStart => exact ⟨0, Nat.zero_le _, rfl, by unfold Hid; simpa [grdCL] using HD.out, HG.out⟩
          case round =>
            obtain ⟨k2, hk2, rfl, HD2, HG2⟩ := hrel
            clear HD HG
            by_cases hlt3 : k2 < ng
            · have hd3 : decide (k2 < ng) = true := by simpa using hlt3
              have hkp : k2 < x.t.guards.length := by rw [HNG.out]; exact hlt3
              obtain ⟨b2, o2, y, hyA, hy, hyo, y0, y1, y2, y3, y4, y5, y6⟩ := rdn_item HOK.out.guards hkp
              rw [hyA]
              have HCL := Lib.hid (HGX.out k2 hkp y _ _ _ _ hy hyo (HD2.out.keep (below_alloc _ (.cells #[.int .i64 y.t.kind, .int .i64 y.t.int, .string ⟨y.t.name.toArray⟩, .int .i64 y.t.at_, .slice y.A y.t.kids.length y.c, .slice y.B y.t.clauses.length y.d, .slice y.C y.t.body.length y.e] 26))))
              have HT3 := Lib.hid (grdCL_take bltP q2.1 q2.2 x.t.guards k2 hkp)
              replace y0 := HD2.out.old y0
              replace y1 := HD2.out.old y1
              replace y2 := HD2.out.old y2
              replace y3 := HD2.out.old y3
              replace y4 := HD2.out.old y4
              replace y5 := HD2.out.old y5
              replace y6 := HD2.out.old y6
              have hq3 : (0 : Int) ≤ (k2 : Int) := by omega
              have hq4 : (k2 : Int) < (ng : Int) := by omega
              clear hy hyo hyA
              go_wp2_with (go_at_call 54; refine HCL.out.mono ?_; rintro e V5 ⟨rfl, hk5, hf5⟩)
              go_roundw
              case rel => exact ⟨k2 + 1, by omega, by go_num, by rw [HT3.out]; exact hk5, (HG2.out.same (Fr.alloc _ _ _)).same hf5⟩
              case measure => simp [intOf]; omega
            · obtain rfl : k2 = ng := by omega
              have hd3 : decide (k2 < k2) = false := by simp
              have HT3 : Hid (grdCL bltP q2.1 (x.t.guards.take k2) q2.2 = grdCL bltP q2.1 x.t.guards q2.2) := by unfold Hid; rw [List.take_of_length_le (by rw [HNG.out]; exact Nat.le_refl _)]
              rw [HT3.out] at HD2
              have HX4 := Lib.hid (HG2.out.blk HX1.out (show ¬ b7 = cb by have := HCB.out; omega))
              have c2 := HX4.out.cell 2
              have HRC := Lib.hid (HRX.out _ _ _ _ HX.out HOK.out HD2.out)
              go_wp2_with (go_at_call 55; refine HRC.out.mono ?_; rintro e V6 ⟨v6, rfl, hk6, hf6⟩)
              go_roundw
              case rel =>
                refine ⟨j + 1, by omega, by go_num, ?_, (HF1.out.same HG2.out).same hf6⟩
                have h9 := HC1.out.act hk6.ck (HG2.out.same hf6)
                unfold Hid
                rw [HT.out]
                unfold cl1C
                rw [← HX.out, HQ2.out]
                rw [← HX.out] at h9
                exact h9
              case measure => simp [intOf]; omega
    · obtain rfl : j = len := by omega
      have hd1 : decide (j < j) = false := by simp
      have HT : Hid (clsC bltP nm? P m sc = clsC bltP nm? P (m.take j) sc) := by rw [List.take_of_length_le (by rw [HLN.out]; exact Nat.le_refl _)]; exact rfl
      go_wp2
      go_end0
      rw [HT.out]
      exact ⟨rfl, HC.out, HF.out⟩
end
end Go.Proofs.Ythhindnjnijglaa
