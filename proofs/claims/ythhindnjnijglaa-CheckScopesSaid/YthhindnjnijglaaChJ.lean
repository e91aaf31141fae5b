/- Layer 12: the walk of the checker's guard. Written by chgenj.py. -/
import Derived.Test.YthhindnjnijglaaChI
namespace Go.Proofs.Ythhindnjnijglaa
open Go.RowKit
set_option linter.unusedVariables false

section
variable {w0 : World} {cb mb : Nat} {nm? : List UInt8 → Nat → Bool} {K P : Nms} {v : Value} {sc : CS} {V V' : World}
theorem grdCL_take (blt : List UInt8 → Nat → Int) (P : Nms) (s : CS) : ∀ (l : List ND) (k : Nat) (h : k < l.length), grdCL blt P (l.take (k + 1)) s = grdC blt P l[k] (grdCL blt P (l.take k) s)
  | t :: r, 0, _ => by simp [grdCL]
  | t :: r, k + 1, h => by
    simp only [List.take_succ_cons, grdCL, List.getElem_cons_succ]
    rw [grdCL_take blt _ _ r k (by simpa using h)]
  | [], _, h => by simp at h

set_option maxRecDepth 100000 in
set_option maxHeartbeats 4000000 in
theorem grd_k1 (h : CA w0 cb mb nm? K P v sc V) (hK : KK K) (n : Int) (s : List UInt8) (a : Int) (l : List ND) (A : Option Addr) (c : Nat) (v5 v6 : Value) (hsK : s ∈ K) (hR : RdN NoB w0 A c l)
    (hI : ∀ (j : Nat) (hj : j < l.length) (x : EN) (s' : CS) (V' : World), x.t = l[j] → x.Ok NoB w0 → CA w0 cb mb nm? K P v s' V' → Calls Try.prog 54 #[.pointer (some ⟨cb, 0, none⟩), v, .agg #[.int .i64 x.t.kind, .int .i64 x.t.int, .string ⟨x.t.name.toArray⟩, .int .i64 x.t.at_, .slice x.A x.t.kids.length x.c, .slice x.B x.t.clauses.length x.d, .slice x.C x.t.body.length x.e]] V' (VEnd w0 cb mb nm? K P v V' (grdC bltP P l[j] s')))
     {q : CS} (hq : q = grdCL bltP P l (sc)) :
    Calls Try.prog 54 #[.pointer (some ⟨cb, 0, none⟩), v, .agg #[.int .i64 1, .int .i64 n, .string ⟨s.toArray⟩, .int .i64 a, .slice A l.length c, v5, v6]] V (VEnd w0 cb mb nm? K P v V q) := by
  have hlc := hR.1
  have hlc2 := hR.2.1
  have HH := Lib.hid h
  have HQ := Lib.hid hq
  have HR := Lib.hid hR
  have HI := Lib.hid hI
  have hsl := hK.txt s hsK
  have HFA : Hid (∀ e V', CA w0 cb mb nm? K P v sc V' → Calls Try.prog 27 #[.pointer (some ⟨cb, 0, none⟩), .int .i64 e, .int .i64 a] V' fun r w' => r = .returned (.tuple #[]) ∧ CK cb mb nm? (failC e a sc) w' ∧ CFr cb V' w') := fun e V' h' => cfails_any h'.ck e a
  have HLK : Hid (∀ V', CA w0 cb mb nm? K P v sc V' → (Instr.lookup 43 v (.string ⟨s.toArray⟩) false).run Try.prog V' = .ok (.bool (decide (s ∈ P))) V') := fun V' h' => h'.sc.look (by unfold maxLen; omega)
  obtain ⟨len, hlen⟩ : ∃ len, l.length = len := ⟨_, rfl⟩
  have HLN := Lib.hid hlen
  obtain ⟨r0, rfl⟩ := h.sc.form
  rw [hlen] at hlc ⊢
  clear h hq hR hI hlen hsK
  go_enter Try.func54, Try.ntmps54
  go_upto_region 1 with (fail)
  refine wp_world (fun V' => Blk V' V.heap.size 26 #[.int .i64 1, .int .i64 n, .string ⟨s.toArray⟩, .int .i64 a, .slice A len c, v5, v6] ∧ Below V.heap.size V V') ⟨Blk.new _ _ _, below_alloc _ _⟩ ?_
  rintro V1 ⟨hB, hb⟩
  have c0 := hB.cell 0
  have c2 := hB.cell 2
  have c3 := hB.cell 3
  have c4 := hB.cell 4
  have HB := Lib.hid hb
  have HBX := Lib.hid hB
  have HH1 := Lib.hid (HH.out.keep hb)
  clear hB hb HH
  go_upto_region 16 with (fail)
  refine wp_world (fun V' => CA w0 cb mb nm? K P (.map r0) (sc) V' ∧ Blk V' V.heap.size 26 #[.int .i64 1, .int .i64 n, .string ⟨s.toArray⟩, .int .i64 a, .slice A len c, v5, v6] ∧ CFr cb V V') ⟨HH1.out, HBX.out, Fr.of_below HB.out _⟩ ?_
  clear HH1 HBX HB HLK HFA
  clear c0 c2 c3 c4
  rintro V2 ⟨hc2, hb2, hf2⟩
  have HC2 := Lib.hid hc2
  have HF2 := Lib.hid hf2
  have c4 := hb2.cell 4
  clear hc2 hb2 hf2
  go_upto_region 17 with (fail)
  clear c4
  go_loopw [49] (fun i wr => ∃ j : Nat, j ≤ len ∧ i = .int .i64 j ∧ Hid (CA w0 cb mb nm? K P (.map r0) (grdCL bltP P (l.take j) (sc)) wr) ∧ Hid (CFr cb V wr)) (fun i _ => len - (intOf i).toNat)
  case atStart => exact ⟨0, Nat.zero_le _, rfl, by unfold Hid; simpa [grdCL] using HC2.out, HF2.out⟩
  case round =>
    obtain ⟨j, hj, rfl, HC, HF⟩ := hrel
    clear HC2 HF2
    by_cases hlt : j < len
    · have hd1 : decide (j < len) = true := by simpa using hlt
      have hkl : j < l.length := by rw [HLN.out]; exact hlt
      obtain ⟨b, o, x, rfl, hx, hok, e0, e1, e2, e3, e4, e5, e6⟩ := rdn_item HR.out hkl
      have HCL := Lib.hid (HI.out j hkl x _ _ hx hok (HC.out.keep (below_alloc wr (.cells #[.int .i64 x.t.kind, .int .i64 x.t.int, .string ⟨x.t.name.toArray⟩, .int .i64 x.t.at_, .slice x.A x.t.kids.length x.c, .slice x.B x.t.clauses.length x.d, .slice x.C x.t.body.length x.e] 26))))
      have HT := Lib.hid (grdCL_take bltP P (sc) l j hkl)
      replace e0 := HC.out.old e0
      replace e1 := HC.out.old e1
      replace e2 := HC.out.old e2
      replace e3 := HC.out.old e3
      replace e4 := HC.out.old e4
      replace e5 := HC.out.old e5
      replace e6 := HC.out.old e6
      have hq1 : (0 : Int) ≤ (j : Int) := by omega
      have hq2 : (j : Int) < (len : Int) := by omega
      clear hx hok
      go_wp2_with (go_at_call 54; refine HCL.out.mono ?_; rintro e V5 ⟨rfl, hk5, hf5⟩)
      go_roundw
      case rel => exact ⟨j + 1, by omega, by go_num, by rw [HT.out]; exact hk5, (HF.out.same (Fr.alloc _ _ _)).same hf5⟩
      case measure => simp [intOf]; omega
    · obtain rfl : j = len := by omega
      have hd1 : decide (j < j) = false := by simp
      have HT : Hid (q = grdCL bltP P (l.take j) (sc)) := by rw [List.take_of_length_le (by rw [HLN.out]; exact Nat.le_refl _)]; exact HQ.out
      go_wp2
      go_end0
      rw [HT.out]
      exact ⟨rfl, HC.out, HF.out⟩
set_option maxRecDepth 100000 in
set_option maxHeartbeats 4000000 in
theorem grd_k2 (h : CA w0 cb mb nm? K P v sc V) (hK : KK K) (n : Int) (s : List UInt8) (a : Int) (l : List ND) (A : Option Addr) (c : Nat) (v5 v6 : Value) (hsK : s ∈ K) (hR : RdN NoB w0 A c l)
    (hI : ∀ (j : Nat) (hj : j < l.length) (x : EN) (s' : CS) (V' : World), x.t = l[j] → x.Ok NoB w0 → CA w0 cb mb nm? K P v s' V' → Calls Try.prog 54 #[.pointer (some ⟨cb, 0, none⟩), v, .agg #[.int .i64 x.t.kind, .int .i64 x.t.int, .string ⟨x.t.name.toArray⟩, .int .i64 x.t.at_, .slice x.A x.t.kids.length x.c, .slice x.B x.t.clauses.length x.d, .slice x.C x.t.body.length x.e]] V' (VEnd w0 cb mb nm? K P v V' (grdC bltP P l[j] s')))
     {q : CS} (hq : q = grdCL bltP P l (sc)) :
    Calls Try.prog 54 #[.pointer (some ⟨cb, 0, none⟩), v, .agg #[.int .i64 2, .int .i64 n, .string ⟨s.toArray⟩, .int .i64 a, .slice A l.length c, v5, v6]] V (VEnd w0 cb mb nm? K P v V q) := by
  have hlc := hR.1
  have hlc2 := hR.2.1
  have HH := Lib.hid h
  have HQ := Lib.hid hq
  have HR := Lib.hid hR
  have HI := Lib.hid hI
  have hsl := hK.txt s hsK
  have HFA : Hid (∀ e V', CA w0 cb mb nm? K P v sc V' → Calls Try.prog 27 #[.pointer (some ⟨cb, 0, none⟩), .int .i64 e, .int .i64 a] V' fun r w' => r = .returned (.tuple #[]) ∧ CK cb mb nm? (failC e a sc) w' ∧ CFr cb V' w') := fun e V' h' => cfails_any h'.ck e a
  have HLK : Hid (∀ V', CA w0 cb mb nm? K P v sc V' → (Instr.lookup 43 v (.string ⟨s.toArray⟩) false).run Try.prog V' = .ok (.bool (decide (s ∈ P))) V') := fun V' h' => h'.sc.look (by unfold maxLen; omega)
  obtain ⟨len, hlen⟩ : ∃ len, l.length = len := ⟨_, rfl⟩
  have HLN := Lib.hid hlen
  obtain ⟨r0, rfl⟩ := h.sc.form
  rw [hlen] at hlc ⊢
  clear h hq hR hI hlen hsK
  go_enter Try.func54, Try.ntmps54
  go_upto_region 1 with (fail)
  refine wp_world (fun V' => Blk V' V.heap.size 26 #[.int .i64 2, .int .i64 n, .string ⟨s.toArray⟩, .int .i64 a, .slice A len c, v5, v6] ∧ Below V.heap.size V V') ⟨Blk.new _ _ _, below_alloc _ _⟩ ?_
  rintro V1 ⟨hB, hb⟩
  have c0 := hB.cell 0
  have c2 := hB.cell 2
  have c3 := hB.cell 3
  have c4 := hB.cell 4
  have HB := Lib.hid hb
  have HBX := Lib.hid hB
  have HH1 := Lib.hid (HH.out.keep hb)
  clear hB hb HH
  go_upto_region 16 with (fail)
  refine wp_world (fun V' => CA w0 cb mb nm? K P (.map r0) (sc) V' ∧ Blk V' V.heap.size 26 #[.int .i64 2, .int .i64 n, .string ⟨s.toArray⟩, .int .i64 a, .slice A len c, v5, v6] ∧ CFr cb V V') ⟨HH1.out, HBX.out, Fr.of_below HB.out _⟩ ?_
  clear HH1 HBX HB HLK HFA
  clear c0 c2 c3 c4
  rintro V2 ⟨hc2, hb2, hf2⟩
  have HC2 := Lib.hid hc2
  have HF2 := Lib.hid hf2
  have c4 := hb2.cell 4
  clear hc2 hb2 hf2
  go_upto_region 17 with (fail)
  clear c4
  go_loopw [49] (fun i wr => ∃ j : Nat, j ≤ len ∧ i = .int .i64 j ∧ Hid (CA w0 cb mb nm? K P (.map r0) (grdCL bltP P (l.take j) (sc)) wr) ∧ Hid (CFr cb V wr)) (fun i _ => len - (intOf i).toNat)
  case atStart => exact ⟨0, Nat.zero_le _, rfl, by unfold Hid; simpa [grdCL] using HC2.out, HF2.out⟩
  case round =>
    obtain ⟨j, hj, rfl, HC, HF⟩ := hrel
    clear HC2 HF2
    by_cases hlt : j < len
    · have hd1 : decide (j < len) = true := by simpa using hlt
      have hkl : j < l.length := by rw [HLN.out]; exact hlt
      obtain ⟨b, o, x, rfl, hx, hok, e0, e1, e2, e3, e4, e5, e6⟩ := rdn_item HR.out hkl
      have HCL := Lib.hid (HI.out j hkl x _ _ hx hok (HC.out.keep (below_alloc wr (.cells #[.int .i64 x.t.kind, .int .i64 x.t.int, .string ⟨x.t.name.toArray⟩, .int .i64 x.t.at_, .slice x.A x.t.kids.length x.c, .slice x.B x.t.clauses.length x.d, .slice x.C x.t.body.length x.e] 26))))
      have HT := Lib.hid (grdCL_take bltP P (sc) l j hkl)
      replace e0 := HC.out.old e0
      replace e1 := HC.out.old e1
      replace e2 := HC.out.old e2
      replace e3 := HC.out.old e3
      replace e4 := HC.out.old e4
      replace e5 := HC.out.old e5
      replace e6 := HC.out.old e6
      have hq1 : (0 : Int) ≤ (j : Int) := by omega
      have hq2 : (j : Int) < (len : Int) := by omega
      clear hx hok
      go_wp2_with (go_at_call 54; refine HCL.out.mono ?_; rintro e V5 ⟨rfl, hk5, hf5⟩)
      go_roundw
      case rel => exact ⟨j + 1, by omega, by go_num, by rw [HT.out]; exact hk5, (HF.out.same (Fr.alloc _ _ _)).same hf5⟩
      case measure => simp [intOf]; omega
    · obtain rfl : j = len := by omega
      have hd1 : decide (j < j) = false := by simp
      have HT : Hid (q = grdCL bltP P (l.take j) (sc)) := by rw [List.take_of_length_le (by rw [HLN.out]; exact Nat.le_refl _)]; exact HQ.out
      go_wp2
      go_end0
      rw [HT.out]
      exact ⟨rfl, HC.out, HF.out⟩
set_option maxRecDepth 100000 in
set_option maxHeartbeats 4000000 in
theorem grd_k5 (h : CA w0 cb mb nm? K P v sc V) (hK : KK K) (n : Int) (s : List UInt8) (a : Int) (l : List ND) (A : Option Addr) (c : Nat) (v5 v6 : Value) (hsK : s ∈ K) (hR : RdN NoB w0 A c l)
    (hI : ∀ (j : Nat) (hj : j < l.length) (x : EN) (s' : CS) (V' : World), x.t = l[j] → x.Ok NoB w0 → CA w0 cb mb nm? K P v s' V' → Calls Try.prog 54 #[.pointer (some ⟨cb, 0, none⟩), v, .agg #[.int .i64 x.t.kind, .int .i64 x.t.int, .string ⟨x.t.name.toArray⟩, .int .i64 x.t.at_, .slice x.A x.t.kids.length x.c, .slice x.B x.t.clauses.length x.d, .slice x.C x.t.body.length x.e]] V' (VEnd w0 cb mb nm? K P v V' (grdC bltP P l[j] s')))
     {q : CS} (hq : q = grdCL bltP P l (sc)) :
    Calls Try.prog 54 #[.pointer (some ⟨cb, 0, none⟩), v, .agg #[.int .i64 5, .int .i64 n, .string ⟨s.toArray⟩, .int .i64 a, .slice A l.length c, v5, v6]] V (VEnd w0 cb mb nm? K P v V q) := by
  have hlc := hR.1
  have hlc2 := hR.2.1
  have HH := Lib.hid h
  have HQ := Lib.hid hq
  have HR := Lib.hid hR
  have HI := Lib.hid hI
  have hsl := hK.txt s hsK
  have HFA : Hid (∀ e V', CA w0 cb mb nm? K P v sc V' → Calls Try.prog 27 #[.pointer (some ⟨cb, 0, none⟩), .int .i64 e, .int .i64 a] V' fun r w' => r = .returned (.tuple #[]) ∧ CK cb mb nm? (failC e a sc) w' ∧ CFr cb V' w') := fun e V' h' => cfails_any h'.ck e a
  have HLK : Hid (∀ V', CA w0 cb mb nm? K P v sc V' → (Instr.lookup 43 v (.string ⟨s.toArray⟩) false).run Try.prog V' = .ok (.bool (decide (s ∈ P))) V') := fun V' h' => h'.sc.look (by unfold maxLen; omega)
  obtain ⟨len, hlen⟩ : ∃ len, l.length = len := ⟨_, rfl⟩
  have HLN := Lib.hid hlen
  obtain ⟨r0, rfl⟩ := h.sc.form
  rw [hlen] at hlc ⊢
  clear h hq hR hI hlen hsK
  go_enter Try.func54, Try.ntmps54
  go_upto_region 1 with (fail)
  refine wp_world (fun V' => Blk V' V.heap.size 26 #[.int .i64 5, .int .i64 n, .string ⟨s.toArray⟩, .int .i64 a, .slice A len c, v5, v6] ∧ Below V.heap.size V V') ⟨Blk.new _ _ _, below_alloc _ _⟩ ?_
  rintro V1 ⟨hB, hb⟩
  have c0 := hB.cell 0
  have c2 := hB.cell 2
  have c3 := hB.cell 3
  have c4 := hB.cell 4
  have HB := Lib.hid hb
  have HBX := Lib.hid hB
  have HH1 := Lib.hid (HH.out.keep hb)
  clear hB hb HH
  go_upto_region 16 with (fail)
  refine wp_world (fun V' => CA w0 cb mb nm? K P (.map r0) (sc) V' ∧ Blk V' V.heap.size 26 #[.int .i64 5, .int .i64 n, .string ⟨s.toArray⟩, .int .i64 a, .slice A len c, v5, v6] ∧ CFr cb V V') ⟨HH1.out, HBX.out, Fr.of_below HB.out _⟩ ?_
  clear HH1 HBX HB HLK HFA
  clear c0 c2 c3 c4
  rintro V2 ⟨hc2, hb2, hf2⟩
  have HC2 := Lib.hid hc2
  have HF2 := Lib.hid hf2
  have c4 := hb2.cell 4
  clear hc2 hb2 hf2
  go_upto_region 17 with (fail)
  clear c4
  go_loopw [49] (fun i wr => ∃ j : Nat, j ≤ len ∧ i = .int .i64 j ∧ Hid (CA w0 cb mb nm? K P (.map r0) (grdCL bltP P (l.take j) (sc)) wr) ∧ Hid (CFr cb V wr)) (fun i _ => len - (intOf i).toNat)
  case atStart => exact ⟨0, Nat.zero_le _, rfl, by unfold Hid; simpa [grdCL] using HC2.out, HF2.out⟩
  case round =>
    obtain ⟨j, hj, rfl, HC, HF⟩ := hrel
    clear HC2 HF2
    by_cases hlt : j < len
    · have hd1 : decide (j < len) = true := by simpa using hlt
      have hkl : j < l.length := by rw [HLN.out]; exact hlt
      obtain ⟨b, o, x, rfl, hx, hok, e0, e1, e2, e3, e4, e5, e6⟩ := rdn_item HR.out hkl
      have HCL := Lib.hid (HI.out j hkl x _ _ hx hok (HC.out.keep (below_alloc wr (.cells #[.int .i64 x.t.kind, .int .i64 x.t.int, .string ⟨x.t.name.toArray⟩, .int .i64 x.t.at_, .slice x.A x.t.kids.length x.c, .slice x.B x.t.clauses.length x.d, .slice x.C x.t.body.length x.e] 26))))
      have HT := Lib.hid (grdCL_take bltP P (sc) l j hkl)
      replace e0 := HC.out.old e0
      replace e1 := HC.out.old e1
      replace e2 := HC.out.old e2
      replace e3 := HC.out.old e3
      replace e4 := HC.out.old e4
      replace e5 := HC.out.old e5
      replace e6 := HC.out.old e6
      have hq1 : (0 : Int) ≤ (j : Int) := by omega
      have hq2 : (j : Int) < (len : Int) := by omega
      clear hx hok
      go_wp2_with (go_at_call 54; refine HCL.out.mono ?_; rintro e V5 ⟨rfl, hk5, hf5⟩)
      go_roundw
      case rel => exact ⟨j + 1, by omega, by go_num, by rw [HT.out]; exact hk5, (HF.out.same (Fr.alloc _ _ _)).same hf5⟩
      case measure => simp [intOf]; omega
    · obtain rfl : j = len := by omega
      have hd1 : decide (j < j) = false := by simp
      have HT : Hid (q = grdCL bltP P (l.take j) (sc)) := by rw [List.take_of_length_le (by rw [HLN.out]; exact Nat.le_refl _)]; exact HQ.out
      go_wp2
      go_end0
      rw [HT.out]
      exact ⟨rfl, HC.out, HF.out⟩
set_option maxRecDepth 100000 in
set_option maxHeartbeats 4000000 in
theorem grd_k4 (h : CA w0 cb mb nm? K P v sc V) (hK : KK K) (n : Int) (s : List UInt8) (a : Int) (l : List ND) (A : Option Addr) (c : Nat) (v5 v6 : Value) (hsK : s ∈ K) (hR : RdN NoB w0 A c l)
    (hI : ∀ (j : Nat) (hj : j < l.length) (x : EN) (s' : CS) (V' : World), x.t = l[j] → x.Ok NoB w0 → CA w0 cb mb nm? K P v s' V' → Calls Try.prog 54 #[.pointer (some ⟨cb, 0, none⟩), v, .agg #[.int .i64 x.t.kind, .int .i64 x.t.int, .string ⟨x.t.name.toArray⟩, .int .i64 x.t.at_, .slice x.A x.t.kids.length x.c, .slice x.B x.t.clauses.length x.d, .slice x.C x.t.body.length x.e]] V' (VEnd w0 cb mb nm? K P v V' (grdC bltP P l[j] s')))
     {q : CS} (hq : q = grdCL bltP P l (sc)) :
    Calls Try.prog 54 #[.pointer (some ⟨cb, 0, none⟩), v, .agg #[.int .i64 4, .int .i64 n, .string ⟨s.toArray⟩, .int .i64 a, .slice A l.length c, v5, v6]] V (VEnd w0 cb mb nm? K P v V q) := by
  have hlc := hR.1
  have hlc2 := hR.2.1
  have HH := Lib.hid h
  have HQ := Lib.hid hq
  have HR := Lib.hid hR
  have HI := Lib.hid hI
  have hsl := hK.txt s hsK
  have HFA : Hid (∀ e V', CA w0 cb mb nm? K P v sc V' → Calls Try.prog 27 #[.pointer (some ⟨cb, 0, none⟩), .int .i64 e, .int .i64 a] V' fun r w' => r = .returned (.tuple #[]) ∧ CK cb mb nm? (failC e a sc) w' ∧ CFr cb V' w') := fun e V' h' => cfails_any h'.ck e a
  have HLK : Hid (∀ V', CA w0 cb mb nm? K P v sc V' → (Instr.lookup 43 v (.string ⟨s.toArray⟩) false).run Try.prog V' = .ok (.bool (decide (s ∈ P))) V') := fun V' h' => h'.sc.look (by unfold maxLen; omega)
  obtain ⟨len, hlen⟩ : ∃ len, l.length = len := ⟨_, rfl⟩
  have HLN := Lib.hid hlen
  obtain ⟨r0, rfl⟩ := h.sc.form
  rw [hlen] at hlc ⊢
  clear h hq hR hI hlen hsK
  go_enter Try.func54, Try.ntmps54
  go_upto_region 1 with (fail)
  refine wp_world (fun V' => Blk V' V.heap.size 26 #[.int .i64 4, .int .i64 n, .string ⟨s.toArray⟩, .int .i64 a, .slice A len c, v5, v6] ∧ Below V.heap.size V V') ⟨Blk.new _ _ _, below_alloc _ _⟩ ?_
  rintro V1 ⟨hB, hb⟩
  have c0 := hB.cell 0
  have c2 := hB.cell 2
  have c3 := hB.cell 3
  have c4 := hB.cell 4
  have HB := Lib.hid hb
  have HBX := Lib.hid hB
  have HH1 := Lib.hid (HH.out.keep hb)
  clear hB hb HH
  go_upto_region 16 with (fail)
  refine wp_world (fun V' => CA w0 cb mb nm? K P (.map r0) (sc) V' ∧ Blk V' V.heap.size 26 #[.int .i64 4, .int .i64 n, .string ⟨s.toArray⟩, .int .i64 a, .slice A len c, v5, v6] ∧ CFr cb V V') ⟨HH1.out, HBX.out, Fr.of_below HB.out _⟩ ?_
  clear HH1 HBX HB HLK HFA
  clear c0 c2 c3 c4
  rintro V2 ⟨hc2, hb2, hf2⟩
  have HC2 := Lib.hid hc2
  have HF2 := Lib.hid hf2
  have c4 := hb2.cell 4
  clear hc2 hb2 hf2
  go_upto_region 17 with (fail)
  clear c4
  go_loopw [49] (fun i wr => ∃ j : Nat, j ≤ len ∧ i = .int .i64 j ∧ Hid (CA w0 cb mb nm? K P (.map r0) (grdCL bltP P (l.take j) (sc)) wr) ∧ Hid (CFr cb V wr)) (fun i _ => len - (intOf i).toNat)
  case atStart => exact ⟨0, Nat.zero_le _, rfl, by unfold Hid; simpa [grdCL] using HC2.out, HF2.out⟩
  case round =>
    obtain ⟨j, hj, rfl, HC, HF⟩ := hrel
    clear HC2 HF2
    by_cases hlt : j < len
    · have hd1 : decide (j < len) = true := by simpa using hlt
      have hkl : j < l.length := by rw [HLN.out]; exact hlt
      obtain ⟨b, o, x, rfl, hx, hok, e0, e1, e2, e3, e4, e5, e6⟩ := rdn_item HR.out hkl
      have HCL := Lib.hid (HI.out j hkl x _ _ hx hok (HC.out.keep (below_alloc wr (.cells #[.int .i64 x.t.kind, .int .i64 x.t.int, .string ⟨x.t.name.toArray⟩, .int .i64 x.t.at_, .slice x.A x.t.kids.length x.c, .slice x.B x.t.clauses.length x.d, .slice x.C x.t.body.length x.e] 26))))
      have HT := Lib.hid (grdCL_take bltP P (sc) l j hkl)
      replace e0 := HC.out.old e0
      replace e1 := HC.out.old e1
      replace e2 := HC.out.old e2
      replace e3 := HC.out.old e3
      replace e4 := HC.out.old e4
      replace e5 := HC.out.old e5
      replace e6 := HC.out.old e6
      have hq1 : (0 : Int) ≤ (j : Int) := by omega
      have hq2 : (j : Int) < (len : Int) := by omega
      clear hx hok
      go_wp2_with (go_at_call 54; refine HCL.out.mono ?_; rintro e V5 ⟨rfl, hk5, hf5⟩)
      go_roundw
      case rel => exact ⟨j + 1, by omega, by go_num, by rw [HT.out]; exact hk5, (HF.out.same (Fr.alloc _ _ _)).same hf5⟩
      case measure => simp [intOf]; omega
    · obtain rfl : j = len := by omega
      have hd1 : decide (j < j) = false := by simp
      have HT : Hid (q = grdCL bltP P (l.take j) (sc)) := by rw [List.take_of_length_le (by rw [HLN.out]; exact Nat.le_refl _)]; exact HQ.out
      go_wp2
      go_end0
      rw [HT.out]
      exact ⟨rfl, HC.out, HF.out⟩
set_option maxRecDepth 100000 in
set_option maxHeartbeats 4000000 in
theorem grd_k6 (h : CA w0 cb mb nm? K P v sc V) (hK : KK K) (n : Int) (s : List UInt8) (a : Int) (l : List ND) (A : Option Addr) (c : Nat) (v5 v6 : Value) (hsK : s ∈ K) (hR : RdN NoB w0 A c l)
    (hI : ∀ (j : Nat) (hj : j < l.length) (x : EN) (s' : CS) (V' : World), x.t = l[j] → x.Ok NoB w0 → CA w0 cb mb nm? K P v s' V' → Calls Try.prog 54 #[.pointer (some ⟨cb, 0, none⟩), v, .agg #[.int .i64 x.t.kind, .int .i64 x.t.int, .string ⟨x.t.name.toArray⟩, .int .i64 x.t.at_, .slice x.A x.t.kids.length x.c, .slice x.B x.t.clauses.length x.d, .slice x.C x.t.body.length x.e]] V' (VEnd w0 cb mb nm? K P v V' (grdC bltP P l[j] s')))
     {q : CS} (hq : q = grdCL bltP P l (sc)) :
    Calls Try.prog 54 #[.pointer (some ⟨cb, 0, none⟩), v, .agg #[.int .i64 6, .int .i64 n, .string ⟨s.toArray⟩, .int .i64 a, .slice A l.length c, v5, v6]] V (VEnd w0 cb mb nm? K P v V q) := by
  have hlc := hR.1
  have hlc2 := hR.2.1
  have HH := Lib.hid h
  have HQ := Lib.hid hq
  have HR := Lib.hid hR
  have HI := Lib.hid hI
  have hsl := hK.txt s hsK
  have HFA : Hid (∀ e V', CA w0 cb mb nm? K P v sc V' → Calls Try.prog 27 #[.pointer (some ⟨cb, 0, none⟩), .int .i64 e, .int .i64 a] V' fun r w' => r = .returned (.tuple #[]) ∧ CK cb mb nm? (failC e a sc) w' ∧ CFr cb V' w') := fun e V' h' => cfails_any h'.ck e a
  have HLK : Hid (∀ V', CA w0 cb mb nm? K P v sc V' → (Instr.lookup 43 v (.string ⟨s.toArray⟩) false).run Try.prog V' = .ok (.bool (decide (s ∈ P))) V') := fun V' h' => h'.sc.look (by unfold maxLen; omega)
  obtain ⟨len, hlen⟩ : ∃ len, l.length = len := ⟨_, rfl⟩
  have HLN := Lib.hid hlen
  obtain ⟨r0, rfl⟩ := h.sc.form
  rw [hlen] at hlc ⊢
  clear h hq hR hI hlen hsK
  go_enter Try.func54, Try.ntmps54
  go_upto_region 1 with (fail)
  refine wp_world (fun V' => Blk V' V.heap.size 26 #[.int .i64 6, .int .i64 n, .string ⟨s.toArray⟩, .int .i64 a, .slice A len c, v5, v6] ∧ Below V.heap.size V V') ⟨Blk.new _ _ _, below_alloc _ _⟩ ?_
  rintro V1 ⟨hB, hb⟩
  have c0 := hB.cell 0
  have c2 := hB.cell 2
  have c3 := hB.cell 3
  have c4 := hB.cell 4
  have HB := Lib.hid hb
  have HBX := Lib.hid hB
  have HH1 := Lib.hid (HH.out.keep hb)
  clear hB hb HH
  go_upto_region 16 with (fail)
  refine wp_world (fun V' => CA w0 cb mb nm? K P (.map r0) (sc) V' ∧ Blk V' V.heap.size 26 #[.int .i64 6, .int .i64 n, .string ⟨s.toArray⟩, .int .i64 a, .slice A len c, v5, v6] ∧ CFr cb V V') ⟨HH1.out, HBX.out, Fr.of_below HB.out _⟩ ?_
  clear HH1 HBX HB HLK HFA
  clear c0 c2 c3 c4
  rintro V2 ⟨hc2, hb2, hf2⟩
  have HC2 := Lib.hid hc2
  have HF2 := Lib.hid hf2
  have c4 := hb2.cell 4
  clear hc2 hb2 hf2
  go_upto_region 17 with (fail)
  clear c4
  go_loopw [49] (fun i wr => ∃ j : Nat, j ≤ len ∧ i = .int .i64 j ∧ Hid (CA w0 cb mb nm? K P (.map r0) (grdCL bltP P (l.take j) (sc)) wr) ∧ Hid (CFr cb V wr)) (fun i _ => len - (intOf i).toNat)
  case atStart => exact ⟨0, Nat.zero_le _, rfl, by unfold Hid; simpa [grdCL] using HC2.out, HF2.out⟩
  case round =>
    obtain ⟨j, hj, rfl, HC, HF⟩ := hrel
    clear HC2 HF2
    by_cases hlt : j < len
    · have hd1 : decide (j < len) = true := by simpa using hlt
      have hkl : j < l.length := by rw [HLN.out]; exact hlt
      obtain ⟨b, o, x, rfl, hx, hok, e0, e1, e2, e3, e4, e5, e6⟩ := rdn_item HR.out hkl
      have HCL := Lib.hid (HI.out j hkl x _ _ hx hok (HC.out.keep (below_alloc wr (.cells #[.int .i64 x.t.kind, .int .i64 x.t.int, .string ⟨x.t.name.toArray⟩, .int .i64 x.t.at_, .slice x.A x.t.kids.length x.c, .slice x.B x.t.clauses.length x.d, .slice x.C x.t.body.length x.e] 26))))
      have HT := Lib.hid (grdCL_take bltP P (sc) l j hkl)
      replace e0 := HC.out.old e0
      replace e1 := HC.out.old e1
      replace e2 := HC.out.old e2
      replace e3 := HC.out.old e3
      replace e4 := HC.out.old e4
      replace e5 := HC.out.old e5
      replace e6 := HC.out.old e6
      have hq1 : (0 : Int) ≤ (j : Int) := by omega
      have hq2 : (j : Int) < (len : Int) := by omega
      clear hx hok
      go_wp2_with (go_at_call 54; refine HCL.out.mono ?_; rintro e V5 ⟨rfl, hk5, hf5⟩)
      go_roundw
      case rel => exact ⟨j + 1, by omega, by go_num, by rw [HT.out]; exact hk5, (HF.out.same (Fr.alloc _ _ _)).same hf5⟩
      case measure => simp [intOf]; omega
    · obtain rfl : j = len := by omega
      have hd1 : decide (j < j) = false := by simp
      have HT : Hid (q = grdCL bltP P (l.take j) (sc)) := by rw [List.take_of_length_le (by rw [HLN.out]; exact Nat.le_refl _)]; exact HQ.out
      go_wp2
      go_end0
      rw [HT.out]
      exact ⟨rfl, HC.out, HF.out⟩
set_option maxRecDepth 100000 in
set_option maxHeartbeats 4000000 in
theorem grd_k9 (h : CA w0 cb mb nm? K P v sc V) (hK : KK K) (n : Int) (s : List UInt8) (a : Int) (l : List ND) (A : Option Addr) (c : Nat) (v5 v6 : Value) (hsK : s ∈ K) (hR : RdN NoB w0 A c l)
    (hI : ∀ (j : Nat) (hj : j < l.length) (x : EN) (s' : CS) (V' : World), x.t = l[j] → x.Ok NoB w0 → CA w0 cb mb nm? K P v s' V' → Calls Try.prog 54 #[.pointer (some ⟨cb, 0, none⟩), v, .agg #[.int .i64 x.t.kind, .int .i64 x.t.int, .string ⟨x.t.name.toArray⟩, .int .i64 x.t.at_, .slice x.A x.t.kids.length x.c, .slice x.B x.t.clauses.length x.d, .slice x.C x.t.body.length x.e]] V' (VEnd w0 cb mb nm? K P v V' (grdC bltP P l[j] s')))
     {q : CS} (hq : q = grdCL bltP P l (sc)) :
    Calls Try.prog 54 #[.pointer (some ⟨cb, 0, none⟩), v, .agg #[.int .i64 9, .int .i64 n, .string ⟨s.toArray⟩, .int .i64 a, .slice A l.length c, v5, v6]] V (VEnd w0 cb mb nm? K P v V q) := by
  have hlc := hR.1
  have hlc2 := hR.2.1
  have HH := Lib.hid h
  have HQ := Lib.hid hq
  have HR := Lib.hid hR
  have HI := Lib.hid hI
  have hsl := hK.txt s hsK
  have HFA : Hid (∀ e V', CA w0 cb mb nm? K P v sc V' → Calls Try.prog 27 #[.pointer (some ⟨cb, 0, none⟩), .int .i64 e, .int .i64 a] V' fun r w' => r = .returned (.tuple #[]) ∧ CK cb mb nm? (failC e a sc) w' ∧ CFr cb V' w') := fun e V' h' => cfails_any h'.ck e a
  have HLK : Hid (∀ V', CA w0 cb mb nm? K P v sc V' → (Instr.lookup 43 v (.string ⟨s.toArray⟩) false).run Try.prog V' = .ok (.bool (decide (s ∈ P))) V') := fun V' h' => h'.sc.look (by unfold maxLen; omega)
  obtain ⟨len, hlen⟩ : ∃ len, l.length = len := ⟨_, rfl⟩
  have HLN := Lib.hid hlen
  obtain ⟨r0, rfl⟩ := h.sc.form
  rw [hlen] at hlc ⊢
  clear h hq hR hI hlen hsK
  go_enter Try.func54, Try.ntmps54
  go_upto_region 1 with (fail)
  refine wp_world (fun V' => Blk V' V.heap.size 26 #[.int .i64 9, .int .i64 n, .string ⟨s.toArray⟩, .int .i64 a, .slice A len c, v5, v6] ∧ Below V.heap.size V V') ⟨Blk.new _ _ _, below_alloc _ _⟩ ?_
  rintro V1 ⟨hB, hb⟩
  have c0 := hB.cell 0
  have c2 := hB.cell 2
  have c3 := hB.cell 3
  have c4 := hB.cell 4
  have HB := Lib.hid hb
  have HBX := Lib.hid hB
  have HH1 := Lib.hid (HH.out.keep hb)
  clear hB hb HH
  go_upto_region 16 with (fail)
  refine wp_world (fun V' => CA w0 cb mb nm? K P (.map r0) (sc) V' ∧ Blk V' V.heap.size 26 #[.int .i64 9, .int .i64 n, .string ⟨s.toArray⟩, .int .i64 a, .slice A len c, v5, v6] ∧ CFr cb V V') ⟨HH1.out, HBX.out, Fr.of_below HB.out _⟩ ?_
  clear HH1 HBX HB HLK HFA
  clear c0 c2 c3 c4
  rintro V2 ⟨hc2, hb2, hf2⟩
  have HC2 := Lib.hid hc2
  have HF2 := Lib.hid hf2
  have c4 := hb2.cell 4
  clear hc2 hb2 hf2
  go_upto_region 17 with (fail)
  clear c4
  go_loopw [49] (fun i wr => ∃ j : Nat, j ≤ len ∧ i = .int .i64 j ∧ Hid (CA w0 cb mb nm? K P (.map r0) (grdCL bltP P (l.take j) (sc)) wr) ∧ Hid (CFr cb V wr)) (fun i _ => len - (intOf i).toNat)
  case atStart => exact ⟨0, Nat.zero_le _, rfl, by unfold Hid; simpa [grdCL] using HC2.out, HF2.out⟩
  case round =>
    obtain ⟨j, hj, rfl, HC, HF⟩ := hrel
    clear HC2 HF2
    by_cases hlt : j < len
    · have hd1 : decide (j < len) = true := by simpa using hlt
      have hkl : j < l.length := by rw [HLN.out]; exact hlt
      obtain ⟨b, o, x, rfl, hx, hok, e0, e1, e2, e3, e4, e5, e6⟩ := rdn_item HR.out hkl
      have HCL := Lib.hid (HI.out j hkl x _ _ hx hok (HC.out.keep (below_alloc wr (.cells #[.int .i64 x.t.kind, .int .i64 x.t.int, .string ⟨x.t.name.toArray⟩, .int .i64 x.t.at_, .slice x.A x.t.kids.length x.c, .slice x.B x.t.clauses.length x.d, .slice x.C x.t.body.length x.e] 26))))
      have HT := Lib.hid (grdCL_take bltP P (sc) l j hkl)
      replace e0 := HC.out.old e0
      replace e1 := HC.out.old e1
      replace e2 := HC.out.old e2
      replace e3 := HC.out.old e3
      replace e4 := HC.out.old e4
      replace e5 := HC.out.old e5
      replace e6 := HC.out.old e6
      have hq1 : (0 : Int) ≤ (j : Int) := by omega
      have hq2 : (j : Int) < (len : Int) := by omega
      clear hx hok
      go_wp2_with (go_at_call 54; refine HCL.out.mono ?_; rintro e V5 ⟨rfl, hk5, hf5⟩)
      go_roundw
      case rel => exact ⟨j + 1, by omega, by go_num, by rw [HT.out]; exact hk5, (HF.out.same (Fr.alloc _ _ _)).same hf5⟩
      case measure => simp [intOf]; omega
    · obtain rfl : j = len := by omega
      have hd1 : decide (j < j) = false := by simp
      have HT : Hid (q = grdCL bltP P (l.take j) (sc)) := by rw [List.take_of_length_le (by rw [HLN.out]; exact Nat.le_refl _)]; exact HQ.out
      go_wp2
      go_end0
      rw [HT.out]
      exact ⟨rfl, HC.out, HF.out⟩
set_option maxRecDepth 100000 in
set_option maxHeartbeats 4000000 in
theorem grd_k10 (h : CA w0 cb mb nm? K P v sc V) (hK : KK K) (n : Int) (s : List UInt8) (a : Int) (l : List ND) (A : Option Addr) (c : Nat) (v5 v6 : Value) (hsK : s ∈ K) (hR : RdN NoB w0 A c l)
    (hI : ∀ (j : Nat) (hj : j < l.length) (x : EN) (s' : CS) (V' : World), x.t = l[j] → x.Ok NoB w0 → CA w0 cb mb nm? K P v s' V' → Calls Try.prog 54 #[.pointer (some ⟨cb, 0, none⟩), v, .agg #[.int .i64 x.t.kind, .int .i64 x.t.int, .string ⟨x.t.name.toArray⟩, .int .i64 x.t.at_, .slice x.A x.t.kids.length x.c, .slice x.B x.t.clauses.length x.d, .slice x.C x.t.body.length x.e]] V' (VEnd w0 cb mb nm? K P v V' (grdC bltP P l[j] s')))
     {q : CS} (hq : q = grdCL bltP P l (sc)) :
    Calls Try.prog 54 #[.pointer (some ⟨cb, 0, none⟩), v, .agg #[.int .i64 10, .int .i64 n, .string ⟨s.toArray⟩, .int .i64 a, .slice A l.length c, v5, v6]] V (VEnd w0 cb mb nm? K P v V q) := by
  have hlc := hR.1
  have hlc2 := hR.2.1
  have HH := Lib.hid h
  have HQ := Lib.hid hq
  have HR := Lib.hid hR
  have HI := Lib.hid hI
  have hsl := hK.txt s hsK
  have HFA : Hid (∀ e V', CA w0 cb mb nm? K P v sc V' → Calls Try.prog 27 #[.pointer (some ⟨cb, 0, none⟩), .int .i64 e, .int .i64 a] V' fun r w' => r = .returned (.tuple #[]) ∧ CK cb mb nm? (failC e a sc) w' ∧ CFr cb V' w') := fun e V' h' => cfails_any h'.ck e a
  have HLK : Hid (∀ V', CA w0 cb mb nm? K P v sc V' → (Instr.lookup 43 v (.string ⟨s.toArray⟩) false).run Try.prog V' = .ok (.bool (decide (s ∈ P))) V') := fun V' h' => h'.sc.look (by unfold maxLen; omega)
  obtain ⟨len, hlen⟩ : ∃ len, l.length = len := ⟨_, rfl⟩
  have HLN := Lib.hid hlen
  obtain ⟨r0, rfl⟩ := h.sc.form
  rw [hlen] at hlc ⊢
  clear h hq hR hI hlen hsK
  go_enter Try.func54, Try.ntmps54
  go_upto_region 1 with (fail)
  refine wp_world (fun V' => Blk V' V.heap.size 26 #[.int .i64 10, .int .i64 n, .string ⟨s.toArray⟩, .int .i64 a, .slice A len c, v5, v6] ∧ Below V.heap.size V V') ⟨Blk.new _ _ _, below_alloc _ _⟩ ?_
  rintro V1 ⟨hB, hb⟩
  have c0 := hB.cell 0
  have c2 := hB.cell 2
  have c3 := hB.cell 3
  have c4 := hB.cell 4
  have HB := Lib.hid hb
  have HBX := Lib.hid hB
  have HH1 := Lib.hid (HH.out.keep hb)
  clear hB hb HH
  go_upto_region 16 with (fail)
  refine wp_world (fun V' => CA w0 cb mb nm? K P (.map r0) (sc) V' ∧ Blk V' V.heap.size 26 #[.int .i64 10, .int .i64 n, .string ⟨s.toArray⟩, .int .i64 a, .slice A len c, v5, v6] ∧ CFr cb V V') ⟨HH1.out, HBX.out, Fr.of_below HB.out _⟩ ?_
  clear HH1 HBX HB HLK HFA
  clear c0 c2 c3 c4
  rintro V2 ⟨hc2, hb2, hf2⟩
  have HC2 := Lib.hid hc2
  have HF2 := Lib.hid hf2
  have c4 := hb2.cell 4
  clear hc2 hb2 hf2
  go_upto_region 17 with (fail)
  clear c4
  go_loopw [49] (fun i wr => ∃ j : Nat, j ≤ len ∧ i = .int .i64 j ∧ Hid (CA w0 cb mb nm? K P (.map r0) (grdCL bltP P (l.take j) (sc)) wr) ∧ Hid (CFr cb V wr)) (fun i _ => len - (intOf i).toNat)
  case atStart => exact ⟨0, Nat.zero_le _, rfl, by unfold Hid; simpa [grdCL] using HC2.out, HF2.out⟩
  case round =>
    obtain ⟨j, hj, rfl, HC, HF⟩ := hrel
    clear HC2 HF2
    by_cases hlt : j < len
    · have hd1 : decide (j < len) = true := by simpa using hlt
      have hkl : j < l.length := by rw [HLN.out]; exact hlt
      obtain ⟨b, o, x, rfl, hx, hok, e0, e1, e2, e3, e4, e5, e6⟩ := rdn_item HR.out hkl
      have HCL := Lib.hid (HI.out j hkl x _ _ hx hok (HC.out.keep (below_alloc wr (.cells #[.int .i64 x.t.kind, .int .i64 x.t.int, .string ⟨x.t.name.toArray⟩, .int .i64 x.t.at_, .slice x.A x.t.kids.length x.c, .slice x.B x.t.clauses.length x.d, .slice x.C x.t.body.length x.e] 26))))
      have HT := Lib.hid (grdCL_take bltP P (sc) l j hkl)
      replace e0 := HC.out.old e0
      replace e1 := HC.out.old e1
      replace e2 := HC.out.old e2
      replace e3 := HC.out.old e3
      replace e4 := HC.out.old e4
      replace e5 := HC.out.old e5
      replace e6 := HC.out.old e6
      have hq1 : (0 : Int) ≤ (j : Int) := by omega
      have hq2 : (j : Int) < (len : Int) := by omega
      clear hx hok
      go_wp2_with (go_at_call 54; refine HCL.out.mono ?_; rintro e V5 ⟨rfl, hk5, hf5⟩)
      go_roundw
      case rel => exact ⟨j + 1, by omega, by go_num, by rw [HT.out]; exact hk5, (HF.out.same (Fr.alloc _ _ _)).same hf5⟩
      case measure => simp [intOf]; omega
    · obtain rfl : j = len := by omega
      have hd1 : decide (j < j) = false := by simp
      have HT : Hid (q = grdCL bltP P (l.take j) (sc)) := by rw [List.take_of_length_le (by rw [HLN.out]; exact Nat.le_refl _)]; exact HQ.out
      go_wp2
      go_end0
      rw [HT.out]
      exact ⟨rfl, HC.out, HF.out⟩
set_option maxRecDepth 100000 in
set_option maxHeartbeats 4000000 in
theorem grd_k3a (h : CA w0 cb mb nm? K P v sc V) (hK : KK K) (n : Int) (s : List UInt8) (a : Int) (l : List ND) (A : Option Addr) (c : Nat) (v5 v6 : Value) (hsK : s ∈ K) (hR : RdN NoB w0 A c l)
    (hI : ∀ (j : Nat) (hj : j < l.length) (x : EN) (s' : CS) (V' : World), x.t = l[j] → x.Ok NoB w0 → CA w0 cb mb nm? K P v s' V' → Calls Try.prog 54 #[.pointer (some ⟨cb, 0, none⟩), v, .agg #[.int .i64 x.t.kind, .int .i64 x.t.int, .string ⟨x.t.name.toArray⟩, .int .i64 x.t.at_, .slice x.A x.t.kids.length x.c, .slice x.B x.t.clauses.length x.d, .slice x.C x.t.body.length x.e]] V' (VEnd w0 cb mb nm? K P v V' (grdC bltP P l[j] s')))
    (hm : s ∈ P) {q : CS} (hq : q = grdCL bltP P l (sc)) :
    Calls Try.prog 54 #[.pointer (some ⟨cb, 0, none⟩), v, .agg #[.int .i64 3, .int .i64 n, .string ⟨s.toArray⟩, .int .i64 a, .slice A l.length c, v5, v6]] V (VEnd w0 cb mb nm? K P v V q) := by
  have hlc := hR.1
  have hlc2 := hR.2.1
  have HH := Lib.hid h
  have HQ := Lib.hid hq
  have HR := Lib.hid hR
  have HI := Lib.hid hI
  have hsl := hK.txt s hsK
  have HFA : Hid (∀ e V', CA w0 cb mb nm? K P v sc V' → Calls Try.prog 27 #[.pointer (some ⟨cb, 0, none⟩), .int .i64 e, .int .i64 a] V' fun r w' => r = .returned (.tuple #[]) ∧ CK cb mb nm? (failC e a sc) w' ∧ CFr cb V' w') := fun e V' h' => cfails_any h'.ck e a
  have HLK : Hid (∀ V', CA w0 cb mb nm? K P v sc V' → (Instr.lookup 43 v (.string ⟨s.toArray⟩) false).run Try.prog V' = .ok (.bool (decide (s ∈ P))) V') := fun V' h' => h'.sc.look (by unfold maxLen; omega)
  have hdm : decide (s ∈ P) = true := by simpa using hm
  obtain ⟨len, hlen⟩ : ∃ len, l.length = len := ⟨_, rfl⟩
  have HLN := Lib.hid hlen
  obtain ⟨r0, rfl⟩ := h.sc.form
  rw [hlen] at hlc ⊢
  rw [hdm] at HLK
  clear hm hdm
  clear h hq hR hI hlen hsK
  go_enter Try.func54, Try.ntmps54
  go_upto_region 1 with (fail)
  refine wp_world (fun V' => Blk V' V.heap.size 26 #[.int .i64 3, .int .i64 n, .string ⟨s.toArray⟩, .int .i64 a, .slice A len c, v5, v6] ∧ Below V.heap.size V V') ⟨Blk.new _ _ _, below_alloc _ _⟩ ?_
  rintro V1 ⟨hB, hb⟩
  have c0 := hB.cell 0
  have c2 := hB.cell 2
  have c3 := hB.cell 3
  have c4 := hB.cell 4
  have HB := Lib.hid hb
  have HBX := Lib.hid hB
  have HH1 := Lib.hid (HH.out.keep hb)
  clear hB hb HH
  have hlk := HLK.out V1 HH1.out
  go_upto_region 16 with (fail)
  refine wp_world (fun V' => CA w0 cb mb nm? K P (.map r0) (sc) V' ∧ Blk V' V.heap.size 26 #[.int .i64 3, .int .i64 n, .string ⟨s.toArray⟩, .int .i64 a, .slice A len c, v5, v6] ∧ CFr cb V V') ⟨HH1.out, HBX.out, Fr.of_below HB.out _⟩ ?_
  clear HH1 HBX HB HLK HFA
  clear c0 c2 c3 c4
  rintro V2 ⟨hc2, hb2, hf2⟩
  have HC2 := Lib.hid hc2
  have HF2 := Lib.hid hf2
  have c4 := hb2.cell 4
  clear hc2 hb2 hf2
  go_upto_region 17 with (fail)
  clear c4
  go_loopw [49] (fun i wr => ∃ j : Nat, j ≤ len ∧ i = .int .i64 j ∧ Hid (CA w0 cb mb nm? K P (.map r0) (grdCL bltP P (l.take j) (sc)) wr) ∧ Hid (CFr cb V wr)) (fun i _ => len - (intOf i).toNat)
  case atStart => exact ⟨0, Nat.zero_le _, rfl, by unfold Hid; simpa [grdCL] using HC2.out, HF2.out⟩
  case round =>
    obtain ⟨j, hj, rfl, HC, HF⟩ := hrel
    clear HC2 HF2
    by_cases hlt : j < len
    · have hd1 : decide (j < len) = true := by simpa using hlt
      have hkl : j < l.length := by rw [HLN.out]; exact hlt
      obtain ⟨b, o, x, rfl, hx, hok, e0, e1, e2, e3, e4, e5, e6⟩ := rdn_item HR.out hkl
      have HCL := Lib.hid (HI.out j hkl x _ _ hx hok (HC.out.keep (below_alloc wr (.cells #[.int .i64 x.t.kind, .int .i64 x.t.int, .string ⟨x.t.name.toArray⟩, .int .i64 x.t.at_, .slice x.A x.t.kids.length x.c, .slice x.B x.t.clauses.length x.d, .slice x.C x.t.body.length x.e] 26))))
      have HT := Lib.hid (grdCL_take bltP P (sc) l j hkl)
      replace e0 := HC.out.old e0
      replace e1 := HC.out.old e1
      replace e2 := HC.out.old e2
      replace e3 := HC.out.old e3
      replace e4 := HC.out.old e4
      replace e5 := HC.out.old e5
      replace e6 := HC.out.old e6
      have hq1 : (0 : Int) ≤ (j : Int) := by omega
      have hq2 : (j : Int) < (len : Int) := by omega
      clear hx hok
      go_wp2_with (go_at_call 54; refine HCL.out.mono ?_; rintro e V5 ⟨rfl, hk5, hf5⟩)
      go_roundw
      case rel => exact ⟨j + 1, by omega, by go_num, by rw [HT.out]; exact hk5, (HF.out.same (Fr.alloc _ _ _)).same hf5⟩
      case measure => simp [intOf]; omega
    · obtain rfl : j = len := by omega
      have hd1 : decide (j < j) = false := by simp
      have HT : Hid (q = grdCL bltP P (l.take j) (sc)) := by rw [List.take_of_length_le (by rw [HLN.out]; exact Nat.le_refl _)]; exact HQ.out
      go_wp2
      go_end0
      rw [HT.out]
      exact ⟨rfl, HC.out, HF.out⟩
set_option maxRecDepth 100000 in
set_option maxHeartbeats 4000000 in
theorem grd_k3b (h : CA w0 cb mb nm? K P v sc V) (hK : KK K) (n : Int) (s : List UInt8) (a : Int) (l : List ND) (A : Option Addr) (c : Nat) (v5 v6 : Value) (hsK : s ∈ K) (hR : RdN NoB w0 A c l)
    (hI : ∀ (j : Nat) (hj : j < l.length) (x : EN) (s' : CS) (V' : World), x.t = l[j] → x.Ok NoB w0 → CA w0 cb mb nm? K P v s' V' → Calls Try.prog 54 #[.pointer (some ⟨cb, 0, none⟩), v, .agg #[.int .i64 x.t.kind, .int .i64 x.t.int, .string ⟨x.t.name.toArray⟩, .int .i64 x.t.at_, .slice x.A x.t.kids.length x.c, .slice x.B x.t.clauses.length x.d, .slice x.C x.t.body.length x.e]] V' (VEnd w0 cb mb nm? K P v V' (grdC bltP P l[j] s')))
    (hm : s ∉ P) {q : CS} (hq : q = grdCL bltP P l (failC 124 a sc)) :
    Calls Try.prog 54 #[.pointer (some ⟨cb, 0, none⟩), v, .agg #[.int .i64 3, .int .i64 n, .string ⟨s.toArray⟩, .int .i64 a, .slice A l.length c, v5, v6]] V (VEnd w0 cb mb nm? K P v V q) := by
  have hlc := hR.1
  have hlc2 := hR.2.1
  have HH := Lib.hid h
  have HQ := Lib.hid hq
  have HR := Lib.hid hR
  have HI := Lib.hid hI
  have hsl := hK.txt s hsK
  have HFA : Hid (∀ e V', CA w0 cb mb nm? K P v sc V' → Calls Try.prog 27 #[.pointer (some ⟨cb, 0, none⟩), .int .i64 e, .int .i64 a] V' fun r w' => r = .returned (.tuple #[]) ∧ CK cb mb nm? (failC e a sc) w' ∧ CFr cb V' w') := fun e V' h' => cfails_any h'.ck e a
  have HLK : Hid (∀ V', CA w0 cb mb nm? K P v sc V' → (Instr.lookup 43 v (.string ⟨s.toArray⟩) false).run Try.prog V' = .ok (.bool (decide (s ∈ P))) V') := fun V' h' => h'.sc.look (by unfold maxLen; omega)
  have HNE := Lib.hid h.lt
  have hdm : decide (s ∈ P) = false := by simpa using hm
  obtain ⟨len, hlen⟩ : ∃ len, l.length = len := ⟨_, rfl⟩
  have HLN := Lib.hid hlen
  obtain ⟨r0, rfl⟩ := h.sc.form
  rw [hlen] at hlc ⊢
  rw [hdm] at HLK
  clear hm hdm
  clear h hq hR hI hlen hsK
  go_enter Try.func54, Try.ntmps54
  go_upto_region 1 with (fail)
  refine wp_world (fun V' => Blk V' V.heap.size 26 #[.int .i64 3, .int .i64 n, .string ⟨s.toArray⟩, .int .i64 a, .slice A len c, v5, v6] ∧ Below V.heap.size V V') ⟨Blk.new _ _ _, below_alloc _ _⟩ ?_
  rintro V1 ⟨hB, hb⟩
  have c0 := hB.cell 0
  have c2 := hB.cell 2
  have c3 := hB.cell 3
  have c4 := hB.cell 4
  have HB := Lib.hid hb
  have HBX := Lib.hid hB
  have HH1 := Lib.hid (HH.out.keep hb)
  clear hB hb HH
  have hlk := HLK.out V1 HH1.out
  go_upto_region 16 with (first | (go_at_call 27; refine (HFA.out _ _ HH1.out).mono ?_; rintro e V8 ⟨rfl, hk8, hf8⟩) | fail)
  refine wp_world (fun V' => CA w0 cb mb nm? K P (.map r0) (failC 124 a sc) V' ∧ Blk V' V.heap.size 26 #[.int .i64 3, .int .i64 n, .string ⟨s.toArray⟩, .int .i64 a, .slice A len c, v5, v6] ∧ CFr cb V V') ⟨HH1.out.act hk8 hf8, hf8.blk HBX.out (by have := (HH1.out).lt; have h9 := HNE.out; omega), (Fr.of_below HB.out _).same hf8⟩ ?_
  clear HH1 HBX HB HLK HFA hk8 hf8
  clear c0 c2 c3 c4
  rintro V2 ⟨hc2, hb2, hf2⟩
  have HC2 := Lib.hid hc2
  have HF2 := Lib.hid hf2
  have c4 := hb2.cell 4
  clear hc2 hb2 hf2
  go_upto_region 17 with (fail)
  clear c4
  go_loopw [49] (fun i wr => ∃ j : Nat, j ≤ len ∧ i = .int .i64 j ∧ Hid (CA w0 cb mb nm? K P (.map r0) (grdCL bltP P (l.take j) (failC 124 a sc)) wr) ∧ Hid (CFr cb V wr)) (fun i _ => len - (intOf i).toNat)
  case atStart => exact ⟨0, Nat.zero_le _, rfl, by unfold Hid; simpa [grdCL] using HC2.out, HF2.out⟩
  case round =>
    obtain ⟨j, hj, rfl, HC, HF⟩ := hrel
    clear HC2 HF2
    by_cases hlt : j < len
    · have hd1 : decide (j < len) = true := by simpa using hlt
      have hkl : j < l.length := by rw [HLN.out]; exact hlt
      obtain ⟨b, o, x, rfl, hx, hok, e0, e1, e2, e3, e4, e5, e6⟩ := rdn_item HR.out hkl
      have HCL := Lib.hid (HI.out j hkl x _ _ hx hok (HC.out.keep (below_alloc wr (.cells #[.int .i64 x.t.kind, .int .i64 x.t.int, .string ⟨x.t.name.toArray⟩, .int .i64 x.t.at_, .slice x.A x.t.kids.length x.c, .slice x.B x.t.clauses.length x.d, .slice x.C x.t.body.length x.e] 26))))
      have HT := Lib.hid (grdCL_take bltP P (failC 124 a sc) l j hkl)
      replace e0 := HC.out.old e0
      replace e1 := HC.out.old e1
      replace e2 := HC.out.old e2
      replace e3 := HC.out.old e3
      replace e4 := HC.out.old e4
      replace e5 := HC.out.old e5
      replace e6 := HC.out.old e6
      have hq1 : (0 : Int) ≤ (j : Int) := by omega
      have hq2 : (j : Int) < (len : Int) := by omega
      clear hx hok
      go_wp2_with (go_at_call 54; refine HCL.out.mono ?_; rintro e V5 ⟨rfl, hk5, hf5⟩)
      go_roundw
      case rel => exact ⟨j + 1, by omega, by go_num, by rw [HT.out]; exact hk5, (HF.out.same (Fr.alloc _ _ _)).same hf5⟩
      case measure => simp [intOf]; omega
    · obtain rfl : j = len := by omega
      have hd1 : decide (j < j) = false := by simp
      have HT : Hid (q = grdCL bltP P (l.take j) (failC 124 a sc)) := by rw [List.take_of_length_le (by rw [HLN.out]; exact Nat.le_refl _)]; exact HQ.out
      go_wp2
      go_end0
      rw [HT.out]
      exact ⟨rfl, HC.out, HF.out⟩
set_option maxRecDepth 100000 in
set_option maxHeartbeats 4000000 in
theorem grd_k7a (h : CA w0 cb mb nm? K P v sc V) (hK : KK K) (n : Int) (s : List UInt8) (a : Int) (l : List ND) (A : Option Addr) (c : Nat) (v5 v6 : Value) (hsK : s ∈ K) (hR : RdN NoB w0 A c l)
    (hI : ∀ (j : Nat) (hj : j < l.length) (x : EN) (s' : CS) (V' : World), x.t = l[j] → x.Ok NoB w0 → CA w0 cb mb nm? K P v s' V' → Calls Try.prog 54 #[.pointer (some ⟨cb, 0, none⟩), v, .agg #[.int .i64 x.t.kind, .int .i64 x.t.int, .string ⟨x.t.name.toArray⟩, .int .i64 x.t.at_, .slice x.A x.t.kids.length x.c, .slice x.B x.t.clauses.length x.d, .slice x.C x.t.body.length x.e]] V' (VEnd w0 cb mb nm? K P v V' (grdC bltP P l[j] s')))
    (hm : bltP s l.length = 1) {q : CS} (hq : q = grdCL bltP P l (sc)) :
    Calls Try.prog 54 #[.pointer (some ⟨cb, 0, none⟩), v, .agg #[.int .i64 7, .int .i64 n, .string ⟨s.toArray⟩, .int .i64 a, .slice A l.length c, v5, v6]] V (VEnd w0 cb mb nm? K P v V q) := by
  have hlc := hR.1
  have hlc2 := hR.2.1
  have HH := Lib.hid h
  have HQ := Lib.hid hq
  have HR := Lib.hid hR
  have HI := Lib.hid hI
  have hsl := hK.txt s hsK
  have HFA : Hid (∀ e V', CA w0 cb mb nm? K P v sc V' → Calls Try.prog 27 #[.pointer (some ⟨cb, 0, none⟩), .int .i64 e, .int .i64 a] V' fun r w' => r = .returned (.tuple #[]) ∧ CK cb mb nm? (failC e a sc) w' ∧ CFr cb V' w') := fun e V' h' => cfails_any h'.ck e a
  have HLK : Hid (∀ V', CA w0 cb mb nm? K P v sc V' → (Instr.lookup 43 v (.string ⟨s.toArray⟩) false).run Try.prog V' = .ok (.bool (decide (s ∈ P))) V') := fun V' h' => h'.sc.look (by unfold maxLen; omega)
  obtain ⟨bl, hbl⟩ : ∃ bl, bltP s l.length = bl := ⟨_, rfl⟩
  have HBL : Hid (∀ V', Calls Try.prog 8 #[.string ⟨s.toArray⟩, .int .i64 (l.length : Int)] V' fun e w' => e = .returned (.int .i64 bl) ∧ Below V'.heap.size V' w') := fun V' => by rw [← hbl]; exact blt_any s l.length V'
  rw [hbl] at hm
  clear hbl
  have d1 : (bl != 1) = false := by simpa using hm
  obtain ⟨len, hlen⟩ : ∃ len, l.length = len := ⟨_, rfl⟩
  have HLN := Lib.hid hlen
  obtain ⟨r0, rfl⟩ := h.sc.form
  rw [hlen] at hlc ⊢
  rw [hlen] at HBL
  clear hm
  clear h hq hR hI hlen hsK
  go_enter Try.func54, Try.ntmps54
  go_upto_region 1 with (fail)
  refine wp_world (fun V' => Blk V' V.heap.size 26 #[.int .i64 7, .int .i64 n, .string ⟨s.toArray⟩, .int .i64 a, .slice A len c, v5, v6] ∧ Below V.heap.size V V') ⟨Blk.new _ _ _, below_alloc _ _⟩ ?_
  rintro V1 ⟨hB, hb⟩
  have c0 := hB.cell 0
  have c2 := hB.cell 2
  have c3 := hB.cell 3
  have c4 := hB.cell 4
  have HB := Lib.hid hb
  have HBX := Lib.hid hB
  have HH1 := Lib.hid (HH.out.keep hb)
  clear hB hb HH
  go_upto_region 16 with (go_at_call 8; refine (HBL.out _).mono ?_; rintro e V7 ⟨rfl, hb7⟩)
  refine wp_world (fun V' => CA w0 cb mb nm? K P (.map r0) (sc) V' ∧ Blk V' V.heap.size 26 #[.int .i64 7, .int .i64 n, .string ⟨s.toArray⟩, .int .i64 a, .slice A len c, v5, v6] ∧ CFr cb V V') ⟨HH1.out.keep hb7, HBX.out.keep hb7, Fr.of_below (below_step HB.out hb7) _⟩ ?_
  clear HH1 HBX HB HLK HFA HBL hb7
  clear c0 c2 c3 c4
  rintro V2 ⟨hc2, hb2, hf2⟩
  have HC2 := Lib.hid hc2
  have HF2 := Lib.hid hf2
  have c4 := hb2.cell 4
  clear hc2 hb2 hf2
  go_upto_region 17 with (fail)
  clear c4
  go_loopw [49] (fun i wr => ∃ j : Nat, j ≤ len ∧ i = .int .i64 j ∧ Hid (CA w0 cb mb nm? K P (.map r0) (grdCL bltP P (l.take j) (sc)) wr) ∧ Hid (CFr cb V wr)) (fun i _ => len - (intOf i).toNat)
  case atStart => exact ⟨0, Nat.zero_le _, rfl, by unfold Hid; simpa [grdCL] using HC2.out, HF2.out⟩
  case round =>
    obtain ⟨j, hj, rfl, HC, HF⟩ := hrel
    clear HC2 HF2
    by_cases hlt : j < len
    · have hd1 : decide (j < len) = true := by simpa using hlt
      have hkl : j < l.length := by rw [HLN.out]; exact hlt
      obtain ⟨b, o, x, rfl, hx, hok, e0, e1, e2, e3, e4, e5, e6⟩ := rdn_item HR.out hkl
      have HCL := Lib.hid (HI.out j hkl x _ _ hx hok (HC.out.keep (below_alloc wr (.cells #[.int .i64 x.t.kind, .int .i64 x.t.int, .string ⟨x.t.name.toArray⟩, .int .i64 x.t.at_, .slice x.A x.t.kids.length x.c, .slice x.B x.t.clauses.length x.d, .slice x.C x.t.body.length x.e] 26))))
      have HT := Lib.hid (grdCL_take bltP P (sc) l j hkl)
      replace e0 := HC.out.old e0
      replace e1 := HC.out.old e1
      replace e2 := HC.out.old e2
      replace e3 := HC.out.old e3
      replace e4 := HC.out.old e4
      replace e5 := HC.out.old e5
      replace e6 := HC.out.old e6
      have hq1 : (0 : Int) ≤ (j : Int) := by omega
      have hq2 : (j : Int) < (len : Int) := by omega
      clear hx hok
      go_wp2_with (go_at_call 54; refine HCL.out.mono ?_; rintro e V5 ⟨rfl, hk5, hf5⟩)
      go_roundw
      case rel => exact ⟨j + 1, by omega, by go_num, by rw [HT.out]; exact hk5, (HF.out.same (Fr.alloc _ _ _)).same hf5⟩
      case measure => simp [intOf]; omega
    · obtain rfl : j = len := by omega
      have hd1 : decide (j < j) = false := by simp
      have HT : Hid (q = grdCL bltP P (l.take j) (sc)) := by rw [List.take_of_length_le (by rw [HLN.out]; exact Nat.le_refl _)]; exact HQ.out
      go_wp2
      go_end0
      rw [HT.out]
      exact ⟨rfl, HC.out, HF.out⟩
set_option maxRecDepth 100000 in
set_option maxHeartbeats 4000000 in
theorem grd_k7b (h : CA w0 cb mb nm? K P v sc V) (hK : KK K) (n : Int) (s : List UInt8) (a : Int) (l : List ND) (A : Option Addr) (c : Nat) (v5 v6 : Value) (hsK : s ∈ K) (hR : RdN NoB w0 A c l)
    (hI : ∀ (j : Nat) (hj : j < l.length) (x : EN) (s' : CS) (V' : World), x.t = l[j] → x.Ok NoB w0 → CA w0 cb mb nm? K P v s' V' → Calls Try.prog 54 #[.pointer (some ⟨cb, 0, none⟩), v, .agg #[.int .i64 x.t.kind, .int .i64 x.t.int, .string ⟨x.t.name.toArray⟩, .int .i64 x.t.at_, .slice x.A x.t.kids.length x.c, .slice x.B x.t.clauses.length x.d, .slice x.C x.t.body.length x.e]] V' (VEnd w0 cb mb nm? K P v V' (grdC bltP P l[j] s')))
    (hm : bltP s l.length ≠ 1) {q : CS} (hq : q = grdCL bltP P l (failC 126 a sc)) :
    Calls Try.prog 54 #[.pointer (some ⟨cb, 0, none⟩), v, .agg #[.int .i64 7, .int .i64 n, .string ⟨s.toArray⟩, .int .i64 a, .slice A l.length c, v5, v6]] V (VEnd w0 cb mb nm? K P v V q) := by
  have hlc := hR.1
  have hlc2 := hR.2.1
  have HH := Lib.hid h
  have HQ := Lib.hid hq
  have HR := Lib.hid hR
  have HI := Lib.hid hI
  have hsl := hK.txt s hsK
  have HFA : Hid (∀ e V', CA w0 cb mb nm? K P v sc V' → Calls Try.prog 27 #[.pointer (some ⟨cb, 0, none⟩), .int .i64 e, .int .i64 a] V' fun r w' => r = .returned (.tuple #[]) ∧ CK cb mb nm? (failC e a sc) w' ∧ CFr cb V' w') := fun e V' h' => cfails_any h'.ck e a
  have HLK : Hid (∀ V', CA w0 cb mb nm? K P v sc V' → (Instr.lookup 43 v (.string ⟨s.toArray⟩) false).run Try.prog V' = .ok (.bool (decide (s ∈ P))) V') := fun V' h' => h'.sc.look (by unfold maxLen; omega)
  have HNE := Lib.hid h.lt
  obtain ⟨bl, hbl⟩ : ∃ bl, bltP s l.length = bl := ⟨_, rfl⟩
  have HBL : Hid (∀ V', Calls Try.prog 8 #[.string ⟨s.toArray⟩, .int .i64 (l.length : Int)] V' fun e w' => e = .returned (.int .i64 bl) ∧ Below V'.heap.size V' w') := fun V' => by rw [← hbl]; exact blt_any s l.length V'
  rw [hbl] at hm
  clear hbl
  have d1 : (bl != 1) = true := by simpa using hm
  obtain ⟨len, hlen⟩ : ∃ len, l.length = len := ⟨_, rfl⟩
  have HLN := Lib.hid hlen
  obtain ⟨r0, rfl⟩ := h.sc.form
  rw [hlen] at hlc ⊢
  rw [hlen] at HBL
  clear hm
  clear h hq hR hI hlen hsK
  go_enter Try.func54, Try.ntmps54
  go_upto_region 1 with (fail)
  refine wp_world (fun V' => Blk V' V.heap.size 26 #[.int .i64 7, .int .i64 n, .string ⟨s.toArray⟩, .int .i64 a, .slice A len c, v5, v6] ∧ Below V.heap.size V V') ⟨Blk.new _ _ _, below_alloc _ _⟩ ?_
  rintro V1 ⟨hB, hb⟩
  have c0 := hB.cell 0
  have c2 := hB.cell 2
  have c3 := hB.cell 3
  have c4 := hB.cell 4
  have HB := Lib.hid hb
  have HBX := Lib.hid hB
  have HH1 := Lib.hid (HH.out.keep hb)
  clear hB hb HH
  go_upto_region 16 with (first | (go_at_call 8; refine (HBL.out _).mono ?_; rintro e V7 ⟨rfl, hb7⟩; have c37 := (HBX.out.keep hb7).cell 3) | (go_at_call 27; refine (HFA.out _ _ (HH1.out.keep hb7)).mono ?_; rintro e V8 ⟨rfl, hk8, hf8⟩) | fail)
  refine wp_world (fun V' => CA w0 cb mb nm? K P (.map r0) (failC 126 a sc) V' ∧ Blk V' V.heap.size 26 #[.int .i64 7, .int .i64 n, .string ⟨s.toArray⟩, .int .i64 a, .slice A len c, v5, v6] ∧ CFr cb V V') ⟨(HH1.out.keep hb7).act hk8 hf8, hf8.blk (HBX.out.keep hb7) (by have := (HH1.out).lt; have h9 := HNE.out; omega), (Fr.of_below (below_step HB.out hb7) _).same hf8⟩ ?_
  clear HH1 HBX HB HLK HFA HBL hb7 hk8 hf8 c37
  clear c0 c2 c3 c4
  rintro V2 ⟨hc2, hb2, hf2⟩
  have HC2 := Lib.hid hc2
  have HF2 := Lib.hid hf2
  have c4 := hb2.cell 4
  clear hc2 hb2 hf2
  go_upto_region 17 with (fail)
  clear c4
  go_loopw [49] (fun i wr => ∃ j : Nat, j ≤ len ∧ i = .int .i64 j ∧ Hid (CA w0 cb mb nm? K P (.map r0) (grdCL bltP P (l.take j) (failC 126 a sc)) wr) ∧ Hid (CFr cb V wr)) (fun i _ => len - (intOf i).toNat)
  case atStart => exact ⟨0, Nat.zero_le _, rfl, by unfold Hid; simpa [grdCL] using HC2.out, HF2.out⟩
  case round =>
    obtain ⟨j, hj, rfl, HC, HF⟩ := hrel
    clear HC2 HF2
    by_cases hlt : j < len
    · have hd1 : decide (j < len) = true := by simpa using hlt
      have hkl : j < l.length := by rw [HLN.out]; exact hlt
      obtain ⟨b, o, x, rfl, hx, hok, e0, e1, e2, e3, e4, e5, e6⟩ := rdn_item HR.out hkl
      have HCL := Lib.hid (HI.out j hkl x _ _ hx hok (HC.out.keep (below_alloc wr (.cells #[.int .i64 x.t.kind, .int .i64 x.t.int, .string ⟨x.t.name.toArray⟩, .int .i64 x.t.at_, .slice x.A x.t.kids.length x.c, .slice x.B x.t.clauses.length x.d, .slice x.C x.t.body.length x.e] 26))))
      have HT := Lib.hid (grdCL_take bltP P (failC 126 a sc) l j hkl)
      replace e0 := HC.out.old e0
      replace e1 := HC.out.old e1
      replace e2 := HC.out.old e2
      replace e3 := HC.out.old e3
      replace e4 := HC.out.old e4
      replace e5 := HC.out.old e5
      replace e6 := HC.out.old e6
      have hq1 : (0 : Int) ≤ (j : Int) := by omega
      have hq2 : (j : Int) < (len : Int) := by omega
      clear hx hok
      go_wp2_with (go_at_call 54; refine HCL.out.mono ?_; rintro e V5 ⟨rfl, hk5, hf5⟩)
      go_roundw
      case rel => exact ⟨j + 1, by omega, by go_num, by rw [HT.out]; exact hk5, (HF.out.same (Fr.alloc _ _ _)).same hf5⟩
      case measure => simp [intOf]; omega
    · obtain rfl : j = len := by omega
      have hd1 : decide (j < j) = false := by simp
      have HT : Hid (q = grdCL bltP P (l.take j) (failC 126 a sc)) := by rw [List.take_of_length_le (by rw [HLN.out]; exact Nat.le_refl _)]; exact HQ.out
      go_wp2
      go_end0
      rw [HT.out]
      exact ⟨rfl, HC.out, HF.out⟩
set_option maxRecDepth 100000 in
set_option maxHeartbeats 4000000 in
theorem grd_other (h : CA w0 cb mb nm? K P v sc V) (hK : KK K) (k : Int) (n : Int) (s : List UInt8) (a : Int) (l : List ND) (A : Option Addr) (c : Nat) (v5 v6 : Value) (hsK : s ∈ K) (hR : RdN NoB w0 A c l)
    (hI : ∀ (j : Nat) (hj : j < l.length) (x : EN) (s' : CS) (V' : World), x.t = l[j] → x.Ok NoB w0 → CA w0 cb mb nm? K P v s' V' → Calls Try.prog 54 #[.pointer (some ⟨cb, 0, none⟩), v, .agg #[.int .i64 x.t.kind, .int .i64 x.t.int, .string ⟨x.t.name.toArray⟩, .int .i64 x.t.at_, .slice x.A x.t.kids.length x.c, .slice x.B x.t.clauses.length x.d, .slice x.C x.t.body.length x.e]] V' (VEnd w0 cb mb nm? K P v V' (grdC bltP P l[j] s')))
    (h1 : k ≠ 1) (h2 : k ≠ 2) (h3 : k ≠ 3) (h5 : k ≠ 5) (h4 : k ≠ 4) (h6 : k ≠ 6) (h9 : k ≠ 9) (h10 : k ≠ 10) (h7 : k ≠ 7) {q : CS} (hq : q = grdCL bltP P l (failC 126 a sc)) :
    Calls Try.prog 54 #[.pointer (some ⟨cb, 0, none⟩), v, .agg #[.int .i64 k, .int .i64 n, .string ⟨s.toArray⟩, .int .i64 a, .slice A l.length c, v5, v6]] V (VEnd w0 cb mb nm? K P v V q) := by
  have hlc := hR.1
  have hlc2 := hR.2.1
  have HH := Lib.hid h
  have HQ := Lib.hid hq
  have HR := Lib.hid hR
  have HI := Lib.hid hI
  have hsl := hK.txt s hsK
  have HFA : Hid (∀ e V', CA w0 cb mb nm? K P v sc V' → Calls Try.prog 27 #[.pointer (some ⟨cb, 0, none⟩), .int .i64 e, .int .i64 a] V' fun r w' => r = .returned (.tuple #[]) ∧ CK cb mb nm? (failC e a sc) w' ∧ CFr cb V' w') := fun e V' h' => cfails_any h'.ck e a
  have HLK : Hid (∀ V', CA w0 cb mb nm? K P v sc V' → (Instr.lookup 43 v (.string ⟨s.toArray⟩) false).run Try.prog V' = .ok (.bool (decide (s ∈ P))) V') := fun V' h' => h'.sc.look (by unfold maxLen; omega)
  have HNE := Lib.hid h.lt
  have d1 : (k == 1) = false := by simpa using h1
  have d2 : (k == 2) = false := by simpa using h2
  have d3 : (k == 3) = false := by simpa using h3
  have d5 : (k == 5) = false := by simpa using h5
  have d4 : (k == 4) = false := by simpa using h4
  have d6 : (k == 6) = false := by simpa using h6
  have d9 : (k == 9) = false := by simpa using h9
  have d10 : (k == 10) = false := by simpa using h10
  have d7 : (k == 7) = false := by simpa using h7
  obtain ⟨len, hlen⟩ : ∃ len, l.length = len := ⟨_, rfl⟩
  have HLN := Lib.hid hlen
  obtain ⟨r0, rfl⟩ := h.sc.form
  rw [hlen] at hlc ⊢
  clear h1 h2 h3 h5 h4 h6 h9 h10 h7
  clear h hq hR hI hlen hsK
  go_enter Try.func54, Try.ntmps54
  go_upto_region 1 with (fail)
  refine wp_world (fun V' => Blk V' V.heap.size 26 #[.int .i64 k, .int .i64 n, .string ⟨s.toArray⟩, .int .i64 a, .slice A len c, v5, v6] ∧ Below V.heap.size V V') ⟨Blk.new _ _ _, below_alloc _ _⟩ ?_
  rintro V1 ⟨hB, hb⟩
  have c0 := hB.cell 0
  have c2 := hB.cell 2
  have c3 := hB.cell 3
  have c4 := hB.cell 4
  have HB := Lib.hid hb
  have HBX := Lib.hid hB
  have HH1 := Lib.hid (HH.out.keep hb)
  clear hB hb HH
  go_upto_region 16 with (first | (go_at_call 27; refine (HFA.out _ _ HH1.out).mono ?_; rintro e V8 ⟨rfl, hk8, hf8⟩) | fail)
  refine wp_world (fun V' => CA w0 cb mb nm? K P (.map r0) (failC 126 a sc) V' ∧ Blk V' V.heap.size 26 #[.int .i64 k, .int .i64 n, .string ⟨s.toArray⟩, .int .i64 a, .slice A len c, v5, v6] ∧ CFr cb V V') ⟨HH1.out.act hk8 hf8, hf8.blk HBX.out (by have := (HH1.out).lt; have h9 := HNE.out; omega), (Fr.of_below HB.out _).same hf8⟩ ?_
  clear HH1 HBX HB HLK HFA hk8 hf8
  clear c0 c2 c3 c4
  rintro V2 ⟨hc2, hb2, hf2⟩
  have HC2 := Lib.hid hc2
  have HF2 := Lib.hid hf2
  have c4 := hb2.cell 4
  clear hc2 hb2 hf2
  go_upto_region 17 with (fail)
  clear c4
  go_loopw [49] (fun i wr => ∃ j : Nat, j ≤ len ∧ i = .int .i64 j ∧ Hid (CA w0 cb mb nm? K P (.map r0) (grdCL bltP P (l.take j) (failC 126 a sc)) wr) ∧ Hid (CFr cb V wr)) (fun i _ => len - (intOf i).toNat)
  case atStart => exact ⟨0, Nat.zero_le _, rfl, by unfold Hid; simpa [grdCL] using HC2.out, HF2.out⟩
  case round =>
    obtain ⟨j, hj, rfl, HC, HF⟩ := hrel
    clear HC2 HF2
    by_cases hlt : j < len
    · have hd1 : decide (j < len) = true := by simpa using hlt
      have hkl : j < l.length := by rw [HLN.out]; exact hlt
      obtain ⟨b, o, x, rfl, hx, hok, e0, e1, e2, e3, e4, e5, e6⟩ := rdn_item HR.out hkl
      have HCL := Lib.hid (HI.out j hkl x _ _ hx hok (HC.out.keep (below_alloc wr (.cells #[.int .i64 x.t.kind, .int .i64 x.t.int, .string ⟨x.t.name.toArray⟩, .int .i64 x.t.at_, .slice x.A x.t.kids.length x.c, .slice x.B x.t.clauses.length x.d, .slice x.C x.t.body.length x.e] 26))))
      have HT := Lib.hid (grdCL_take bltP P (failC 126 a sc) l j hkl)
      replace e0 := HC.out.old e0
      replace e1 := HC.out.old e1
      replace e2 := HC.out.old e2
      replace e3 := HC.out.old e3
      replace e4 := HC.out.old e4
      replace e5 := HC.out.old e5
      replace e6 := HC.out.old e6
      have hq1 : (0 : Int) ≤ (j : Int) := by omega
      have hq2 : (j : Int) < (len : Int) := by omega
      clear hx hok
      go_wp2_with (go_at_call 54; refine HCL.out.mono ?_; rintro e V5 ⟨rfl, hk5, hf5⟩)
      go_roundw
      case rel => exact ⟨j + 1, by omega, by go_num, by rw [HT.out]; exact hk5, (HF.out.same (Fr.alloc _ _ _)).same hf5⟩
      case measure => simp [intOf]; omega
    · obtain rfl : j = len := by omega
      have hd1 : decide (j < j) = false := by simp
      have HT : Hid (q = grdCL bltP P (l.take j) (failC 126 a sc)) := by rw [List.take_of_length_le (by rw [HLN.out]; exact Nat.le_refl _)]; exact HQ.out
      go_wp2
      go_end0
      rw [HT.out]
      exact ⟨rfl, HC.out, HF.out⟩
/-- guard, at every node. -/
theorem cgrd_any (hK : KK K) (N : Nat) : ∀ (x : EN) (sc : CS) (V : World), x.t.sz ≤ N → x.Ok NoB w0 → x.t.all (fun s => s ∈ K) → CA w0 cb mb nm? K P v sc V →
    Calls Try.prog 54 #[.pointer (some ⟨cb, 0, none⟩), v, .agg #[.int .i64 x.t.kind, .int .i64 x.t.int, .string ⟨x.t.name.toArray⟩, .int .i64 x.t.at_, .slice x.A x.t.kids.length x.c, .slice x.B x.t.clauses.length x.d, .slice x.C x.t.body.length x.e]] V (VEnd w0 cb mb nm? K P v V (grdC bltP P x.t sc)) := by
  induction N with
  | zero => intro x sc V hN; have := x.t.sz_pos; omega
  | succ N ih =>
    rintro ⟨⟨k, n, s, a, l, m, r⟩, A, c, B, d, C, e⟩ sc V hN hok hal h
    have hR : RdN NoB w0 A c l := hok.kids
    simp only [ND.sz] at hN
    simp only [ND.all] at hal
    have hI : ∀ (j : Nat) (hj : j < l.length) (x : EN) (s' : CS) (V' : World), x.t = l[j] → x.Ok NoB w0 → CA w0 cb mb nm? K P v s' V' → Calls Try.prog 54 #[.pointer (some ⟨cb, 0, none⟩), v, .agg #[.int .i64 x.t.kind, .int .i64 x.t.int, .string ⟨x.t.name.toArray⟩, .int .i64 x.t.at_, .slice x.A x.t.kids.length x.c, .slice x.B x.t.clauses.length x.d, .slice x.C x.t.body.length x.e]] V' (VEnd w0 cb mb nm? K P v V' (grdC bltP P l[j] s')) := fun j hj x s' V' hx hxo hca => by
      rw [← hx]
      exact ih x s' V' (by rw [hx]; have h9 := ndsz_at l j hj; omega) hxo (by rw [hx]; exact ndall_at hal.2.1 hj) hca
    show Calls Try.prog 54 #[.pointer (some ⟨cb, 0, none⟩), v, .agg #[.int .i64 k, .int .i64 n, .string ⟨s.toArray⟩, .int .i64 a, .slice A l.length c, .slice B m.length d, .slice C r.length e]] V (VEnd w0 cb mb nm? K P v V (grdC bltP P (ND.mk k n s a l m r) sc))
    simp only [grdC, grdH]
    by_cases h3 : k = 3
    · subst h3
      by_cases hm : s ∈ P
      · exact grd_k3a h hK n s a l A c _ _ hal.1 hR hI hm (by simp [hm])
      · exact grd_k3b h hK n s a l A c _ _ hal.1 hR hI hm (by simp [hm])
    by_cases h1 : k = 1
    · subst h1; exact grd_k1 h hK n s a l A c _ _ hal.1 hR hI (by simp)
    by_cases h2 : k = 2
    · subst h2; exact grd_k2 h hK n s a l A c _ _ hal.1 hR hI (by simp)
    by_cases h5 : k = 5
    · subst h5; exact grd_k5 h hK n s a l A c _ _ hal.1 hR hI (by simp)
    by_cases h4 : k = 4
    · subst h4; exact grd_k4 h hK n s a l A c _ _ hal.1 hR hI (by simp)
    by_cases h6 : k = 6
    · subst h6; exact grd_k6 h hK n s a l A c _ _ hal.1 hR hI (by simp)
    by_cases h9 : k = 9
    · subst h9; exact grd_k9 h hK n s a l A c _ _ hal.1 hR hI (by simp)
    by_cases h10 : k = 10
    · subst h10; exact grd_k10 h hK n s a l A c _ _ hal.1 hR hI (by simp)
    by_cases h7 : k = 7
    · subst h7
      by_cases hm : bltP s l.length = 1
      · exact grd_k7a h hK n s a l A c _ _ hal.1 hR hI hm (by simp [hm])
      · exact grd_k7b h hK n s a l A c _ _ hal.1 hR hI hm (by simp [hm])
    exact grd_other h hK k n s a l A c _ _ hal.1 hR hI h1 h2 h3 h5 h4 h6 h9 h10 h7 (by simp [h1, h2, h3, h5, h4, h6, h9, h10, h7])
end
end Go.Proofs.Ythhindnjnijglaa
