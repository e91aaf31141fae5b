/- Layer 12: the walk of the checker's expr: fun; every node. Written by chgenl.py. -/
import Derived.Test.YthhindnjnijglaaChM
namespace Go.Proofs.Ythhindnjnijglaa
open Go.RowKit
set_option linter.unusedVariables false

section
variable {w0 : World} {cb mb : Nat} {nm? : List UInt8 → Nat → Bool} {K P : Nms} {v : Value} {sc : CS} {V V' : World}

set_option maxRecDepth 100000 in
set_option maxHeartbeats 4000000 in
theorem exp_k13 (h : CA w0 cb mb nm? K P v sc V) (hK : KK K) (n : Int) (s : List UInt8) (a : Int) (l : List ND) (A : Option Addr) (c : Nat) (m : List CD) (B : Option Addr) (d : Nat) (r : List ND) (C : Option Addr) (e9 : Nat) (hsK : s ∈ K) (he : sc.e = 0) (hRC : RdC NoB w0 B d m) (hCo : ∀ (P' : Nms) (v' : Value) (sc' : CS) (V' : World), CA w0 cb mb nm? K P' v' sc' V' → Calls Try.prog 28 #[.pointer (some ⟨cb, 0, none⟩), v', .slice B m.length d] V' (VEnd w0 cb mb nm? K P' v' V' (clsC bltP nm? P' m sc'))) {q : Nms × CS} (hq : q = (P, clsC bltP nm? P m (funC (firstN m) m sc))) :
    Calls Try.prog 67 #[.pointer (some ⟨cb, 0, none⟩), v, .agg #[.int .i64 13, .int .i64 n, .string ⟨s.toArray⟩, .int .i64 a, .slice A l.length c, .slice B m.length d, .slice C r.length e9]] V (REnd w0 cb mb nm? K V q) := by
  have HH := Lib.hid h
  have HQ := Lib.hid hq
  have hsl := hK.txt s hsK
  have hlt0 := h.lt
  have d0 : (sc.e == 0) = true := by simpa using he
  have HSO : Hid (∀ V', CA w0 cb mb nm? K P v sc V' → Calls Try.prog 52 #[.pointer (some ⟨cb, 0, none⟩)] V' fun e w' => e = .returned (.bool true) ∧ Below V'.heap.size V' w') := fun V' h' => by rw [← d0]; exact sound_any h'.ck
  have HFA : Hid (∀ e a V', CA w0 cb mb nm? K P v sc V' → Calls Try.prog 27 #[.pointer (some ⟨cb, 0, none⟩), .int .i64 e, .int .i64 a] V' fun r w' => r = .returned (.tuple #[]) ∧ CK cb mb nm? (failC e a sc) w' ∧ CFr cb V' w') := fun e a V' h' => cfails_any h'.ck e a
  have HLK : Hid (∀ V', CA w0 cb mb nm? K P v sc V' → (Instr.lookup 43 v (.string ⟨s.toArray⟩) false).run Try.prog V' = .ok (.bool (decide (s ∈ P))) V') := fun V' h' => h'.sc.look (by unfold maxLen; omega)
  have HRC := Lib.hid hRC
  have HCO := Lib.hid hCo
  have hmc := hRC.1
  have hmc2 := hRC.2.1
  have HFG : Hid (∀ s' e a V', CA w0 cb mb nm? K P v s' V' → Calls Try.prog 27 #[.pointer (some ⟨cb, 0, none⟩), .int .i64 e, .int .i64 a] V' fun r w' => r = .returned (.tuple #[]) ∧ CK cb mb nm? (failC e a s') w' ∧ CFr cb V' w') := fun s' e a V' h' => cfails_any h'.ck e a
  obtain ⟨len, hlen⟩ : ∃ len, l.length = len := ⟨_, rfl⟩
  obtain ⟨lem, hlem⟩ : ∃ lem, m.length = lem := ⟨_, rfl⟩
  obtain ⟨ler, hler⟩ : ∃ ler, r.length = ler := ⟨_, rfl⟩
  have HLN := Lib.hid hlen
  have HLM := Lib.hid hlem
  have HLR := Lib.hid hler
  obtain ⟨r0, rfl⟩ := h.sc.form
  rw [hlen, hlem, hler]
  rw [hlem] at HCO hmc
  clear hRC hCo
  clear h hq hlen hlem hler hsK he d0 hK
  go_enter Try.func67, Try.ntmps67
  go_upto_region 1 with (fail)
  refine wp_world (EB w0 cb mb nm? K P (.map r0) V #[.int .i64 13, .int .i64 n, .string ⟨s.toArray⟩, .int .i64 a, .slice A len c, .slice B lem d, .slice C ler e9] sc) ⟨HH.out.keep (below_alloc _ _), Blk.new _ _ _, Fr.alloc _ _ _, hlt0⟩ ?_
  clear HH
  intro V1 h1
  have H1 := Lib.hid h1
  clear h1

  go_upto_region 3 with (go_at_call 52; refine (HSO.out _ H1.out.ca).mono ?_; rintro e V2 ⟨rfl, hb2⟩)
  refine wp_world (EB w0 cb mb nm? K P (.map r0) V #[.int .i64 13, .int .i64 n, .string ⟨s.toArray⟩, .int .i64 a, .slice A len c, .slice B lem d, .slice C ler e9] sc) (H1.out.keep hb2) ?_
  clear H1 hb2 HSO
  intro V3 h3
  have H3 := Lib.hid h3
  have c0 := h3.box.cell 0
  have c2 := h3.box.cell 2
  have c3 := h3.box.cell 3
  have c4 := h3.box.cell 4
  have c5 := h3.box.cell 5
  have c6 := h3.box.cell 6
  clear h3
  obtain ⟨z, hz⟩ : ∃ z, firstN m = z := ⟨_, rfl⟩
  rw [hz] at HQ
  have HZ := Lib.hid hz
  clear hz c2 c3 c4 c6 HFA HLK
  go_upto_region 21 with (fail)
  clear c0 c5
  go_loopw [105] (fun i wr => ∃ j : Nat, j ≤ lem ∧ i = .int .i64 j ∧ Hid (EB w0 cb mb nm? K P (.map r0) V #[.int .i64 13, .int .i64 n, .string ⟨s.toArray⟩, .int .i64 a, .slice A len c, .slice B lem d, .slice C ler e9] (funC z (m.take j) sc) wr)) (fun i _ => lem - (intOf i).toNat)
  case atStart => exact ⟨0, Nat.zero_le _, rfl, by unfold Hid; simpa [funC] using H3.out⟩
  case round =>
    obtain ⟨j, hj, rfl, HC⟩ := hrel
    clear H3
    by_cases hlt : j < lem
    · have hd1 : decide (j < lem) = true := by simpa using hlt
      have hkl : j < m.length := by rw [HLM.out]; exact hlt
      have hk0 : 0 < m.length := by omega
      obtain ⟨b, o, x, rfl, hx, hok, e0, e1, e2, e3, e4⟩ := rdc_item HRC.out hkl
      obtain ⟨b', o', x0, hAe, hx0, hok0, f0, f1, f2, f3, f4⟩ := rdc_item HRC.out hk0
      cases hAe
      simp only [Nat.zero_mul, Nat.add_zero] at f0
      have hz2 : x0.t.patterns.length = z := by rw [hx0, ← firstN_at hk0]; exact HZ.out
      rw [hz2] at f0
      have HT : Hid (funC z (m.take (j + 1)) sc = funH z x.t.patterns.length x.t.at_ (funC z (m.take j) sc)) := by unfold Hid; rw [hx]; exact funC_take z sc m j hkl
      obtain ⟨s1, hs1⟩ : ∃ s1, funC z (m.take j) sc = s1 := ⟨_, rfl⟩
      rw [hs1] at HC HT
      have HF0 := Lib.hid f0
      replace e0 := HC.out.ca.old e0
      replace e1 := HC.out.ca.old e1
      replace e2 := HC.out.ca.old e2
      replace e3 := HC.out.ca.old e3
      replace e4 := HC.out.ca.old e4
      have hq1 : (0 : Int) ≤ (j : Int) := by omega
      have hq2 : (j : Int) < (lem : Int) := by omega
      have hq3 : 0 < lem := by omega
      obtain ⟨np, hnp⟩ : ∃ np, x.t.patterns.length = np := ⟨_, rfl⟩
      rw [hnp] at HT e0
      clear hx hok hx0 hok0 f0 f1 f2 f3 f4 hz2 hs1
      go_upto_region 23 with (fail)
      obtain ⟨b8, hb8⟩ : ∃ b8, wr.heap.size = b8 := ⟨_, rfl⟩
      rw [hb8]
      have HLT8 := Lib.hid (show cb < b8 by rw [← hb8]; exact HC.out.ca.lt)
      refine wp_world (fun V' => EB w0 cb mb nm? K P (.map r0) V #[.int .i64 13, .int .i64 n, .string ⟨s.toArray⟩, .int .i64 a, .slice A len c, .slice (some ⟨b, o, none⟩) lem d, .slice C ler e9] s1 V' ∧ Blk V' b8 67 #[.slice x.A np x.c, .slice x.B x.t.guards.length x.d, .slice x.C x.t.body.length x.e, .string ⟨x.t.name.toArray⟩, .int .i64 x.t.at_]) ⟨HC.out.keep (below_alloc _ _), by rw [← hb8, ← hnp]; exact Blk.new _ _ _⟩ ?_
      clear HC hb8 e0 e1 e2 e3 e4 hnp
      rintro V4 ⟨h4, hx4⟩
      have H4 := Lib.hid h4
      have HX4 := Lib.hid hx4
      have k0 := hx4.cell 0
      have k5 := h4.box.cell 5
      have g0 := h4.ca.old HF0.out
      clear h4 hx4
      by_cases hnz : np = z
      · have d2 : ((np : Int) != (z : Int)) = false := by simp [hnz]
        have d3 : (np != z) = false := by simp [hnz]
        have HT2 : Hid (funC z (m.take (j + 1)) sc = s1) := by unfold Hid; rw [HT.out]; unfold funH; rw [if_neg (by simpa using hnz)]
        clear hnz HT
        go_wp2
        go_quiet (fail)
        refine cex_world (fun V' => Below V4.heap.size V4 V') (below_drewN (Below.refl _ _) _) ?_
        intro V5 hb5
        have H5 := Lib.hid (H4.out.keep hb5)
        clear H4 HX4 hb5 k0 k5 g0
        go_wp2
        go_roundw
        case rel => exact ⟨j + 1, by omega, by go_num, by rw [HT2.out]; exact H5.out⟩
        case measure => simp [intOf]; omega
      · have d2 : ((np : Int) != (z : Int)) = true := by simp; omega
        have d3 : (np != z) = true := by simpa using hnz
        have HT2 : Hid (funC z (m.take (j + 1)) sc = failC 120 x.t.at_ s1) := by unfold Hid; rw [HT.out]; unfold funH; rw [if_pos hnz]
        clear hnz HT
        go_wp2
        go_quiet (fail)
        refine cex_world (fun V' => Below V4.heap.size V4 V') (below_drewN (Below.refl _ _) _) ?_
        intro V5 hb5
        have H5 := Lib.hid (H4.out.keep hb5)
        have k4 := (HX4.out.keep hb5).cell 4
        clear H4 HX4 hb5 k0 k5 g0
        go_wp2_with (go_at_call 27; refine (HFG.out _ _ _ _ H5.out.ca).mono ?_; rintro e V6 ⟨rfl, hk6, hf6⟩)
        go_roundw
        case rel => exact ⟨j + 1, by omega, by go_num, by rw [HT2.out]; exact H5.out.act hk6 hf6⟩
        case measure => simp [intOf]; omega
    · obtain rfl : j = lem := by omega
      have hd1 : decide (j < j) = false := by simp
      rw [List.take_of_length_le (by rw [HLM.out]; exact Nat.le_refl _)] at HC
      have c5 := HC.out.box.cell 5
      go_wp2_with (go_at_call 28; refine (HCO.out _ _ _ _ HC.out.ca).mono ?_; rintro e V7 ⟨rfl, hk7, hf7⟩)
      go_ret
      rw [HQ.out]
      exact ⟨_, rfl, hk7, HC.out.fr.same hf7⟩
/-- expr, row, clauses: at every tree. -/
theorem exp_of (hK : KK K) {N : Nat} (hE : ExpOk w0 cb mb nm? K N) (hRo : RowOk w0 cb mb nm? K N) (hCo : ClsOk w0 cb mb nm? K N) : ExpOk w0 cb mb nm? K (N + 1) := by
  rintro ⟨⟨k, n, s, a, l, m, r⟩, A, c, B, d, C, e⟩ P v sc V hN hok hwf hal h
  have hRN : RdN NoB w0 A c l := hok.kids
  have hRC : RdC NoB w0 B d m := hok.clauses
  have hRB : RdN NoB w0 C e r := hok.body
  simp only [ND.sz] at hN
  simp only [ND.all] at hal
  simp only [ND.wf] at hwf
  have r1 := fun (P' : Nms) (v' : Value) (sc' : CS) (V' : World) (h' : CA w0 cb mb nm? K P' v' sc' V') => hRo l A c P' v' sc' V' (by omega) hRN hwf.2.2.1 hal.2.1 h'
  have r2 := fun (P' : Nms) (v' : Value) (sc' : CS) (V' : World) (h' : CA w0 cb mb nm? K P' v' sc' V') => hRo r C e P' v' sc' V' (by omega) hRB hwf.2.2.2.2 hal.2.2.2 h'
  have r3 := fun (P' : Nms) (v' : Value) (sc' : CS) (V' : World) (h' : CA w0 cb mb nm? K P' v' sc' V') => hCo m B d P' v' sc' V' (by omega) hRC hwf.2.2.2.1 hal.2.2.1 h'
  show Calls Try.prog 67 #[.pointer (some ⟨cb, 0, none⟩), v, .agg #[.int .i64 k, .int .i64 n, .string ⟨s.toArray⟩, .int .i64 a, .slice A l.length c, .slice B m.length d, .slice C r.length e]] V (REnd w0 cb mb nm? K V (expC bltP nm? P (ND.mk k n s a l m r) sc))
  simp only [expC]
  by_cases he : sc.e = 0
  rotate_left
  · exact exp_err h hK k n s a l A c m B d r C e hal.1 he (by simp [he])
  by_cases h3 : k = 3
  · subst h3
    by_cases hm : s ∈ P
    · exact exp_k3a h hK n s a l A c m B d r C e hal.1 he hm (by simp [he, hm])
    · exact exp_k3b h hK n s a l A c m B d r C e hal.1 he hm (by simp [he, hm])
  by_cases h7 : k = 7
  · subst h7
    cases hnm : nm? s l.length with
    | true => exact exp_k7a h hK n s a l A c m B d r C e hal.1 he hRN hnm (fun sc' V' h' => r1 P v sc' V' h') (by simp [he])
    | false =>
      by_cases hb : bltP s l.length = 0
      · exact exp_k7c h hK n s a l A c m B d r C e hal.1 he hRN hnm hb (fun sc' V' h' => r1 P v sc' V' h') (by simp [he, hb])
      · exact exp_k7b h hK n s a l A c m B d r C e hal.1 he hRN hnm hb (fun sc' V' h' => r1 P v sc' V' h') (by simp [he, hb])
  by_cases h11 : k = 11
  · subst h11
    have h2 := hwf.2.1 rfl
    refine exp_k11 h hK n s a l A c m B d r C e hal.1 he hRN h2 (fun x V' hx hxo h' => ?_) (fun x P' v' s' V' hx hxo h' => ?_) (by simp [he])
    · rw [← hx]
      exact hE x P v sc V' (by rw [hx]; have := ndsz_at l 1 (by omega); omega) hxo (by rw [hx]; exact ndwf_at hwf.2.2.1 _) (by rw [hx]; exact ndall_at hal.2.1 _) h'
    · rw [← hx]
      exact cpat_any hK x.t.sz x P' v' s' V' (Nat.le_refl _) hxo (by rw [hx]; exact ndwf_at hwf.2.2.1 _) (by rw [hx]; exact ndall_at hal.2.1 _) h'
  by_cases h16 : k = 16
  · subst h16
    exact exp_k16 h hK n s a l A c m B d r C e hal.1 he r2 r3 (by simp [he])
  by_cases h13 : k = 13
  · subst h13
    exact exp_k13 h hK n s a l A c m B d r C e hal.1 he hRC r3 (by simp [he])
  exact exp_other h hK k n s a l A c m B d r C e hal.1 he r1 r2 r3 h3 h7 h11 h16 h13 (by simp [he, h3, h7, h11, h16, h13])
theorem all_chk (hK : KK K) : ∀ N, ExpOk w0 cb mb nm? K N ∧ RowOk w0 cb mb nm? K N ∧ ClsOk w0 cb mb nm? K N
  | 0 => by
    have h1 : ExpOk w0 cb mb nm? K 0 := fun x P v sc V hN => by have := x.t.sz_pos; omega
    exact ⟨h1, crow_of h1, cls_of hK (crow_of h1)⟩
  | N + 1 => by
    obtain ⟨h1, h2, h3⟩ := all_chk hK N
    have h4 := exp_of hK h1 h2 h3
    exact ⟨h4, crow_of h4, cls_of hK (crow_of h4)⟩
end
end Go.Proofs.Ythhindnjnijglaa
