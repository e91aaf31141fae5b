/- Layer 12: the walk of the checker's expr: matches, try, fun, all others; every node. Written by chgenl.py. -/
import Derived.Test.YthhindnjnijglaaChL
import Derived.Test.YthhindnjnijglaaOrd
namespace Go.Proofs.Ythhindnjnijglaa
open Go.RowKit
set_option linter.unusedVariables false

section
variable {w0 : World} {cb mb : Nat} {nm? : List UInt8 → Nat → Bool} {K P : Nms} {v : Value} {sc : CS} {V V' : World}
theorem firstN_at {m : List CD} (h : 0 < m.length) : firstN m = (m[0]).patterns.length := by
  match m, h with
  | x :: r, _ => rfl

set_option maxRecDepth 100000 in
set_option maxHeartbeats 4000000 in
theorem exp_k16 (h : CA w0 cb mb nm? K P v sc V) (hK : KK K) (n : Int) (s : List UInt8) (a : Int) (l : List ND) (A : Option Addr) (c : Nat) (m : List CD) (B : Option Addr) (d : Nat) (r : List ND) (C : Option Addr) (e9 : Nat) (hsK : s ∈ K) (he : sc.e = 0) (hRr : ∀ (P' : Nms) (v' : Value) (sc' : CS) (V' : World), CA w0 cb mb nm? K P' v' sc' V' → Calls Try.prog 55 #[.pointer (some ⟨cb, 0, none⟩), v', .slice C r.length e9] V' (REnd w0 cb mb nm? K V' (rowC bltP nm? P' r sc'))) (hCo : ∀ (P' : Nms) (v' : Value) (sc' : CS) (V' : World), CA w0 cb mb nm? K P' v' sc' V' → Calls Try.prog 28 #[.pointer (some ⟨cb, 0, none⟩), v', .slice B m.length d] V' (VEnd w0 cb mb nm? K P' v' V' (clsC bltP nm? P' m sc'))) {q : Nms × CS} (hq : q = (P, clsC bltP nm? P m (rowC bltP nm? P r sc).2)) :
    Calls Try.prog 67 #[.pointer (some ⟨cb, 0, none⟩), v, .agg #[.int .i64 16, .int .i64 n, .string ⟨s.toArray⟩, .int .i64 a, .slice A l.length c, .slice B m.length d, .slice C r.length e9]] V (REnd w0 cb mb nm? K V q) := by
  have HH := Lib.hid h
  have HQ := Lib.hid hq
  have hsl := hK.txt s hsK
  have hlt0 := h.lt
  have d0 : (sc.e == 0) = true := by simpa using he
  have HSO : Hid (∀ V', CA w0 cb mb nm? K P v sc V' → Calls Try.prog 52 #[.pointer (some ⟨cb, 0, none⟩)] V' fun e w' => e = .returned (.bool true) ∧ Below V'.heap.size V' w') := fun V' h' => by rw [← d0]; exact sound_any h'.ck
  have HFA : Hid (∀ e a V', CA w0 cb mb nm? K P v sc V' → Calls Try.prog 27 #[.pointer (some ⟨cb, 0, none⟩), .int .i64 e, .int .i64 a] V' fun r w' => r = .returned (.tuple #[]) ∧ CK cb mb nm? (failC e a sc) w' ∧ CFr cb V' w') := fun e a V' h' => cfails_any h'.ck e a
  have HLK : Hid (∀ V', CA w0 cb mb nm? K P v sc V' → (Instr.lookup 43 v (.string ⟨s.toArray⟩) false).run Try.prog V' = .ok (.bool (decide (s ∈ P))) V') := fun V' h' => h'.sc.look (by unfold maxLen; omega)
  have HRR := Lib.hid hRr
  have HCO := Lib.hid hCo
  obtain ⟨len, hlen⟩ : ∃ len, l.length = len := ⟨_, rfl⟩
  obtain ⟨lem, hlem⟩ : ∃ lem, m.length = lem := ⟨_, rfl⟩
  obtain ⟨ler, hler⟩ : ∃ ler, r.length = ler := ⟨_, rfl⟩
  have HLN := Lib.hid hlen
  have HLM := Lib.hid hlem
  have HLR := Lib.hid hler
  obtain ⟨r0, rfl⟩ := h.sc.form
  rw [hlen, hlem, hler]
  rw [hler] at HRR
  rw [hlem] at HCO
  clear hRr hCo
  clear h hq hlen hlem hler hsK he d0 hK
  go_enter Try.func67, Try.ntmps67
  go_upto_region 1 with (fail)
  refine wp_world (EB w0 cb mb nm? K P (.map r0) V #[.int .i64 16, .int .i64 n, .string ⟨s.toArray⟩, .int .i64 a, .slice A len c, .slice B lem d, .slice C ler e9] sc) ⟨HH.out.keep (below_alloc _ _), Blk.new _ _ _, Fr.alloc _ _ _, hlt0⟩ ?_
  clear HH
  intro V1 h1
  have H1 := Lib.hid h1
  clear h1

  go_upto_region 3 with (go_at_call 52; refine (HSO.out _ H1.out.ca).mono ?_; rintro e V2 ⟨rfl, hb2⟩)
  refine wp_world (EB w0 cb mb nm? K P (.map r0) V #[.int .i64 16, .int .i64 n, .string ⟨s.toArray⟩, .int .i64 a, .slice A len c, .slice B lem d, .slice C ler e9] sc) (H1.out.keep hb2) ?_
  clear H1 hb2 HSO
  intro V3 h3
  have H3 := Lib.hid h3
  have c0 := h3.box.cell 0
  have c2 := h3.box.cell 2
  have c3 := h3.box.cell 3
  have c4 := h3.box.cell 4
  have c5 := h3.box.cell 5
  have c6 := h3.box.cell 6
  clear h3
  go_wp2_with (first
    | (go_at_call 55; refine (HRR.out _ _ _ _ H3.out.ca).mono ?_; rintro e V6 ⟨v6, rfl, hk6, hf6⟩; have H6 := Lib.hid (H3.out.act hk6.ck hf6); have c5 := H6.out.box.cell 5)
    | (go_at_call 28; refine (HCO.out _ _ _ _ H6.out.ca).mono ?_; rintro e V7 ⟨rfl, hk7, hf7⟩))
  go_ret
  rw [HQ.out]
  exact ⟨_, rfl, hk7, H6.out.fr.same hf7⟩
set_option maxRecDepth 100000 in
set_option maxHeartbeats 4000000 in
theorem exp_other (h : CA w0 cb mb nm? K P v sc V) (hK : KK K) (k : Int) (n : Int) (s : List UInt8) (a : Int) (l : List ND) (A : Option Addr) (c : Nat) (m : List CD) (B : Option Addr) (d : Nat) (r : List ND) (C : Option Addr) (e9 : Nat) (hsK : s ∈ K) (he : sc.e = 0) (hRl : ∀ (P' : Nms) (v' : Value) (sc' : CS) (V' : World), CA w0 cb mb nm? K P' v' sc' V' → Calls Try.prog 55 #[.pointer (some ⟨cb, 0, none⟩), v', .slice A l.length c] V' (REnd w0 cb mb nm? K V' (rowC bltP nm? P' l sc'))) (hRr : ∀ (P' : Nms) (v' : Value) (sc' : CS) (V' : World), CA w0 cb mb nm? K P' v' sc' V' → Calls Try.prog 55 #[.pointer (some ⟨cb, 0, none⟩), v', .slice C r.length e9] V' (REnd w0 cb mb nm? K V' (rowC bltP nm? P' r sc'))) (hCo : ∀ (P' : Nms) (v' : Value) (sc' : CS) (V' : World), CA w0 cb mb nm? K P' v' sc' V' → Calls Try.prog 28 #[.pointer (some ⟨cb, 0, none⟩), v', .slice B m.length d] V' (VEnd w0 cb mb nm? K P' v' V' (clsC bltP nm? P' m sc'))) (h3 : k ≠ 3) (h7 : k ≠ 7) (h11 : k ≠ 11) (h16 : k ≠ 16) (h13 : k ≠ 13) {q : Nms × CS} (hq : q = ((rowC bltP nm? P l sc).1, (rowC bltP nm? (rowC bltP nm? P l sc).1 r (clsC bltP nm? (rowC bltP nm? P l sc).1 m (rowC bltP nm? P l sc).2)).2)) :
    Calls Try.prog 67 #[.pointer (some ⟨cb, 0, none⟩), v, .agg #[.int .i64 k, .int .i64 n, .string ⟨s.toArray⟩, .int .i64 a, .slice A l.length c, .slice B m.length d, .slice C r.length e9]] V (REnd w0 cb mb nm? K V q) := by
  have HH := Lib.hid h
  have HQ := Lib.hid hq
  have hsl := hK.txt s hsK
  have hlt0 := h.lt
  have d0 : (sc.e == 0) = true := by simpa using he
  have HSO : Hid (∀ V', CA w0 cb mb nm? K P v sc V' → Calls Try.prog 52 #[.pointer (some ⟨cb, 0, none⟩)] V' fun e w' => e = .returned (.bool true) ∧ Below V'.heap.size V' w') := fun V' h' => by rw [← d0]; exact sound_any h'.ck
  have HFA : Hid (∀ e a V', CA w0 cb mb nm? K P v sc V' → Calls Try.prog 27 #[.pointer (some ⟨cb, 0, none⟩), .int .i64 e, .int .i64 a] V' fun r w' => r = .returned (.tuple #[]) ∧ CK cb mb nm? (failC e a sc) w' ∧ CFr cb V' w') := fun e a V' h' => cfails_any h'.ck e a
  have HLK : Hid (∀ V', CA w0 cb mb nm? K P v sc V' → (Instr.lookup 43 v (.string ⟨s.toArray⟩) false).run Try.prog V' = .ok (.bool (decide (s ∈ P))) V') := fun V' h' => h'.sc.look (by unfold maxLen; omega)
  have HRL := Lib.hid hRl
  have HRR := Lib.hid hRr
  have HCO := Lib.hid hCo
  have d3 : (k == 3) = false := by simpa using h3
  have d7 : (k == 7) = false := by simpa using h7
  have d11 : (k == 11) = false := by simpa using h11
  have d16 : (k == 16) = false := by simpa using h16
  have d13 : (k == 13) = false := by simpa using h13
  obtain ⟨len, hlen⟩ : ∃ len, l.length = len := ⟨_, rfl⟩
  obtain ⟨lem, hlem⟩ : ∃ lem, m.length = lem := ⟨_, rfl⟩
  obtain ⟨ler, hler⟩ : ∃ ler, r.length = ler := ⟨_, rfl⟩
  have HLN := Lib.hid hlen
  have HLM := Lib.hid hlem
  have HLR := Lib.hid hler
  obtain ⟨r0, rfl⟩ := h.sc.form
  rw [hlen, hlem, hler]
  rw [hlen] at HRL
  rw [hler] at HRR
  rw [hlem] at HCO
  clear hRl hRr hCo h3 h7 h11 h16 h13
  clear h hq hlen hlem hler hsK he d0 hK
  go_enter Try.func67, Try.ntmps67
  go_upto_region 1 with (fail)
  refine wp_world (EB w0 cb mb nm? K P (.map r0) V #[.int .i64 k, .int .i64 n, .string ⟨s.toArray⟩, .int .i64 a, .slice A len c, .slice B lem d, .slice C ler e9] sc) ⟨HH.out.keep (below_alloc _ _), Blk.new _ _ _, Fr.alloc _ _ _, hlt0⟩ ?_
  clear HH
  intro V1 h1
  have H1 := Lib.hid h1
  clear h1

  go_upto_region 3 with (go_at_call 52; refine (HSO.out _ H1.out.ca).mono ?_; rintro e V2 ⟨rfl, hb2⟩)
  refine wp_world (EB w0 cb mb nm? K P (.map r0) V #[.int .i64 k, .int .i64 n, .string ⟨s.toArray⟩, .int .i64 a, .slice A len c, .slice B lem d, .slice C ler e9] sc) (H1.out.keep hb2) ?_
  clear H1 hb2 HSO
  intro V3 h3
  have H3 := Lib.hid h3
  have c0 := h3.box.cell 0
  have c2 := h3.box.cell 2
  have c3 := h3.box.cell 3
  have c4 := h3.box.cell 4
  have c5 := h3.box.cell 5
  have c6 := h3.box.cell 6
  clear h3
  obtain ⟨q1, hq1⟩ : ∃ q1, rowC bltP nm? P l sc = q1 := ⟨_, rfl⟩
  have HQ1 : Hid (q = (q1.1, (rowC bltP nm? q1.1 r (clsC bltP nm? q1.1 m q1.2)).2)) := by unfold Hid; rw [← hq1]; exact HQ.out
  have HRL1 := HRL.out P (.map r0) sc V3 H3.out.ca
  rw [hq1] at HRL1
  have HRL2 := Lib.hid HRL1
  clear hq1 HQ HRL HRL1
  go_upto_region 5 with (go_at_call 55; refine HRL2.out.mono ?_; rintro e V4 ⟨v4, rfl, hk4, hf4⟩; obtain ⟨r4, rfl⟩ := hk4.sc.form)
  have HB4 := Lib.hid (H3.out.act hk4.ck hf4)
  have HC4 := Lib.hid hk4
  have HF4 := Lib.hid (H3.out.fr.same hf4)
  clear H3 hk4 hf4 c0 c2 c3 c4 c5 c6
  have c5 := HB4.out.box.cell 5
  go_upto_region 6 with (go_at_call 28; refine (HCO.out _ _ _ _ HC4.out).mono ?_; rintro e V5 ⟨rfl, hk5, hf5⟩)
  have HB5 := Lib.hid (HB4.out.act hk5.ck hf5)
  have HC5 := Lib.hid hk5
  have HF5 := Lib.hid (HF4.out.same hf5)
  clear HB4 HC4 HF4 hk5 hf5 c5
  have c6 := HB5.out.box.cell 6
  go_wp2_with (go_at_call 55; refine (HRR.out _ _ _ _ HC5.out).mono ?_; rintro e V6 ⟨v6, rfl, hk6, hf6⟩)
  go_ret
  rw [HQ1.out]
  exact ⟨_, rfl, HC5.out.act hk6.ck hf6, HF5.out.same hf6⟩
set_option maxRecDepth 100000 in
set_option maxHeartbeats 4000000 in
theorem exp_k11 (h : CA w0 cb mb nm? K P v sc V) (hK : KK K) (n : Int) (s : List UInt8) (a : Int) (l : List ND) (A : Option Addr) (c : Nat) (m : List CD) (B : Option Addr) (d : Nat) (r : List ND) (C : Option Addr) (e9 : Nat) (hsK : s ∈ K) (he : sc.e = 0) (hRN : RdN NoB w0 A c l) (h2 : 2 ≤ l.length) (hE : ∀ (x : EN) (V' : World), x.t = l[1] → x.Ok NoB w0 → CA w0 cb mb nm? K P v sc V' → Calls Try.prog 67 #[.pointer (some ⟨cb, 0, none⟩), v, .agg #[.int .i64 x.t.kind, .int .i64 x.t.int, .string ⟨x.t.name.toArray⟩, .int .i64 x.t.at_, .slice x.A x.t.kids.length x.c, .slice x.B x.t.clauses.length x.d, .slice x.C x.t.body.length x.e]] V' (REnd w0 cb mb nm? K V' (expC bltP nm? P l[1] sc)))
    (hP : ∀ (x : EN) (P' : Nms) (v' : Value) (s' : CS) (V' : World), x.t = l[0] → x.Ok NoB w0 → CA w0 cb mb nm? K P' v' s' V' → Calls Try.prog 53 #[.pointer (some ⟨cb, 0, none⟩), v', .agg #[.int .i64 x.t.kind, .int .i64 x.t.int, .string ⟨x.t.name.toArray⟩, .int .i64 x.t.at_, .slice x.A x.t.kids.length x.c, .slice x.B x.t.clauses.length x.d, .slice x.C x.t.body.length x.e]] V' (REnd w0 cb mb nm? K V' (patC P' l[0] s'))) {q : Nms × CS} (hq : q = mtcC bltP nm? P l sc) :
    Calls Try.prog 67 #[.pointer (some ⟨cb, 0, none⟩), v, .agg #[.int .i64 11, .int .i64 n, .string ⟨s.toArray⟩, .int .i64 a, .slice A l.length c, .slice B m.length d, .slice C r.length e9]] V (REnd w0 cb mb nm? K V q) := by
  have HH := Lib.hid h
  have HQ := Lib.hid hq
  have hsl := hK.txt s hsK
  have hlt0 := h.lt
  have d0 : (sc.e == 0) = true := by simpa using he
  have HSO : Hid (∀ V', CA w0 cb mb nm? K P v sc V' → Calls Try.prog 52 #[.pointer (some ⟨cb, 0, none⟩)] V' fun e w' => e = .returned (.bool true) ∧ Below V'.heap.size V' w') := fun V' h' => by rw [← d0]; exact sound_any h'.ck
  have HFA : Hid (∀ e a V', CA w0 cb mb nm? K P v sc V' → Calls Try.prog 27 #[.pointer (some ⟨cb, 0, none⟩), .int .i64 e, .int .i64 a] V' fun r w' => r = .returned (.tuple #[]) ∧ CK cb mb nm? (failC e a sc) w' ∧ CFr cb V' w') := fun e a V' h' => cfails_any h'.ck e a
  have HLK : Hid (∀ V', CA w0 cb mb nm? K P v sc V' → (Instr.lookup 43 v (.string ⟨s.toArray⟩) false).run Try.prog V' = .ok (.bool (decide (s ∈ P))) V') := fun V' h' => h'.sc.look (by unfold maxLen; omega)
  obtain ⟨b, o, x, rfl, hx, hxo, x0, x1, x2, x3, x4, x5, x6⟩ := rdn_item hRN (k := 0) (by omega)
  obtain ⟨b', o', y, hAe, hy, hyo, y0, y1, y2, y3, y4, y5, y6⟩ := rdn_item hRN (k := 1) (by omega)
  cases hAe
  simp only [Nat.zero_mul, Nat.add_zero, Nat.one_mul] at x0 x1 x2 x3 x4 x5 x6 y0 y1 y2 y3 y4 y5 y6
  have HE := Lib.hid (fun V' h' => hE y V' hy hyo h')
  have HP := Lib.hid (fun P' v' s' V' h' => hP x P' v' s' V' hx hxo h')
  have HQ2 : Hid (q = patC (expC bltP nm? P l[1] sc).1 l[0] (expC bltP nm? P l[1] sc).2) := by unfold Hid; rw [hq]; exact mtcC_two _ _ _ _ h2
  obtain ⟨q1, hq1⟩ : ∃ q1, expC bltP nm? P l[1] sc = q1 := ⟨_, rfl⟩
  rw [hq1] at HE HQ2
  have HBL := Lib.hid (World.block_lt_of_cell? w0 _ x0)
  have hcl := hRN.1
  have hcl2 := hRN.2.1
  have HOLD := Lib.hid (fun V' (h' : CA w0 cb mb nm? K P v sc V') => (⟨h'.old x0, h'.old x1, h'.old x2, h'.old x3, h'.old x4, h'.old x5, h'.old x6, h'.old y0, h'.old y1, h'.old y2, h'.old y3, h'.old y4, h'.old y5, h'.old y6⟩ : V'.cell? ⟨b, o, none⟩ = some (.int .i64 x.t.kind) ∧ V'.cell? ⟨b, o + 1, none⟩ = some (.int .i64 x.t.int) ∧ V'.cell? ⟨b, o + 2, none⟩ = some (.string ⟨x.t.name.toArray⟩) ∧ V'.cell? ⟨b, o + 3, none⟩ = some (.int .i64 x.t.at_) ∧ V'.cell? ⟨b, o + 4, none⟩ = some (.slice x.A x.t.kids.length x.c) ∧ V'.cell? ⟨b, o + 5, none⟩ = some (.slice x.B x.t.clauses.length x.d) ∧ V'.cell? ⟨b, o + 6, none⟩ = some (.slice x.C x.t.body.length x.e) ∧ V'.cell? ⟨b, o + 7, none⟩ = some (.int .i64 y.t.kind) ∧ V'.cell? ⟨b, o + 7 + 1, none⟩ = some (.int .i64 y.t.int) ∧ V'.cell? ⟨b, o + 7 + 2, none⟩ = some (.string ⟨y.t.name.toArray⟩) ∧ V'.cell? ⟨b, o + 7 + 3, none⟩ = some (.int .i64 y.t.at_) ∧ V'.cell? ⟨b, o + 7 + 4, none⟩ = some (.slice y.A y.t.kids.length y.c) ∧ V'.cell? ⟨b, o + 7 + 5, none⟩ = some (.slice y.B y.t.clauses.length y.d) ∧ V'.cell? ⟨b, o + 7 + 6, none⟩ = some (.slice y.C y.t.body.length y.e)))
  obtain ⟨len, hlen⟩ : ∃ len, l.length = len := ⟨_, rfl⟩
  obtain ⟨lem, hlem⟩ : ∃ lem, m.length = lem := ⟨_, rfl⟩
  obtain ⟨ler, hler⟩ : ∃ ler, r.length = ler := ⟨_, rfl⟩
  have HLN := Lib.hid hlen
  have HLM := Lib.hid hlem
  have HLR := Lib.hid hler
  obtain ⟨r0, rfl⟩ := h.sc.form
  rw [hlen, hlem, hler]
  rw [hlen] at hcl h2
  clear hRN hE hP hx hxo hy hyo hq1 x0 y0 x1 y1 x2 y2 x3 y3 x4 y4 x5 y5 x6 y6
  clear h hq hlen hlem hler hsK he d0 hK
  go_enter Try.func67, Try.ntmps67
  go_upto_region 1 with (fail)
  refine wp_world (EB w0 cb mb nm? K P (.map r0) V #[.int .i64 11, .int .i64 n, .string ⟨s.toArray⟩, .int .i64 a, .slice (some ⟨b, o, none⟩) len c, .slice B lem d, .slice C ler e9] sc) ⟨HH.out.keep (below_alloc _ _), Blk.new _ _ _, Fr.alloc _ _ _, hlt0⟩ ?_
  clear HH
  intro V1 h1
  have H1 := Lib.hid h1
  clear h1

  go_upto_region 3 with (go_at_call 52; refine (HSO.out _ H1.out.ca).mono ?_; rintro e V2 ⟨rfl, hb2⟩)
  refine wp_world (EB w0 cb mb nm? K P (.map r0) V #[.int .i64 11, .int .i64 n, .string ⟨s.toArray⟩, .int .i64 a, .slice (some ⟨b, o, none⟩) len c, .slice B lem d, .slice C ler e9] sc) (H1.out.keep hb2) ?_
  clear H1 hb2 HSO
  intro V3 h3
  have H3 := Lib.hid h3
  have c0 := h3.box.cell 0
  have c2 := h3.box.cell 2
  have c3 := h3.box.cell 3
  have c4 := h3.box.cell 4
  have c5 := h3.box.cell 5
  have c6 := h3.box.cell 6
  clear h3
  obtain ⟨g0, g1, g2, g3, g4, g5, g6, u0, u1, u2, u3, u4, u5, u6⟩ := HOLD.out V3 H3.out.ca
  have HSC : Hid (∀ V', CFr cb V3 V' → V'.cell? ⟨V.heap.size, 4, none⟩ = some (.slice (some ⟨b, o, none⟩) len c) ∧ V'.cell? ⟨b, o, none⟩ = some (.int .i64 x.t.kind) ∧ V'.cell? ⟨b, o + 1, none⟩ = some (.int .i64 x.t.int) ∧ V'.cell? ⟨b, o + 2, none⟩ = some (.string ⟨x.t.name.toArray⟩) ∧ V'.cell? ⟨b, o + 3, none⟩ = some (.int .i64 x.t.at_) ∧ V'.cell? ⟨b, o + 4, none⟩ = some (.slice x.A x.t.kids.length x.c) ∧ V'.cell? ⟨b, o + 5, none⟩ = some (.slice x.B x.t.clauses.length x.d) ∧ V'.cell? ⟨b, o + 6, none⟩ = some (.slice x.C x.t.body.length x.e) ∧ V'.cell? ⟨b, o + 7, none⟩ = some (.int .i64 y.t.kind) ∧ V'.cell? ⟨b, o + 7 + 1, none⟩ = some (.int .i64 y.t.int) ∧ V'.cell? ⟨b, o + 7 + 2, none⟩ = some (.string ⟨y.t.name.toArray⟩) ∧ V'.cell? ⟨b, o + 7 + 3, none⟩ = some (.int .i64 y.t.at_) ∧ V'.cell? ⟨b, o + 7 + 4, none⟩ = some (.slice y.A y.t.kids.length y.c) ∧ V'.cell? ⟨b, o + 7 + 5, none⟩ = some (.slice y.B y.t.clauses.length y.d) ∧ V'.cell? ⟨b, o + 7 + 6, none⟩ = some (.slice y.C y.t.body.length y.e)) := fun V' hf => by
    have hc : ∀ {p : Addr} {u : Value}, p.block < w0.heap.size → V3.cell? p = some u → V'.cell? p = some u := fun {p u} hp hu => by
      have hlo := H3.out.ca.lo
      rw [World.cell?_of_block (hf.block _ (World.block_lt_of_cell? V3 p hu) (by omega))]; exact hu
    have hbl : b < w0.heap.size := HBL.out
    exact ⟨(hf.blk H3.out.box (by omega)).cell 4, hc hbl g0, hc hbl g1, hc hbl g2, hc hbl g3, hc hbl g4, hc hbl g5, hc hbl g6, hc hbl u0, hc hbl u1, hc hbl u2, hc hbl u3, hc hbl u4, hc hbl u5, hc hbl u6⟩
  clear g0 g1 g2 g3 g4 g5 g6 u0 u1 u2 u3 u4 u5 u6 HOLD c2 c3 c4 c5 c6
  have hq2 : (1 : Int) < (len : Int) := by omega
  have hq3 : 1 < len := by omega
  have hq4 : 0 < len := by omega
  go_upto_region 15 with (fail)
  clear c0
  refine wp_region_W 12 (fun V' => CFr cb V3 V') (by kernel_rfl) ?_ (fun hS0 => ?_)
  · exact (Fr.refl _ _).drew
  (refine wpAnyW_take (i := 0) (v := ?_) rfl (by kernel_rfl) (by kernel_rfl) (by kernel_rfl) (by kernel_rfl) (fun _ _ _ h => h) (Or.inl ⟨by kernel_rfl, ?_⟩) (by assumption) ?_; rotate_left; focus (intro V9 hS9; go_simp; (try (with_reducible rfl)); done))
  try simp only [Act.put, List.getElem_toArray, List.getElem_cons_zero, List.setIfInBounds_toArray, List.set_cons_succ, List.set_cons_zero]
  (refine wpAnyW_take (i := 1) (v := ?_) rfl (by kernel_rfl) (by kernel_rfl) (by kernel_rfl) (by kernel_rfl) (fun _ _ _ h => h) (Or.inl ⟨by kernel_rfl, ?_⟩) (by assumption) ?_; rotate_left; focus (intro V9 hS9; go_simp; (try (with_reducible rfl)); done))
  try simp only [Act.put, List.getElem_toArray, List.getElem_cons_succ, List.getElem_cons_zero, List.setIfInBounds_toArray, List.set_cons_succ, List.set_cons_zero]
  (refine wpAnyW_take (i := 2) (v := ?_) rfl (by kernel_rfl) (by kernel_rfl) (by kernel_rfl) (by kernel_rfl) (fun _ _ _ h => h) (Or.inl ⟨by kernel_rfl, ?_⟩) (by assumption) ?_; rotate_left; focus (intro V9 hS9; go_simp; (try (with_reducible rfl)); done))
  try simp only [Act.put, List.getElem_toArray, List.getElem_cons_succ, List.getElem_cons_zero, List.setIfInBounds_toArray, List.set_cons_succ, List.set_cons_zero]
  (refine wpAnyW_take (i := 3) (v := ?_) rfl (by kernel_rfl) (by kernel_rfl) (by kernel_rfl) (by kernel_rfl) (fun _ _ _ h => h) (Or.inl ⟨by kernel_rfl, ?_⟩) (by assumption) ?_; rotate_left; focus (intro V9 hS9; obtain ⟨g0, g1, g2, g3, g4, g5, g6, g7, u0, u1, u2, u3, u4, u5, u6⟩ := HSC.out V9 hS9; go_simp; (try (with_reducible rfl)); done))
  try simp only [Act.put, List.getElem_toArray, List.getElem_cons_succ, List.getElem_cons_zero, List.setIfInBounds_toArray, List.set_cons_succ, List.set_cons_zero]
  (refine wpAnyW_take (i := 4) (v := ?_) rfl (by kernel_rfl) (by kernel_rfl) (by kernel_rfl) (by kernel_rfl) (fun _ _ _ h => h) (Or.inl ⟨by kernel_rfl, ?_⟩) (by assumption) ?_; rotate_left; focus (intro V9 hS9; obtain ⟨g0, g1, g2, g3, g4, g5, g6, g7, u0, u1, u2, u3, u4, u5, u6⟩ := HSC.out V9 hS9; go_simp; (try (with_reducible rfl)); done))
  try simp only [Act.put, List.getElem_toArray, List.getElem_cons_succ, List.getElem_cons_zero, List.setIfInBounds_toArray, List.set_cons_succ, List.set_cons_zero]
  (refine wpAnyW_take (i := 5) (v := ?_) rfl (by kernel_rfl) (by kernel_rfl) (by kernel_rfl) (by kernel_rfl) (fun _ _ _ h => h) (Or.inl ⟨by kernel_rfl, ?_⟩) (by assumption) ?_; rotate_left; focus (intro V9 hS9; obtain ⟨g0, g1, g2, g3, g4, g5, g6, g7, u0, u1, u2, u3, u4, u5, u6⟩ := HSC.out V9 hS9; go_simp; (try (with_reducible rfl)); done))
  try simp only [Act.put, List.getElem_toArray, List.getElem_cons_succ, List.getElem_cons_zero, List.setIfInBounds_toArray, List.set_cons_succ, List.set_cons_zero]
  (refine wpAnyW_take (i := 6) (v := ?_) rfl (by kernel_rfl) (by kernel_rfl) (by kernel_rfl) (by kernel_rfl) (fun _ _ _ h => h) (Or.inl ⟨by kernel_rfl, ?_⟩) (by assumption) ?_; rotate_left; focus (intro V9 hS9; obtain ⟨g0, g1, g2, g3, g4, g5, g6, g7, u0, u1, u2, u3, u4, u5, u6⟩ := HSC.out V9 hS9; go_simp; (try (with_reducible rfl)); done))
  try simp only [Act.put, List.getElem_toArray, List.getElem_cons_succ, List.getElem_cons_zero, List.setIfInBounds_toArray, List.set_cons_succ, List.set_cons_zero]
  (refine wpAnyW_take (i := 8) (v := ?_) rfl (by kernel_rfl) (by kernel_rfl) (by kernel_rfl) (by kernel_rfl) (fun _ _ _ h => h) (Or.inl ⟨by kernel_rfl, ?_⟩) (by assumption) ?_; rotate_left; focus (intro V9 hS9; obtain ⟨g0, g1, g2, g3, g4, g5, g6, g7, u0, u1, u2, u3, u4, u5, u6⟩ := HSC.out V9 hS9; go_simp; (try (with_reducible rfl)); done))
  try simp only [Act.put, List.getElem_toArray, List.getElem_cons_succ, List.getElem_cons_zero, List.setIfInBounds_toArray, List.set_cons_succ, List.set_cons_zero]
  (refine wpAnyW_take (i := 9) (v := ?_) rfl (by kernel_rfl) (by kernel_rfl) (by kernel_rfl) (by kernel_rfl) (fun _ _ _ h => h) (Or.inl ⟨by kernel_rfl, ?_⟩) (by assumption) ?_; rotate_left; focus (intro V9 hS9; obtain ⟨g0, g1, g2, g3, g4, g5, g6, g7, u0, u1, u2, u3, u4, u5, u6⟩ := HSC.out V9 hS9; go_simp; (try (with_reducible rfl)); done))
  try simp only [Act.put, List.getElem_toArray, List.getElem_cons_succ, List.getElem_cons_zero, List.setIfInBounds_toArray, List.set_cons_succ, List.set_cons_zero]
  (refine wpAnyW_take (i := 10) (v := ?_) rfl (by kernel_rfl) (by kernel_rfl) (by kernel_rfl) (by kernel_rfl) (fun _ _ _ h => h) (Or.inl ⟨by kernel_rfl, ?_⟩) (by assumption) ?_; rotate_left; focus (intro V9 hS9; obtain ⟨g0, g1, g2, g3, g4, g5, g6, g7, u0, u1, u2, u3, u4, u5, u6⟩ := HSC.out V9 hS9; go_simp; (try (with_reducible rfl)); done))
  try simp only [Act.put, List.getElem_toArray, List.getElem_cons_succ, List.getElem_cons_zero, List.setIfInBounds_toArray, List.set_cons_succ, List.set_cons_zero]
  (refine wpAnyW_take (i := 11) (v := ?_) rfl (by kernel_rfl) (by kernel_rfl) (by kernel_rfl) (by kernel_rfl) (fun _ _ _ h => h) (Or.inl ⟨by kernel_rfl, ?_⟩) (by assumption) ?_; rotate_left; focus (intro V9 hS9; obtain ⟨g0, g1, g2, g3, g4, g5, g6, g7, u0, u1, u2, u3, u4, u5, u6⟩ := HSC.out V9 hS9; go_simp; (try (with_reducible rfl)); done))
  try simp only [Act.put, List.getElem_toArray, List.getElem_cons_succ, List.getElem_cons_zero, List.setIfInBounds_toArray, List.set_cons_succ, List.set_cons_zero]
  refine wpAnyW_ready (rs := [7]) (by kernel_rfl) (by simp) ?_
  refine AllReadyW.cons rfl (fun K hK => ?_) AllReadyW.nil
  go_simp
  refine (HE.out _ (H3.out.keep (Below.refl _ _).drew).ca).mono ?_
  rintro e V4 ⟨v4, rfl, hk4, hf4⟩
  obtain ⟨r4, rfl⟩ := hk4.sc.form
  refine hK.out _ _ ((Fr.refl (fun k => k = cb) V3).drew.same hf4) (fun _ => ?_)
  clear hK
  try simp only [Act.put, List.getElem_toArray, List.getElem_cons_succ, List.getElem_cons_zero, List.setIfInBounds_toArray, List.set_cons_succ, List.set_cons_zero]
  refine wpAnyW_ready (rs := [12]) (by kernel_rfl) (by simp) ?_
  refine AllReadyW.consE rfl (by kernel_rfl) (fun K hK => ?_) AllReadyW.nil
  go_simp
  refine (HP.out _ _ _ _ hk4).mono ?_
  rintro e V5 ⟨v5, rfl, hk5, hf5⟩
  obtain ⟨r5, rfl⟩ := hk5.sc.form
  refine hK.out _ _ ?_
  clear hK
  try simp only [Act.put, List.getElem_toArray, List.getElem_cons_succ, List.getElem_cons_zero, List.setIfInBounds_toArray, List.set_cons_succ, List.set_cons_zero]
  refine wpAnyW_ready (rs := [13]) (by kernel_rfl) (by simp) ?_
  refine AllReadyW.consE rfl (by kernel_rfl) (fun K hK => ?_) AllReadyW.nil
  go_simp
  refine hK.out _ _ ?_
  clear hK
  refine wpAnyW_done (by kernel_rfl) ?_ _
  go_wp2
  go_ret
  rw [HQ2.out]
  exact ⟨_, rfl, hk5, (H3.out.fr.same ((Fr.refl (fun k => k = cb) V3).drew.same hf4)).same hf5⟩
end
end Go.Proofs.Ythhindnjnijglaa
