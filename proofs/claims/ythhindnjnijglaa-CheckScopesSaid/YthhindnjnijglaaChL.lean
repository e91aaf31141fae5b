/- Layer 12: the walk of the checker's expr. Written by chgenl.py. -/
import Derived.Test.YthhindnjnijglaaChK
import Derived.Deep.RegionHeld3
import Derived.BigQuiet
import Derived.Deep.QuietTactic
namespace Go.Proofs.Ythhindnjnijglaa
open Go.RowKit
set_option linter.unusedVariables false

theorem funC_take (z : Nat) (s : CS) : ∀ (l : List CD) (k : Nat) (h : k < l.length), funC z (l.take (k + 1)) s = funH z (l[k]).patterns.length (l[k]).at_ (funC z (l.take k) s)
  | x :: r, 0, _ => by simp [funC]
  | x :: r, k + 1, h => by
    simp only [List.take_succ_cons, funC, List.getElem_cons_succ]
    rw [funC_take z _ r k (by simpa using h)]
  | [], _, h => by simp at h
theorem mtcC_two (blt : List UInt8 → Nat → Int) (nm? : List UInt8 → Nat → Bool) (P : Nms) (s : CS) {l : List ND} (h : 2 ≤ l.length) : mtcC blt nm? P l s = patC (expC blt nm? P l[1] s).1 l[0] (expC blt nm? P l[1] s).2 := by
  match l, h with
  | x :: y :: z, _ => simp [mtcC, hdC]
section
variable {w0 : World} {cb mb : Nat} {nm? : List UInt8 → Nat → Bool} {K P : Nms} {v : Value} {sc : CS} {V V' : World}
/-- The node's box, the checker and the scope. -/
structure EB (w0 : World) (cb mb : Nat) (nm? : List UInt8 → Nat → Bool) (K P : Nms) (v : Value) (V : World) (cs : Array Value) (s : CS) (V' : World) : Prop where
  ca : CA w0 cb mb nm? K P v s V'
  box : Blk V' V.heap.size 26 cs
  fr : CFr cb V V'
  lt : cb < V.heap.size
theorem EB.keep {cs : Array Value} {s : CS} {V1 V2 : World} (h : EB w0 cb mb nm? K P v V cs s V1) (hb : Below V1.heap.size V1 V2) : EB w0 cb mb nm? K P v V cs s V2 := ⟨h.ca.keep hb, h.box.keep hb, h.fr.same (Fr.of_below hb _), h.lt⟩
theorem EB.act {cs : Array Value} {s s' : CS} {V1 V2 : World} (h : EB w0 cb mb nm? K P v V cs s V1) (hk : CK cb mb nm? s' V2) (hf : CFr cb V1 V2) : EB w0 cb mb nm? K P v V cs s' V2 := ⟨h.ca.act hk hf, hf.blk h.box (by have := h.lt; omega), h.fr.same hf, h.lt⟩
theorem EB.done {cs : Array Value} {s : CS} {V1 : World} (h : EB w0 cb mb nm? K P v V cs s V1) {q : Nms × CS} (hq : q = (P, s)) : REnd w0 cb mb nm? K V q (.returned v) V1 := by
  subst hq
  exact ⟨v, rfl, h.ca, h.fr⟩

set_option maxRecDepth 100000 in
set_option maxHeartbeats 4000000 in
theorem exp_err (h : CA w0 cb mb nm? K P v sc V) (hK : KK K) (k : Int) (n : Int) (s : List UInt8) (a : Int) (l : List ND) (A : Option Addr) (c : Nat) (m : List CD) (B : Option Addr) (d : Nat) (r : List ND) (C : Option Addr) (e9 : Nat) (hsK : s ∈ K) (he : sc.e ≠ 0)  {q : Nms × CS} (hq : q = (P, sc)) :
    Calls Try.prog 67 #[.pointer (some ⟨cb, 0, none⟩), v, .agg #[.int .i64 k, .int .i64 n, .string ⟨s.toArray⟩, .int .i64 a, .slice A l.length c, .slice B m.length d, .slice C r.length e9]] V (REnd w0 cb mb nm? K V q) := by
  have HH := Lib.hid h
  have HQ := Lib.hid hq
  have hsl := hK.txt s hsK
  have hlt0 := h.lt
  have d0 : (sc.e == 0) = false := by simpa using he
  have HSO : Hid (∀ V', CA w0 cb mb nm? K P v sc V' → Calls Try.prog 52 #[.pointer (some ⟨cb, 0, none⟩)] V' fun e w' => e = .returned (.bool false) ∧ Below V'.heap.size V' w') := fun V' h' => by rw [← d0]; exact sound_any h'.ck
  have HFA : Hid (∀ e a V', CA w0 cb mb nm? K P v sc V' → Calls Try.prog 27 #[.pointer (some ⟨cb, 0, none⟩), .int .i64 e, .int .i64 a] V' fun r w' => r = .returned (.tuple #[]) ∧ CK cb mb nm? (failC e a sc) w' ∧ CFr cb V' w') := fun e a V' h' => cfails_any h'.ck e a
  have HLK : Hid (∀ V', CA w0 cb mb nm? K P v sc V' → (Instr.lookup 43 v (.string ⟨s.toArray⟩) false).run Try.prog V' = .ok (.bool (decide (s ∈ P))) V') := fun V' h' => h'.sc.look (by unfold maxLen; omega)
  obtain ⟨len, hlen⟩ : ∃ len, l.length = len := ⟨_, rfl⟩
  obtain ⟨lem, hlem⟩ : ∃ lem, m.length = lem := ⟨_, rfl⟩
  obtain ⟨ler, hler⟩ : ∃ ler, r.length = ler := ⟨_, rfl⟩
  have HLN := Lib.hid hlen
  have HLM := Lib.hid hlem
  have HLR := Lib.hid hler
  obtain ⟨r0, rfl⟩ := h.sc.form
  rw [hlen, hlem, hler]
  clear h hq hlen hlem hler hsK he d0 hK
  go_enter Try.func67, Try.ntmps67
  go_upto_region 1 with (fail)
  refine wp_world (EB w0 cb mb nm? K P (.map r0) V #[.int .i64 k, .int .i64 n, .string ⟨s.toArray⟩, .int .i64 a, .slice A len c, .slice B lem d, .slice C ler e9] sc) ⟨HH.out.keep (below_alloc _ _), Blk.new _ _ _, Fr.alloc _ _ _, hlt0⟩ ?_
  clear HH
  intro V1 h1
  have H1 := Lib.hid h1
  clear h1

  go_wp2_with (go_at_call 52; refine (HSO.out _ H1.out.ca).mono ?_; rintro e V2 ⟨rfl, hb2⟩)
  go_ret
  exact (H1.out.keep hb2).done HQ.out
set_option maxRecDepth 100000 in
set_option maxHeartbeats 4000000 in
theorem exp_k3a (h : CA w0 cb mb nm? K P v sc V) (hK : KK K) (n : Int) (s : List UInt8) (a : Int) (l : List ND) (A : Option Addr) (c : Nat) (m : List CD) (B : Option Addr) (d : Nat) (r : List ND) (C : Option Addr) (e9 : Nat) (hsK : s ∈ K) (he : sc.e = 0) (hm : s ∈ P) {q : Nms × CS} (hq : q = (P, sc)) :
    Calls Try.prog 67 #[.pointer (some ⟨cb, 0, none⟩), v, .agg #[.int .i64 3, .int .i64 n, .string ⟨s.toArray⟩, .int .i64 a, .slice A l.length c, .slice B m.length d, .slice C r.length e9]] V (REnd w0 cb mb nm? K V q) := by
  have HH := Lib.hid h
  have HQ := Lib.hid hq
  have hsl := hK.txt s hsK
  have hlt0 := h.lt
  have d0 : (sc.e == 0) = true := by simpa using he
  have HSO : Hid (∀ V', CA w0 cb mb nm? K P v sc V' → Calls Try.prog 52 #[.pointer (some ⟨cb, 0, none⟩)] V' fun e w' => e = .returned (.bool true) ∧ Below V'.heap.size V' w') := fun V' h' => by rw [← d0]; exact sound_any h'.ck
  have HFA : Hid (∀ e a V', CA w0 cb mb nm? K P v sc V' → Calls Try.prog 27 #[.pointer (some ⟨cb, 0, none⟩), .int .i64 e, .int .i64 a] V' fun r w' => r = .returned (.tuple #[]) ∧ CK cb mb nm? (failC e a sc) w' ∧ CFr cb V' w') := fun e a V' h' => cfails_any h'.ck e a
  have HLK : Hid (∀ V', CA w0 cb mb nm? K P v sc V' → (Instr.lookup 43 v (.string ⟨s.toArray⟩) false).run Try.prog V' = .ok (.bool (decide (s ∈ P))) V') := fun V' h' => h'.sc.look (by unfold maxLen; omega)
  have hdm : decide (s ∈ P) = true := by simpa using hm
  obtain ⟨len, hlen⟩ : ∃ len, l.length = len := ⟨_, rfl⟩
  obtain ⟨lem, hlem⟩ : ∃ lem, m.length = lem := ⟨_, rfl⟩
  obtain ⟨ler, hler⟩ : ∃ ler, r.length = ler := ⟨_, rfl⟩
  have HLN := Lib.hid hlen
  have HLM := Lib.hid hlem
  have HLR := Lib.hid hler
  obtain ⟨r0, rfl⟩ := h.sc.form
  rw [hlen, hlem, hler]
  rw [hdm] at HLK
  clear hm hdm
  clear h hq hlen hlem hler hsK he d0 hK
  go_enter Try.func67, Try.ntmps67
  go_upto_region 1 with (fail)
  refine wp_world (EB w0 cb mb nm? K P (.map r0) V #[.int .i64 3, .int .i64 n, .string ⟨s.toArray⟩, .int .i64 a, .slice A len c, .slice B lem d, .slice C ler e9] sc) ⟨HH.out.keep (below_alloc _ _), Blk.new _ _ _, Fr.alloc _ _ _, hlt0⟩ ?_
  clear HH
  intro V1 h1
  have H1 := Lib.hid h1
  clear h1

  go_upto_region 3 with (go_at_call 52; refine (HSO.out _ H1.out.ca).mono ?_; rintro e V2 ⟨rfl, hb2⟩)
  refine wp_world (EB w0 cb mb nm? K P (.map r0) V #[.int .i64 3, .int .i64 n, .string ⟨s.toArray⟩, .int .i64 a, .slice A len c, .slice B lem d, .slice C ler e9] sc) (H1.out.keep hb2) ?_
  clear H1 hb2 HSO
  intro V3 h3
  have H3 := Lib.hid h3
  have c0 := h3.box.cell 0
  have c2 := h3.box.cell 2
  have c3 := h3.box.cell 3
  have c4 := h3.box.cell 4
  have c5 := h3.box.cell 5
  have c6 := h3.box.cell 6
  clear h3
  have hlk := HLK.out _ H3.out.ca
  go_wp2
  go_ret
  exact H3.out.done HQ.out
set_option maxRecDepth 100000 in
set_option maxHeartbeats 4000000 in
theorem exp_k3b (h : CA w0 cb mb nm? K P v sc V) (hK : KK K) (n : Int) (s : List UInt8) (a : Int) (l : List ND) (A : Option Addr) (c : Nat) (m : List CD) (B : Option Addr) (d : Nat) (r : List ND) (C : Option Addr) (e9 : Nat) (hsK : s ∈ K) (he : sc.e = 0) (hm : s ∉ P) {q : Nms × CS} (hq : q = (P, failC 124 a sc)) :
    Calls Try.prog 67 #[.pointer (some ⟨cb, 0, none⟩), v, .agg #[.int .i64 3, .int .i64 n, .string ⟨s.toArray⟩, .int .i64 a, .slice A l.length c, .slice B m.length d, .slice C r.length e9]] V (REnd w0 cb mb nm? K V q) := by
  have HH := Lib.hid h
  have HQ := Lib.hid hq
  have hsl := hK.txt s hsK
  have hlt0 := h.lt
  have d0 : (sc.e == 0) = true := by simpa using he
  have HSO : Hid (∀ V', CA w0 cb mb nm? K P v sc V' → Calls Try.prog 52 #[.pointer (some ⟨cb, 0, none⟩)] V' fun e w' => e = .returned (.bool true) ∧ Below V'.heap.size V' w') := fun V' h' => by rw [← d0]; exact sound_any h'.ck
  have HFA : Hid (∀ e a V', CA w0 cb mb nm? K P v sc V' → Calls Try.prog 27 #[.pointer (some ⟨cb, 0, none⟩), .int .i64 e, .int .i64 a] V' fun r w' => r = .returned (.tuple #[]) ∧ CK cb mb nm? (failC e a sc) w' ∧ CFr cb V' w') := fun e a V' h' => cfails_any h'.ck e a
  have HLK : Hid (∀ V', CA w0 cb mb nm? K P v sc V' → (Instr.lookup 43 v (.string ⟨s.toArray⟩) false).run Try.prog V' = .ok (.bool (decide (s ∈ P))) V') := fun V' h' => h'.sc.look (by unfold maxLen; omega)
  have hdm : decide (s ∈ P) = false := by simpa using hm
  obtain ⟨len, hlen⟩ : ∃ len, l.length = len := ⟨_, rfl⟩
  obtain ⟨lem, hlem⟩ : ∃ lem, m.length = lem := ⟨_, rfl⟩
  obtain ⟨ler, hler⟩ : ∃ ler, r.length = ler := ⟨_, rfl⟩
  have HLN := Lib.hid hlen
  have HLM := Lib.hid hlem
  have HLR := Lib.hid hler
  obtain ⟨r0, rfl⟩ := h.sc.form
  rw [hlen, hlem, hler]
  rw [hdm] at HLK
  clear hm hdm
  clear h hq hlen hlem hler hsK he d0 hK
  go_enter Try.func67, Try.ntmps67
  go_upto_region 1 with (fail)
  refine wp_world (EB w0 cb mb nm? K P (.map r0) V #[.int .i64 3, .int .i64 n, .string ⟨s.toArray⟩, .int .i64 a, .slice A len c, .slice B lem d, .slice C ler e9] sc) ⟨HH.out.keep (below_alloc _ _), Blk.new _ _ _, Fr.alloc _ _ _, hlt0⟩ ?_
  clear HH
  intro V1 h1
  have H1 := Lib.hid h1
  clear h1

  go_upto_region 3 with (go_at_call 52; refine (HSO.out _ H1.out.ca).mono ?_; rintro e V2 ⟨rfl, hb2⟩)
  refine wp_world (EB w0 cb mb nm? K P (.map r0) V #[.int .i64 3, .int .i64 n, .string ⟨s.toArray⟩, .int .i64 a, .slice A len c, .slice B lem d, .slice C ler e9] sc) (H1.out.keep hb2) ?_
  clear H1 hb2 HSO
  intro V3 h3
  have H3 := Lib.hid h3
  have c0 := h3.box.cell 0
  have c2 := h3.box.cell 2
  have c3 := h3.box.cell 3
  have c4 := h3.box.cell 4
  have c5 := h3.box.cell 5
  have c6 := h3.box.cell 6
  clear h3
  have hlk := HLK.out _ H3.out.ca
  go_wp2_with (go_at_call 27; refine (HFA.out _ _ _ H3.out.ca).mono ?_; rintro e V4 ⟨rfl, hk4, hf4⟩)
  go_ret
  exact (H3.out.act hk4 hf4).done HQ.out
set_option maxRecDepth 100000 in
set_option maxHeartbeats 4000000 in
theorem exp_k7a (h : CA w0 cb mb nm? K P v sc V) (hK : KK K) (n : Int) (s : List UInt8) (a : Int) (l : List ND) (A : Option Addr) (c : Nat) (m : List CD) (B : Option Addr) (d : Nat) (r : List ND) (C : Option Addr) (e9 : Nat) (hsK : s ∈ K) (he : sc.e = 0) (hRN : RdN NoB w0 A c l) (hnm : nm? s l.length = true) (hRo : ∀ (sc' : CS) (V' : World), CA w0 cb mb nm? K P v sc' V' → Calls Try.prog 55 #[.pointer (some ⟨cb, 0, none⟩), v, .slice A l.length c] V' (REnd w0 cb mb nm? K V' (rowC bltP nm? P l sc'))) {q : Nms × CS} (hq : q = rowC bltP nm? P l sc) :
    Calls Try.prog 67 #[.pointer (some ⟨cb, 0, none⟩), v, .agg #[.int .i64 7, .int .i64 n, .string ⟨s.toArray⟩, .int .i64 a, .slice A l.length c, .slice B m.length d, .slice C r.length e9]] V (REnd w0 cb mb nm? K V q) := by
  have HH := Lib.hid h
  have HQ := Lib.hid hq
  have hsl := hK.txt s hsK
  have hlt0 := h.lt
  have d0 : (sc.e == 0) = true := by simpa using he
  have HSO : Hid (∀ V', CA w0 cb mb nm? K P v sc V' → Calls Try.prog 52 #[.pointer (some ⟨cb, 0, none⟩)] V' fun e w' => e = .returned (.bool true) ∧ Below V'.heap.size V' w') := fun V' h' => by rw [← d0]; exact sound_any h'.ck
  have HFA : Hid (∀ e a V', CA w0 cb mb nm? K P v sc V' → Calls Try.prog 27 #[.pointer (some ⟨cb, 0, none⟩), .int .i64 e, .int .i64 a] V' fun r w' => r = .returned (.tuple #[]) ∧ CK cb mb nm? (failC e a sc) w' ∧ CFr cb V' w') := fun e a V' h' => cfails_any h'.ck e a
  have HLK : Hid (∀ V', CA w0 cb mb nm? K P v sc V' → (Instr.lookup 43 v (.string ⟨s.toArray⟩) false).run Try.prog V' = .ok (.bool (decide (s ∈ P))) V') := fun V' h' => h'.sc.look (by unfold maxLen; omega)
  have HRO := Lib.hid hRo
  have HRN := Lib.hid hRN
  obtain ⟨len, hlen⟩ : ∃ len, l.length = len := ⟨_, rfl⟩
  obtain ⟨lem, hlem⟩ : ∃ lem, m.length = lem := ⟨_, rfl⟩
  obtain ⟨ler, hler⟩ : ∃ ler, r.length = ler := ⟨_, rfl⟩
  have HLN := Lib.hid hlen
  have HLM := Lib.hid hlem
  have HLR := Lib.hid hler
  obtain ⟨r0, rfl⟩ := h.sc.form
  rw [hlen, hlem, hler]
  rw [hlen] at HRO
  clear hRo
  rw [hlen] at hnm
  clear hRN
  clear h hq hlen hlem hler hsK he d0 hK
  go_enter Try.func67, Try.ntmps67
  go_upto_region 1 with (fail)
  refine wp_world (EB w0 cb mb nm? K P (.map r0) V #[.int .i64 7, .int .i64 n, .string ⟨s.toArray⟩, .int .i64 a, .slice A len c, .slice B lem d, .slice C ler e9] sc) ⟨HH.out.keep (below_alloc _ _), Blk.new _ _ _, Fr.alloc _ _ _, hlt0⟩ ?_
  clear HH
  intro V1 h1
  have H1 := Lib.hid h1
  clear h1

  go_upto_region 3 with (go_at_call 52; refine (HSO.out _ H1.out.ca).mono ?_; rintro e V2 ⟨rfl, hb2⟩)
  refine wp_world (EB w0 cb mb nm? K P (.map r0) V #[.int .i64 7, .int .i64 n, .string ⟨s.toArray⟩, .int .i64 a, .slice A len c, .slice B lem d, .slice C ler e9] sc) (H1.out.keep hb2) ?_
  clear H1 hb2 HSO
  intro V3 h3
  have H3 := Lib.hid h3
  have c0 := h3.box.cell 0
  have c2 := h3.box.cell 2
  have c3 := h3.box.cell 3
  have c4 := h3.box.cell 4
  have c5 := h3.box.cell 5
  have c6 := h3.box.cell 6
  clear h3
  have hnl := H3.out.ca.ck.nms.look (s := s) (n := len) (by unfold maxLen; omega) (by have h9 := HRN.out.1; have h8 := HRN.out.2.1; have h7 := HLN.out; omega)
  have k0 := H3.out.ca.ck.obj.cell 0
  have HNM := Lib.hid hnm
  have hnq : ∀ q, (Instr.lookup 72 (.map (some mb)) (.agg #[.string ⟨s.toArray⟩, .int .i64 (len : Int)]) false).run Try.prog (V3.drewN q) = .ok (.bool true) (V3.drewN q) := fun q => by
    have hl := (H3.out.keep (below_drewN (Below.refl _ _) q)).ca.ck.nms.look (s := s) (n := len) (by unfold maxLen; omega) (by have h9 := HRN.out.1; have h8 := HRN.out.2.1; have h7 := HLN.out; omega)
    rw [hl]
    rw [show nm? s len = true from HNM.out]
  clear hnm hnl
  go_wp2
  go_quiet (fail)
  refine cex_world (fun V' => Below V3.heap.size V3 V') (below_drewN (Below.refl _ _) _) ?_
  intro V4 hb4
  have H4 := Lib.hid (H3.out.keep hb4)
  clear hb4 H3 c0 c2 c3 c4 c5 c6 hnq k0
  have c4 := H4.out.box.cell 4
  go_wp2_with (go_at_call 55; refine (HRO.out _ _ H4.out.ca).mono ?_; rintro e V6 ⟨v6, rfl, hk6, hf6⟩)
  go_ret
  rw [HQ.out]
  exact ⟨v6, rfl, hk6, H4.out.fr.same hf6⟩
set_option maxRecDepth 100000 in
set_option maxHeartbeats 4000000 in
theorem exp_k7b (h : CA w0 cb mb nm? K P v sc V) (hK : KK K) (n : Int) (s : List UInt8) (a : Int) (l : List ND) (A : Option Addr) (c : Nat) (m : List CD) (B : Option Addr) (d : Nat) (r : List ND) (C : Option Addr) (e9 : Nat) (hsK : s ∈ K) (he : sc.e = 0) (hRN : RdN NoB w0 A c l) (hnm : nm? s l.length = false) (hbl : bltP s l.length ≠ 0) (hRo : ∀ (sc' : CS) (V' : World), CA w0 cb mb nm? K P v sc' V' → Calls Try.prog 55 #[.pointer (some ⟨cb, 0, none⟩), v, .slice A l.length c] V' (REnd w0 cb mb nm? K V' (rowC bltP nm? P l sc'))) {q : Nms × CS} (hq : q = rowC bltP nm? P l sc) :
    Calls Try.prog 67 #[.pointer (some ⟨cb, 0, none⟩), v, .agg #[.int .i64 7, .int .i64 n, .string ⟨s.toArray⟩, .int .i64 a, .slice A l.length c, .slice B m.length d, .slice C r.length e9]] V (REnd w0 cb mb nm? K V q) := by
  have HH := Lib.hid h
  have HQ := Lib.hid hq
  have hsl := hK.txt s hsK
  have hlt0 := h.lt
  have d0 : (sc.e == 0) = true := by simpa using he
  have HSO : Hid (∀ V', CA w0 cb mb nm? K P v sc V' → Calls Try.prog 52 #[.pointer (some ⟨cb, 0, none⟩)] V' fun e w' => e = .returned (.bool true) ∧ Below V'.heap.size V' w') := fun V' h' => by rw [← d0]; exact sound_any h'.ck
  have HFA : Hid (∀ e a V', CA w0 cb mb nm? K P v sc V' → Calls Try.prog 27 #[.pointer (some ⟨cb, 0, none⟩), .int .i64 e, .int .i64 a] V' fun r w' => r = .returned (.tuple #[]) ∧ CK cb mb nm? (failC e a sc) w' ∧ CFr cb V' w') := fun e a V' h' => cfails_any h'.ck e a
  have HLK : Hid (∀ V', CA w0 cb mb nm? K P v sc V' → (Instr.lookup 43 v (.string ⟨s.toArray⟩) false).run Try.prog V' = .ok (.bool (decide (s ∈ P))) V') := fun V' h' => h'.sc.look (by unfold maxLen; omega)
  have HRO := Lib.hid hRo
  have HRN := Lib.hid hRN
  obtain ⟨bl, hb⟩ : ∃ bl, bltP s l.length = bl := ⟨_, rfl⟩
  have HBL : Hid (∀ V', Calls Try.prog 8 #[.string ⟨s.toArray⟩, .int .i64 (l.length : Int)] V' fun e w' => e = .returned (.int .i64 bl) ∧ Below V'.heap.size V' w') := fun V' => by rw [← hb]; exact blt_any s l.length V'
  rw [hb] at hbl
  have d1 : (bl == 0) = false := by simpa using hbl
  clear hb
  obtain ⟨len, hlen⟩ : ∃ len, l.length = len := ⟨_, rfl⟩
  obtain ⟨lem, hlem⟩ : ∃ lem, m.length = lem := ⟨_, rfl⟩
  obtain ⟨ler, hler⟩ : ∃ ler, r.length = ler := ⟨_, rfl⟩
  have HLN := Lib.hid hlen
  have HLM := Lib.hid hlem
  have HLR := Lib.hid hler
  obtain ⟨r0, rfl⟩ := h.sc.form
  rw [hlen, hlem, hler]
  rw [hlen] at HRO
  clear hRo
  rw [hlen] at hnm HBL
  clear hRN hbl
  clear h hq hlen hlem hler hsK he d0 hK
  go_enter Try.func67, Try.ntmps67
  go_upto_region 1 with (fail)
  refine wp_world (EB w0 cb mb nm? K P (.map r0) V #[.int .i64 7, .int .i64 n, .string ⟨s.toArray⟩, .int .i64 a, .slice A len c, .slice B lem d, .slice C ler e9] sc) ⟨HH.out.keep (below_alloc _ _), Blk.new _ _ _, Fr.alloc _ _ _, hlt0⟩ ?_
  clear HH
  intro V1 h1
  have H1 := Lib.hid h1
  clear h1

  go_upto_region 3 with (go_at_call 52; refine (HSO.out _ H1.out.ca).mono ?_; rintro e V2 ⟨rfl, hb2⟩)
  refine wp_world (EB w0 cb mb nm? K P (.map r0) V #[.int .i64 7, .int .i64 n, .string ⟨s.toArray⟩, .int .i64 a, .slice A len c, .slice B lem d, .slice C ler e9] sc) (H1.out.keep hb2) ?_
  clear H1 hb2 HSO
  intro V3 h3
  have H3 := Lib.hid h3
  have c0 := h3.box.cell 0
  have c2 := h3.box.cell 2
  have c3 := h3.box.cell 3
  have c4 := h3.box.cell 4
  have c5 := h3.box.cell 5
  have c6 := h3.box.cell 6
  clear h3
  have hnl := H3.out.ca.ck.nms.look (s := s) (n := len) (by unfold maxLen; omega) (by have h9 := HRN.out.1; have h8 := HRN.out.2.1; have h7 := HLN.out; omega)
  have k0 := H3.out.ca.ck.obj.cell 0
  have HNM := Lib.hid hnm
  rw [hnm] at hnl
  clear hnm
  have HS : Hid (∀ V', Below V3.heap.size V3 V' → (V'.cell? ⟨cb, 0, none⟩ = some (.map (some mb)) ∧ V'.cell? ⟨V.heap.size, 2, none⟩ = some (.string ⟨s.toArray⟩) ∧ V'.cell? ⟨V.heap.size, 4, none⟩ = some (.slice A len c) ∧ (Instr.lookup 72 (.map (some mb)) (.agg #[.string ⟨s.toArray⟩, .int .i64 (len : Int)]) false).run Try.prog V' = .ok (.bool false) V') ∧ Below V3.heap.size V3 V') := fun V' hb => by
    have hk := H3.out.keep hb
    have hl := hk.ca.ck.nms.look (s := s) (n := len) (by unfold maxLen; omega) (by have h9 := HRN.out.1; have h8 := HRN.out.2.1; have h7 := HLN.out; omega)
    refine ⟨⟨hk.ca.ck.obj.cell 0, hk.box.cell 2, hk.box.cell 4, ?_⟩, hb⟩
    rw [hl]
    rw [show nm? s len = false from HNM.out]
  clear hnl k0
  go_upto_region 11 with (fail)
  go_region_held3 (fun V' => (V'.cell? ⟨cb, 0, none⟩ = some (.map (some mb)) ∧ V'.cell? ⟨V.heap.size, 2, none⟩ = some (.string ⟨s.toArray⟩) ∧ V'.cell? ⟨V.heap.size, 4, none⟩ = some (.slice A len c) ∧ (Instr.lookup 72 (.map (some mb)) (.agg #[.string ⟨s.toArray⟩, .int .i64 (len : Int)]) false).run Try.prog V' = .ok (.bool false) V') ∧ Below V3.heap.size V3 V') (first | exact HS.out _ (Below.refl _ _).drew | exact HS.out _ (Below.refl _ _) | exact HS.out _ (below_step (And.right (by assumption)) hb7) | fail) ((first | (go_at_call 8; refine (HBL.out _).mono ?_; rintro e V7 ⟨rfl, hb7⟩) | fail))
  have H4 := Lib.hid (H3.out.keep (below_step (Below.refl _ _).drew hb7))
  clear HS H3 c0 c2 c3 c4 c5 c6
  have c4 := H4.out.box.cell 4
  go_wp2_with (go_at_call 55; refine (HRO.out _ _ H4.out.ca).mono ?_; rintro e V6 ⟨v6, rfl, hk6, hf6⟩)
  go_ret
  rw [HQ.out]
  exact ⟨v6, rfl, hk6, H4.out.fr.same hf6⟩
set_option maxRecDepth 100000 in
set_option maxHeartbeats 4000000 in
theorem exp_k7c (h : CA w0 cb mb nm? K P v sc V) (hK : KK K) (n : Int) (s : List UInt8) (a : Int) (l : List ND) (A : Option Addr) (c : Nat) (m : List CD) (B : Option Addr) (d : Nat) (r : List ND) (C : Option Addr) (e9 : Nat) (hsK : s ∈ K) (he : sc.e = 0) (hRN : RdN NoB w0 A c l) (hnm : nm? s l.length = false) (hbl : bltP s l.length = 0) (hRo : ∀ (sc' : CS) (V' : World), CA w0 cb mb nm? K P v sc' V' → Calls Try.prog 55 #[.pointer (some ⟨cb, 0, none⟩), v, .slice A l.length c] V' (REnd w0 cb mb nm? K V' (rowC bltP nm? P l sc'))) {q : Nms × CS} (hq : q = rowC bltP nm? P l (failC 125 a sc)) :
    Calls Try.prog 67 #[.pointer (some ⟨cb, 0, none⟩), v, .agg #[.int .i64 7, .int .i64 n, .string ⟨s.toArray⟩, .int .i64 a, .slice A l.length c, .slice B m.length d, .slice C r.length e9]] V (REnd w0 cb mb nm? K V q) := by
  have HH := Lib.hid h
  have HQ := Lib.hid hq
  have hsl := hK.txt s hsK
  have hlt0 := h.lt
  have d0 : (sc.e == 0) = true := by simpa using he
  have HSO : Hid (∀ V', CA w0 cb mb nm? K P v sc V' → Calls Try.prog 52 #[.pointer (some ⟨cb, 0, none⟩)] V' fun e w' => e = .returned (.bool true) ∧ Below V'.heap.size V' w') := fun V' h' => by rw [← d0]; exact sound_any h'.ck
  have HFA : Hid (∀ e a V', CA w0 cb mb nm? K P v sc V' → Calls Try.prog 27 #[.pointer (some ⟨cb, 0, none⟩), .int .i64 e, .int .i64 a] V' fun r w' => r = .returned (.tuple #[]) ∧ CK cb mb nm? (failC e a sc) w' ∧ CFr cb V' w') := fun e a V' h' => cfails_any h'.ck e a
  have HLK : Hid (∀ V', CA w0 cb mb nm? K P v sc V' → (Instr.lookup 43 v (.string ⟨s.toArray⟩) false).run Try.prog V' = .ok (.bool (decide (s ∈ P))) V') := fun V' h' => h'.sc.look (by unfold maxLen; omega)
  have HRO := Lib.hid hRo
  have HRN := Lib.hid hRN
  obtain ⟨bl, hb⟩ : ∃ bl, bltP s l.length = bl := ⟨_, rfl⟩
  have HBL : Hid (∀ V', Calls Try.prog 8 #[.string ⟨s.toArray⟩, .int .i64 (l.length : Int)] V' fun e w' => e = .returned (.int .i64 bl) ∧ Below V'.heap.size V' w') := fun V' => by rw [← hb]; exact blt_any s l.length V'
  rw [hb] at hbl
  have d1 : (bl == 0) = true := by simpa using hbl
  clear hb
  obtain ⟨len, hlen⟩ : ∃ len, l.length = len := ⟨_, rfl⟩
  obtain ⟨lem, hlem⟩ : ∃ lem, m.length = lem := ⟨_, rfl⟩
  obtain ⟨ler, hler⟩ : ∃ ler, r.length = ler := ⟨_, rfl⟩
  have HLN := Lib.hid hlen
  have HLM := Lib.hid hlem
  have HLR := Lib.hid hler
  obtain ⟨r0, rfl⟩ := h.sc.form
  rw [hlen, hlem, hler]
  rw [hlen] at HRO
  clear hRo
  rw [hlen] at hnm HBL
  clear hRN hbl
  clear h hq hlen hlem hler hsK he d0 hK
  go_enter Try.func67, Try.ntmps67
  go_upto_region 1 with (fail)
  refine wp_world (EB w0 cb mb nm? K P (.map r0) V #[.int .i64 7, .int .i64 n, .string ⟨s.toArray⟩, .int .i64 a, .slice A len c, .slice B lem d, .slice C ler e9] sc) ⟨HH.out.keep (below_alloc _ _), Blk.new _ _ _, Fr.alloc _ _ _, hlt0⟩ ?_
  clear HH
  intro V1 h1
  have H1 := Lib.hid h1
  clear h1

  go_upto_region 3 with (go_at_call 52; refine (HSO.out _ H1.out.ca).mono ?_; rintro e V2 ⟨rfl, hb2⟩)
  refine wp_world (EB w0 cb mb nm? K P (.map r0) V #[.int .i64 7, .int .i64 n, .string ⟨s.toArray⟩, .int .i64 a, .slice A len c, .slice B lem d, .slice C ler e9] sc) (H1.out.keep hb2) ?_
  clear H1 hb2 HSO
  intro V3 h3
  have H3 := Lib.hid h3
  have c0 := h3.box.cell 0
  have c2 := h3.box.cell 2
  have c3 := h3.box.cell 3
  have c4 := h3.box.cell 4
  have c5 := h3.box.cell 5
  have c6 := h3.box.cell 6
  clear h3
  have hnl := H3.out.ca.ck.nms.look (s := s) (n := len) (by unfold maxLen; omega) (by have h9 := HRN.out.1; have h8 := HRN.out.2.1; have h7 := HLN.out; omega)
  have k0 := H3.out.ca.ck.obj.cell 0
  have HNM := Lib.hid hnm
  rw [hnm] at hnl
  clear hnm
  have HS : Hid (∀ V', Below V3.heap.size V3 V' → (V'.cell? ⟨cb, 0, none⟩ = some (.map (some mb)) ∧ V'.cell? ⟨V.heap.size, 2, none⟩ = some (.string ⟨s.toArray⟩) ∧ V'.cell? ⟨V.heap.size, 4, none⟩ = some (.slice A len c) ∧ (Instr.lookup 72 (.map (some mb)) (.agg #[.string ⟨s.toArray⟩, .int .i64 (len : Int)]) false).run Try.prog V' = .ok (.bool false) V') ∧ Below V3.heap.size V3 V') := fun V' hb => by
    have hk := H3.out.keep hb
    have hl := hk.ca.ck.nms.look (s := s) (n := len) (by unfold maxLen; omega) (by have h9 := HRN.out.1; have h8 := HRN.out.2.1; have h7 := HLN.out; omega)
    refine ⟨⟨hk.ca.ck.obj.cell 0, hk.box.cell 2, hk.box.cell 4, ?_⟩, hb⟩
    rw [hl]
    rw [show nm? s len = false from HNM.out]
  clear hnl k0
  go_upto_region 11 with (fail)
  go_region_held3 (fun V' => (V'.cell? ⟨cb, 0, none⟩ = some (.map (some mb)) ∧ V'.cell? ⟨V.heap.size, 2, none⟩ = some (.string ⟨s.toArray⟩) ∧ V'.cell? ⟨V.heap.size, 4, none⟩ = some (.slice A len c) ∧ (Instr.lookup 72 (.map (some mb)) (.agg #[.string ⟨s.toArray⟩, .int .i64 (len : Int)]) false).run Try.prog V' = .ok (.bool false) V') ∧ Below V3.heap.size V3 V') (first | exact HS.out _ (Below.refl _ _).drew | exact HS.out _ (Below.refl _ _) | exact HS.out _ (below_step (And.right (by assumption)) hb7) | fail) ((first | (go_at_call 8; refine (HBL.out _).mono ?_; rintro e V7 ⟨rfl, hb7⟩) | fail))
  have H4 := Lib.hid (H3.out.keep (below_step (Below.refl _ _).drew hb7))
  clear HS H3 c0 c2 c3 c4 c5 c6
  have c3 := H4.out.box.cell 3
  go_wp2_with (first
    | (go_at_call 27; refine (HFA.out _ _ _ H4.out.ca).mono ?_; rintro e V8 ⟨rfl, hk8, hf8⟩; have H5 := Lib.hid (H4.out.act hk8 hf8); have c4 := H5.out.box.cell 4)
    | (go_at_call 55; refine (HRO.out _ _ H5.out.ca).mono ?_; rintro e V6 ⟨v6, rfl, hk6, hf6⟩))
  go_ret
  rw [HQ.out]
  exact ⟨v6, rfl, hk6, H5.out.fr.same hf6⟩
end
end Go.Proofs.Ythhindnjnijglaa
