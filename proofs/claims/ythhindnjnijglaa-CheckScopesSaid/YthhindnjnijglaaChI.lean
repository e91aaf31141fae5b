/- Layer 12: the walk of the checker's pattern. Written by chgeni.py. -/
import Derived.Test.YthhindnjnijglaaChH
import Derived.Test.YthhindnjnijglaaChW
namespace Go.Proofs.Ythhindnjnijglaa
open Go.RowKit
set_option linter.unusedVariables false

abbrev NoB : Nat → Prop := fun _ => False
theorem rdn_item {S : Nat → Prop} {W : World} {A : Option Addr} {c : Nat} {l : List ND} (h : RdN S W A c l) {k : Nat} (hk : k < l.length) : ∃ b o, ∃ x : EN, A = some ⟨b, o, none⟩ ∧ x.t = l[k] ∧ x.Ok S W ∧ W.cell? ⟨b, o + k * 7, none⟩ = some (.int .i64 x.t.kind) ∧ W.cell? ⟨b, o + k * 7 + 1, none⟩ = some (.int .i64 x.t.int) ∧ W.cell? ⟨b, o + k * 7 + 2, none⟩ = some (.string ⟨x.t.name.toArray⟩) ∧ W.cell? ⟨b, o + k * 7 + 3, none⟩ = some (.int .i64 x.t.at_) ∧ W.cell? ⟨b, o + k * 7 + 4, none⟩ = some (.slice x.A x.t.kids.length x.c) ∧ W.cell? ⟨b, o + k * 7 + 5, none⟩ = some (.slice x.B x.t.clauses.length x.d) ∧ W.cell? ⟨b, o + k * 7 + 6, none⟩ = some (.slice x.C x.t.body.length x.e) := by
  rcases h.2.2 with rfl | ⟨b, o, hA, _, hr⟩
  · simp at hk
  · obtain ⟨xs, h1, h2, h3⟩ := (nd_row _ _ _).1 hr
    subst h1
    have hk' : k < xs.length := by simpa using hk
    have hc : ∀ i u, i < 7 → xs[k].cells[i]? = some u → W.cell? ⟨b, o + k * 7 + i, none⟩ = some u := fun i u hi hu => by
      rw [Nat.add_assoc]
      exact h3 _ u ((flat_at EN.cells_len xs k i hk' hi).trans hu)
    exact ⟨b, o, xs[k], hA, by simp, h2 _ (List.getElem_mem hk'), hc 0 _ (by omega) rfl, hc 1 _ (by omega) rfl, hc 2 _ (by omega) rfl, hc 3 _ (by omega) rfl, hc 4 _ (by omega) rfl, hc 5 _ (by omega) rfl, hc 6 _ (by omega) rfl⟩
theorem rdc_item {S : Nat → Prop} {W : World} {A : Option Addr} {c : Nat} {l : List CD} (h : RdC S W A c l) {k : Nat} (hk : k < l.length) : ∃ b o, ∃ x : EC, A = some ⟨b, o, none⟩ ∧ x.t = l[k] ∧ x.Ok S W ∧ W.cell? ⟨b, o + k * 5, none⟩ = some (.slice x.A x.t.patterns.length x.c) ∧ W.cell? ⟨b, o + k * 5 + 1, none⟩ = some (.slice x.B x.t.guards.length x.d) ∧ W.cell? ⟨b, o + k * 5 + 2, none⟩ = some (.slice x.C x.t.body.length x.e) ∧ W.cell? ⟨b, o + k * 5 + 3, none⟩ = some (.string ⟨x.t.name.toArray⟩) ∧ W.cell? ⟨b, o + k * 5 + 4, none⟩ = some (.int .i64 x.t.at_) := by
  rcases h.2.2 with rfl | ⟨b, o, hA, _, hr⟩
  · simp at hk
  · obtain ⟨xs, h1, h2, h3⟩ := (cd_row _ _ _).1 hr
    subst h1
    have hk' : k < xs.length := by simpa using hk
    have hc : ∀ i u, i < 5 → xs[k].cells[i]? = some u → W.cell? ⟨b, o + k * 5 + i, none⟩ = some u := fun i u hi hu => by
      rw [Nat.add_assoc]
      exact h3 _ u ((flat_at EC.cells_len xs k i hk' hi).trans hu)
    exact ⟨b, o, xs[k], hA, by simp, h2 _ (List.getElem_mem hk'), hc 0 _ (by omega) rfl, hc 1 _ (by omega) rfl, hc 2 _ (by omega) rfl, hc 3 _ (by omega) rfl, hc 4 _ (by omega) rfl⟩
/-- The names at hand. -/
structure KK (K : Nms) : Prop where
  len : K.length ≤ 20000
  txt : ∀ s ∈ K, s.length ≤ 20000
/-- The checker and a scope. -/
structure CA (w0 : World) (cb mb : Nat) (nm? : List UInt8 → Nat → Bool) (K : Nms) (P : Nms) (v : Value) (s : CS) (V : World) : Prop where
  ck : CK cb mb nm? s V
  sc : SC V v P
  sub : ∀ y ∈ P, y ∈ K
  bel : Below w0.heap.size w0 V
  lo : w0.heap.size ≤ cb
section
variable {w0 : World} {cb mb : Nat} {nm? : List UInt8 → Nat → Bool} {K P : Nms} {v : Value} {s s' sc : CS} {V V' : World}
theorem CA.keep (h : CA w0 cb mb nm? K P v s V) (hb : Below V.heap.size V V') : CA w0 cb mb nm? K P v s V' := ⟨h.ck.keep hb, h.sc.keep hb, h.sub, below_step h.bel hb, h.lo⟩
theorem CA.act (h : CA w0 cb mb nm? K P v s V) (hk : CK cb mb nm? s' V') (hf : CFr cb V V') : CA w0 cb mb nm? K P v s' V' := ⟨hk, h.sc.fr h.ck.obj hf, h.sub, h.bel.trans (hf.below h.bel.size (fun k hk => by have := h.lo; omega)), h.lo⟩
theorem CA.lt (h : CA w0 cb mb nm? K P v s V) : cb < V.heap.size := h.ck.obj.lt
theorem CA.plen (h : CA w0 cb mb nm? K P v s V) (hK : KK K) : P.length < maxLen := by
  have h1 := nodup_le h.sc.nd h.sub
  have h2 := hK.len
  unfold maxLen
  omega
theorem CA.old (h : CA w0 cb mb nm? K P v s V) {p : Addr} {u : Value} (hu : w0.cell? p = some u) : V.cell? p = some u := (h.bel.cell (World.block_lt_of_cell? w0 p hu)).trans hu
/-- How a walk ends that gives a scope. -/
def REnd (w0 : World) (cb mb : Nat) (nm? : List UInt8 → Nat → Bool) (K : Nms) (V : World) (q : Nms × CS) (e : Ending) (w' : World) : Prop :=
  ∃ v', e = .returned v' ∧ CA w0 cb mb nm? K q.1 v' q.2 w' ∧ CFr cb V w'
/-- .. nothing. -/
def VEnd (w0 : World) (cb mb : Nat) (nm? : List UInt8 → Nat → Bool) (K P : Nms) (v : Value) (V : World) (q : CS) (e : Ending) (w' : World) : Prop :=
  e = .returned (.tuple #[]) ∧ CA w0 cb mb nm? K P v q w' ∧ CFr cb V w'
theorem REnd.same (h : CA w0 cb mb nm? K P v s V) (hb : Below V.heap.size V V') {q : Nms × CS} (hq : q = (P, s)) : REnd w0 cb mb nm? K V q (.returned v) V' := by
  subst hq
  exact ⟨v, rfl, h.keep hb, Fr.of_below hb _⟩
theorem patCL_take (P : Nms) (s : CS) : ∀ (l : List ND) (k : Nat) (h : k < l.length), patCL P (l.take (k + 1)) s = patC (patCL P (l.take k) s).1 l[k] (patCL P (l.take k) s).2
  | t :: r, 0, _ => by simp [patCL]
  | t :: r, k + 1, h => by
    simp only [List.take_succ_cons, patCL, List.getElem_cons_succ]
    rw [patCL_take _ _ r k (by simpa using h)]
  | [], _, h => by simp at h

set_option maxRecDepth 100000 in
set_option maxHeartbeats 2000000 in
theorem pat_k1 (h : CA w0 cb mb nm? K P v sc V) (n : Int) (s : List UInt8) (a : Int) (l : List ND) (A : Option Addr) (c : Nat) (v5 v6 : Value) {q : Nms × CS} (hq : q = (P, sc)) : Calls Try.prog 53 #[.pointer (some ⟨cb, 0, none⟩), v, .agg #[.int .i64 1, .int .i64 n, .string ⟨s.toArray⟩, .int .i64 a, .slice A l.length c, v5, v6]] V (REnd w0 cb mb nm? K V q) := by
  have HF := Lib.hid (fun V' (hb : Below V.heap.size V V') => REnd.same h hb hq)
  obtain ⟨r0, rfl⟩ := h.sc.form
  clear h hq
  generalize l.length = len at *
  go_enter Try.func53, Try.ntmps53
  go_upto_region 2 with (fail)
  refine wp_world (fun V' => Blk V' V.heap.size 26 #[.int .i64 1, .int .i64 n, .string ⟨s.toArray⟩, .int .i64 a, .slice A len c, v5, v6] ∧ Below V.heap.size V V') ⟨Blk.new _ _ _, below_alloc _ _⟩ ?_
  rintro V1 ⟨hB, hb⟩
  have c0 := hB.cell 0
  have c2 := hB.cell 2
  have HB := Lib.hid hb
  clear hB hb
  go_wp2
  go_ret
  exact HF.out _ HB.out
set_option maxRecDepth 100000 in
set_option maxHeartbeats 2000000 in
theorem pat_k2 (h : CA w0 cb mb nm? K P v sc V) (n : Int) (s : List UInt8) (a : Int) (l : List ND) (A : Option Addr) (c : Nat) (v5 v6 : Value) {q : Nms × CS} (hq : q = (P, sc)) : Calls Try.prog 53 #[.pointer (some ⟨cb, 0, none⟩), v, .agg #[.int .i64 2, .int .i64 n, .string ⟨s.toArray⟩, .int .i64 a, .slice A l.length c, v5, v6]] V (REnd w0 cb mb nm? K V q) := by
  have HF := Lib.hid (fun V' (hb : Below V.heap.size V V') => REnd.same h hb hq)
  obtain ⟨r0, rfl⟩ := h.sc.form
  clear h hq
  generalize l.length = len at *
  go_enter Try.func53, Try.ntmps53
  go_upto_region 2 with (fail)
  refine wp_world (fun V' => Blk V' V.heap.size 26 #[.int .i64 2, .int .i64 n, .string ⟨s.toArray⟩, .int .i64 a, .slice A len c, v5, v6] ∧ Below V.heap.size V V') ⟨Blk.new _ _ _, below_alloc _ _⟩ ?_
  rintro V1 ⟨hB, hb⟩
  have c0 := hB.cell 0
  have c2 := hB.cell 2
  have HB := Lib.hid hb
  clear hB hb
  go_wp2
  go_ret
  exact HF.out _ HB.out
set_option maxRecDepth 100000 in
set_option maxHeartbeats 2000000 in
theorem pat_k5 (h : CA w0 cb mb nm? K P v sc V) (n : Int) (s : List UInt8) (a : Int) (l : List ND) (A : Option Addr) (c : Nat) (v5 v6 : Value) {q : Nms × CS} (hq : q = (P, sc)) : Calls Try.prog 53 #[.pointer (some ⟨cb, 0, none⟩), v, .agg #[.int .i64 5, .int .i64 n, .string ⟨s.toArray⟩, .int .i64 a, .slice A l.length c, v5, v6]] V (REnd w0 cb mb nm? K V q) := by
  have HF := Lib.hid (fun V' (hb : Below V.heap.size V V') => REnd.same h hb hq)
  obtain ⟨r0, rfl⟩ := h.sc.form
  clear h hq
  generalize l.length = len at *
  go_enter Try.func53, Try.ntmps53
  go_upto_region 2 with (fail)
  refine wp_world (fun V' => Blk V' V.heap.size 26 #[.int .i64 5, .int .i64 n, .string ⟨s.toArray⟩, .int .i64 a, .slice A len c, v5, v6] ∧ Below V.heap.size V V') ⟨Blk.new _ _ _, below_alloc _ _⟩ ?_
  rintro V1 ⟨hB, hb⟩
  have c0 := hB.cell 0
  have c2 := hB.cell 2
  have HB := Lib.hid hb
  clear hB hb
  go_wp2
  go_ret
  exact HF.out _ HB.out
set_option maxRecDepth 100000 in
set_option maxHeartbeats 2000000 in
theorem pat_k3a (h : CA w0 cb mb nm? K P v sc V) (n : Int) (s : List UInt8) (a : Int) (l : List ND) (A : Option Addr) (c : Nat) (v5 v6 : Value) (hs : s = [95]) {q : Nms × CS} (hq : q = (P, sc)) : Calls Try.prog 53 #[.pointer (some ⟨cb, 0, none⟩), v, .agg #[.int .i64 3, .int .i64 n, .string ⟨s.toArray⟩, .int .i64 a, .slice A l.length c, v5, v6]] V (REnd w0 cb mb nm? K V q) := by
  have HF := Lib.hid (fun V' (hb : Below V.heap.size V V') => REnd.same h hb hq)
  obtain ⟨r0, rfl⟩ := h.sc.form
  clear h hq
  subst hs
  generalize l.length = len at *
  go_enter Try.func53, Try.ntmps53
  go_upto_region 2 with (fail)
  refine wp_world (fun V' => Blk V' V.heap.size 26 #[.int .i64 3, .int .i64 n, .string ⟨([95] : List UInt8).toArray⟩, .int .i64 a, .slice A len c, v5, v6] ∧ Below V.heap.size V V') ⟨Blk.new _ _ _, below_alloc _ _⟩ ?_
  rintro V1 ⟨hB, hb⟩
  have c0 := hB.cell 0
  have c2 := hB.cell 2
  have HB := Lib.hid hb
  clear hB hb
  go_wp2
  go_ret
  exact HF.out _ HB.out
set_option maxRecDepth 100000 in
set_option maxHeartbeats 2000000 in
theorem pat_k3b (h : CA w0 cb mb nm? K P v sc V) (hK : KK K) (n : Int) (s : List UInt8) (a : Int) (l : List ND) (A : Option Addr) (c : Nat) (v5 v6 : Value) (hs : s ≠ [95]) (hsK : s ∈ K) {q : Nms × CS} (hq : q = (addN P s, sc)) : Calls Try.prog 53 #[.pointer (some ⟨cb, 0, none⟩), v, .agg #[.int .i64 3, .int .i64 n, .string ⟨s.toArray⟩, .int .i64 a, .slice A l.length c, v5, v6]] V (REnd w0 cb mb nm? K V q) := by
  have HH := Lib.hid h
  have HQ := Lib.hid hq
  have hsl := hK.txt s hsK
  have hne : (s == [95]) = false := by simpa using hs
  have HW : Hid (∀ V' g, Below V.heap.size V V' → Blk V' g 9 #[.string ⟨s.toArray⟩] → Calls Try.prog 66 #[v, .slice (some ⟨g, 0, none⟩) 1 1] V' fun e w' => ∃ v', e = .returned v' ∧ SC w' v' (addN P s) ∧ Below V'.heap.size V' w') := fun V' g hb hB => with_any (h.sc.keep hb) (hB.cell 0) (by unfold maxLen; omega) (h.plen hK)
  have HSUB : Hid (∀ y ∈ addN P s, y ∈ K) := fun y hy => (mem_addN.1 hy).elim (h.sub y) (fun e => by rw [e]; exact hsK)
  obtain ⟨r0, rfl⟩ := h.sc.form
  clear h hq hs hsK
  generalize l.length = len at *
  go_enter Try.func53, Try.ntmps53
  go_upto_region 2 with (fail)
  refine wp_world (fun V' => Blk V' V.heap.size 26 #[.int .i64 3, .int .i64 n, .string ⟨s.toArray⟩, .int .i64 a, .slice A len c, v5, v6] ∧ Below V.heap.size V V') ⟨Blk.new _ _ _, below_alloc _ _⟩ ?_
  rintro V1 ⟨hB, hb⟩
  have c0 := hB.cell 0
  have c2 := hB.cell 2
  have HB := Lib.hid hb
  clear hB hb
  go_wp2_with (go_at_call 66; refine (HW.out _ _ (below_step HB.out (below_alloc _ _)) (Blk.new _ _ _)).mono ?_; rintro e V3 ⟨v3, rfl, hs3, hb3⟩)
  go_ret
  have hbb := below_step (below_step HB.out (below_alloc _ _)) hb3
  rw [HQ.out]
  have hk := HH.out.keep hbb
  exact ⟨v3, rfl, ⟨hk.ck, hs3, HSUB.out, hk.bel, hk.lo⟩, Fr.of_below hbb _⟩
set_option maxRecDepth 100000 in
set_option maxHeartbeats 2000000 in
theorem pat_other (h : CA w0 cb mb nm? K P v sc V) (k : Int) (n : Int) (s : List UInt8) (a : Int) (l : List ND) (A : Option Addr) (c : Nat) (v5 v6 : Value) (h1 : k ≠ 1) (h2 : k ≠ 2) (h3 : k ≠ 3) (h5 : k ≠ 5) (h10 : k ≠ 10) (h4 : k ≠ 4) (h6 : k ≠ 6) {q : Nms × CS} (hq : q = (P, failC 123 a sc)) : Calls Try.prog 53 #[.pointer (some ⟨cb, 0, none⟩), v, .agg #[.int .i64 k, .int .i64 n, .string ⟨s.toArray⟩, .int .i64 a, .slice A l.length c, v5, v6]] V (REnd w0 cb mb nm? K V q) := by
  have HH := Lib.hid h
  have HQ := Lib.hid hq
  have HFA : Hid (∀ V', Below V.heap.size V V' → Calls Try.prog 27 #[.pointer (some ⟨cb, 0, none⟩), .int .i64 123, .int .i64 a] V' fun r w' => r = .returned (.tuple #[]) ∧ CK cb mb nm? (failC 123 a sc) w' ∧ CFr cb V' w') := fun V' hb => cfails_any (h.ck.keep hb) 123 a
  have d1 : (k == 1) = false := by simpa using h1
  have d2 : (k == 2) = false := by simpa using h2
  have d3 : (k == 3) = false := by simpa using h3
  have d4 : (k == 4) = false := by simpa using h4
  have d5 : (k == 5) = false := by simpa using h5
  have d6 : (k == 6) = false := by simpa using h6
  have d10 : (k == 10) = false := by simpa using h10
  obtain ⟨r0, rfl⟩ := h.sc.form
  clear h hq
  clear h1 h2 h3 h4 h5 h6 h10
  generalize l.length = len at *
  go_enter Try.func53, Try.ntmps53
  go_upto_region 2 with (fail)
  refine wp_world (fun V' => Blk V' V.heap.size 26 #[.int .i64 k, .int .i64 n, .string ⟨s.toArray⟩, .int .i64 a, .slice A len c, v5, v6] ∧ Below V.heap.size V V') ⟨Blk.new _ _ _, below_alloc _ _⟩ ?_
  rintro V1 ⟨hB, hb⟩
  have c0 := hB.cell 0
  have c2 := hB.cell 2
  have c3 := hB.cell 3
  have c4 := hB.cell 4
  have HB := Lib.hid hb
  clear hB hb
  go_wp2_with (go_at_call 27; refine (HFA.out _ HB.out).mono ?_; rintro e V3 ⟨rfl, hk3, hf3⟩)
  go_ret
  rw [HQ.out]
  exact ⟨_, rfl, (HH.out.keep HB.out).act hk3 hf3, (Fr.of_below HB.out _).same hf3⟩
set_option maxRecDepth 100000 in
set_option maxHeartbeats 2000000 in
theorem pat_k10a (h : CA w0 cb mb nm? K P v sc V) (n : Int) (s : List UInt8) (a : Int) (l : List ND) (A : Option Addr) (c : Nat) (v5 v6 : Value) (hs : (s == [45]) = false) {q : Nms × CS} (hq : q = (P, failC 123 a sc)) : Calls Try.prog 53 #[.pointer (some ⟨cb, 0, none⟩), v, .agg #[.int .i64 10, .int .i64 n, .string ⟨s.toArray⟩, .int .i64 a, .slice A l.length c, v5, v6]] V (REnd w0 cb mb nm? K V q) := by
  have HH := Lib.hid h
  have HQ := Lib.hid hq
  have HFA : Hid (∀ V', Below V.heap.size V V' → Calls Try.prog 27 #[.pointer (some ⟨cb, 0, none⟩), .int .i64 123, .int .i64 a] V' fun r w' => r = .returned (.tuple #[]) ∧ CK cb mb nm? (failC 123 a sc) w' ∧ CFr cb V' w') := fun V' hb => cfails_any (h.ck.keep hb) 123 a
  obtain ⟨r0, rfl⟩ := h.sc.form
  clear h hq
  generalize l.length = len at *
  go_enter Try.func53, Try.ntmps53
  go_upto_region 2 with (fail)
  refine wp_world (fun V' => Blk V' V.heap.size 26 #[.int .i64 10, .int .i64 n, .string ⟨s.toArray⟩, .int .i64 a, .slice A len c, v5, v6] ∧ Below V.heap.size V V') ⟨Blk.new _ _ _, below_alloc _ _⟩ ?_
  rintro V1 ⟨hB, hb⟩
  have c0 := hB.cell 0
  have c2 := hB.cell 2
  have c3 := hB.cell 3
  have c4 := hB.cell 4
  have HB := Lib.hid hb
  clear hB hb
  go_wp2_with (go_at_call 27; refine (HFA.out _ HB.out).mono ?_; rintro e V3 ⟨rfl, hk3, hf3⟩)
  go_ret
  rw [HQ.out]
  exact ⟨_, rfl, (HH.out.keep HB.out).act hk3 hf3, (Fr.of_below HB.out _).same hf3⟩
set_option maxRecDepth 100000 in
set_option maxHeartbeats 2000000 in
theorem pat_k10b (h : CA w0 cb mb nm? K P v sc V) (n : Int) (s : List UInt8) (a : Int) (l : List ND) (A : Option Addr) (c : Nat) (v5 v6 : Value) (hs : (s == [45]) = true) (b o kd : Nat) (z : Int) (hA : A = some ⟨b, o, none⟩) (e0 : V.cell? ⟨b, o, none⟩ = some (.int .i64 z)) (hz : (z == 1) = false) (hl : l ≠ []) (hc : l.length ≤ c) (hc2 : c ≤ 9223372036854775807) {q : Nms × CS} (hq : q = (P, failC 123 a sc)) : Calls Try.prog 53 #[.pointer (some ⟨cb, 0, none⟩), v, .agg #[.int .i64 10, .int .i64 n, .string ⟨s.toArray⟩, .int .i64 a, .slice A l.length c, v5, v6]] V (REnd w0 cb mb nm? K V q) := by
  have HH := Lib.hid h
  have HQ := Lib.hid hq
  have HFA : Hid (∀ V', Below V.heap.size V V' → Calls Try.prog 27 #[.pointer (some ⟨cb, 0, none⟩), .int .i64 123, .int .i64 a] V' fun r w' => r = .returned (.tuple #[]) ∧ CK cb mb nm? (failC 123 a sc) w' ∧ CFr cb V' w') := fun V' hb => cfails_any (h.ck.keep hb) 123 a
  subst hA
  have hlt := World.block_lt_of_cell? V _ e0
  have hl1 : 0 < l.length := by cases l; exact absurd rfl hl; simp
  obtain ⟨r0, rfl⟩ := h.sc.form
  clear h hq
  clear hl
  generalize l.length = len at *
  go_enter Try.func53, Try.ntmps53
  go_upto_region 2 with (fail)
  refine wp_world (fun V' => Blk V' V.heap.size 26 #[.int .i64 10, .int .i64 n, .string ⟨s.toArray⟩, .int .i64 a, .slice (some ⟨b, o, none⟩) len c, v5, v6] ∧ Below V.heap.size V V') ⟨Blk.new _ _ _, below_alloc _ _⟩ ?_
  rintro V1 ⟨hB, hb⟩
  have c0 := hB.cell 0
  have c2 := hB.cell 2
  have c3 := hB.cell 3
  have c4 := hB.cell 4
  have HB := Lib.hid hb
  have k0 := (hb.cell hlt).trans e0
  clear hB hb
  go_wp2_with (go_at_call 27; refine (HFA.out _ HB.out).mono ?_; rintro e V3 ⟨rfl, hk3, hf3⟩)
  go_ret
  rw [HQ.out]
  exact ⟨_, rfl, (HH.out.keep HB.out).act hk3 hf3, (Fr.of_below HB.out _).same hf3⟩
set_option maxRecDepth 100000 in
set_option maxHeartbeats 2000000 in
theorem pat_k10c (h : CA w0 cb mb nm? K P v sc V) (n : Int) (s : List UInt8) (a : Int) (l : List ND) (A : Option Addr) (c : Nat) (v5 v6 : Value) (hs : (s == [45]) = true) (b o : Nat) (z : Int) (hA : A = some ⟨b, o, none⟩) (e0 : V.cell? ⟨b, o, none⟩ = some (.int .i64 z)) (hz : (z == 1) = true) (hl : l ≠ []) (hc : l.length ≤ c) (hc2 : c ≤ 9223372036854775807) {q : Nms × CS} (hq : q = (P, sc)) : Calls Try.prog 53 #[.pointer (some ⟨cb, 0, none⟩), v, .agg #[.int .i64 10, .int .i64 n, .string ⟨s.toArray⟩, .int .i64 a, .slice A l.length c, v5, v6]] V (REnd w0 cb mb nm? K V q) := by
  have HF := Lib.hid (fun V' (hb : Below V.heap.size V V') => REnd.same h hb hq)
  subst hA
  have hlt := World.block_lt_of_cell? V _ e0
  have hl1 : 0 < l.length := by cases l; exact absurd rfl hl; simp
  obtain ⟨r0, rfl⟩ := h.sc.form
  clear h hq hl
  generalize l.length = len at *
  go_enter Try.func53, Try.ntmps53
  go_upto_region 2 with (fail)
  refine wp_world (fun V' => Blk V' V.heap.size 26 #[.int .i64 10, .int .i64 n, .string ⟨s.toArray⟩, .int .i64 a, .slice (some ⟨b, o, none⟩) len c, v5, v6] ∧ Below V.heap.size V V') ⟨Blk.new _ _ _, below_alloc _ _⟩ ?_
  rintro V1 ⟨hB, hb⟩
  have c0 := hB.cell 0
  have c2 := hB.cell 2
  have c4 := hB.cell 4
  have HB := Lib.hid hb
  have k0 := (hb.cell hlt).trans e0
  clear hB hb
  go_wp2
  go_ret
  exact HF.out _ HB.out
set_option maxRecDepth 100000 in
set_option maxHeartbeats 4000000 in
theorem pat_k4 (h : CA w0 cb mb nm? K P v sc V) (n : Int) (s : List UInt8) (a : Int) (l : List ND) (A : Option Addr) (c : Nat) (v5 v6 : Value) (hR : RdN NoB w0 A c l)
    (hI : ∀ (j : Nat) (hj : j < l.length) (x : EN) (P' : Nms) (v' : Value) (s' : CS) (V' : World), x.t = l[j] → x.Ok NoB w0 → CA w0 cb mb nm? K P' v' s' V' → Calls Try.prog 53 #[.pointer (some ⟨cb, 0, none⟩), v', .agg #[.int .i64 x.t.kind, .int .i64 x.t.int, .string ⟨x.t.name.toArray⟩, .int .i64 x.t.at_, .slice x.A x.t.kids.length x.c, .slice x.B x.t.clauses.length x.d, .slice x.C x.t.body.length x.e]] V' (REnd w0 cb mb nm? K V' (patC P' l[j] s')))
    {q : Nms × CS} (hq : q = patCL P l sc) : Calls Try.prog 53 #[.pointer (some ⟨cb, 0, none⟩), v, .agg #[.int .i64 4, .int .i64 n, .string ⟨s.toArray⟩, .int .i64 a, .slice A l.length c, v5, v6]] V (REnd w0 cb mb nm? K V q) := by
  have hlc := hR.1
  have hlc2 := hR.2.1
  have HH := Lib.hid h
  have HQ := Lib.hid hq
  have HR := Lib.hid hR
  have HI := Lib.hid hI
  obtain ⟨len, hlen⟩ : ∃ len, l.length = len := ⟨_, rfl⟩
  have HLN := Lib.hid hlen
  rw [hlen] at hlc ⊢
  obtain ⟨r0, rfl⟩ := h.sc.form
  clear h hq hR hI hlen
  go_enter Try.func53, Try.ntmps53
  go_upto_region 2 with (fail)
  refine wp_world (fun V' => Blk V' V.heap.size 26 #[.int .i64 4, .int .i64 n, .string ⟨s.toArray⟩, .int .i64 a, .slice A len c, v5, v6] ∧ Below V.heap.size V V') ⟨Blk.new _ _ _, below_alloc _ _⟩ ?_
  rintro V1 ⟨hB, hb⟩
  have c0 := hB.cell 0
  have c2 := hB.cell 2
  have c4 := hB.cell 4
  have HB := Lib.hid hb
  have HH1 := Lib.hid (HH.out.keep hb)
  clear hB hb HH
  go_upto_region 12 with (fail)
  clear c0 c2 c4
  go_loopw [1, 67] (fun w i wr => ∃ j : Nat, j ≤ len ∧ i = .int .i64 j ∧ Hid (CA w0 cb mb nm? K (patCL P (l.take j) sc).1 w (patCL P (l.take j) sc).2 wr) ∧ Hid (CFr cb V wr)) (fun _ i _ => len - (intOf i).toNat)
  case atStart => exact ⟨0, Nat.zero_le _, rfl, by unfold Hid; simpa [patCL] using HH1.out, Fr.of_below HB.out _⟩
  case round =>
    obtain ⟨j, hj, rfl, HC, HF⟩ := hrel
    clear HH1 HB
    by_cases hlt : j < len
    · have hd1 : decide (j < len) = true := by simpa using hlt
      have hkl : j < l.length := by rw [HLN.out]; exact hlt
      obtain ⟨b, o, x, rfl, hx, hok, e0, e1, e2, e3, e4, e5, e6⟩ := rdn_item HR.out hkl
      have HCL := Lib.hid (HI.out j hkl x _ _ _ _ hx hok (HC.out.keep (below_alloc wr (.cells #[.int .i64 x.t.kind, .int .i64 x.t.int, .string ⟨x.t.name.toArray⟩, .int .i64 x.t.at_, .slice x.A x.t.kids.length x.c, .slice x.B x.t.clauses.length x.d, .slice x.C x.t.body.length x.e] 26))))
      have HT := Lib.hid (patCL_take P sc l j hkl)
      replace e0 := HC.out.old e0
      replace e1 := HC.out.old e1
      replace e2 := HC.out.old e2
      replace e3 := HC.out.old e3
      replace e4 := HC.out.old e4
      replace e5 := HC.out.old e5
      replace e6 := HC.out.old e6
      have hq1 : (0 : Int) ≤ (j : Int) := by omega
      have hq2 : (j : Int) < (len : Int) := by omega
      clear hx hok
      go_wp2_with (go_at_call 53; refine HCL.out.mono ?_; rintro e V5 ⟨v5', rfl, hk5, hf5⟩)
      go_roundw
      case rel => exact ⟨j + 1, by omega, by go_num, by rw [HT.out]; exact hk5, (HF.out.same (Fr.alloc _ _ _)).same hf5⟩
      case measure => simp [intOf]; omega
    · obtain rfl : j = len := by omega
      have hd1 : decide (j < j) = false := by simp
      have HT : Hid (q = patCL P (l.take j) sc) := by rw [List.take_of_length_le (by rw [HLN.out]; exact Nat.le_refl _)]; exact HQ.out
      go_wp2
      go_ret
      rw [HT.out]
      exact ⟨_, rfl, HC.out, HF.out⟩
set_option maxRecDepth 100000 in
set_option maxHeartbeats 4000000 in
theorem pat_k6 (h : CA w0 cb mb nm? K P v sc V) (n : Int) (s : List UInt8) (a : Int) (l : List ND) (A : Option Addr) (c : Nat) (v5 v6 : Value) (hR : RdN NoB w0 A c l)
    (hI : ∀ (j : Nat) (hj : j < l.length) (x : EN) (P' : Nms) (v' : Value) (s' : CS) (V' : World), x.t = l[j] → x.Ok NoB w0 → CA w0 cb mb nm? K P' v' s' V' → Calls Try.prog 53 #[.pointer (some ⟨cb, 0, none⟩), v', .agg #[.int .i64 x.t.kind, .int .i64 x.t.int, .string ⟨x.t.name.toArray⟩, .int .i64 x.t.at_, .slice x.A x.t.kids.length x.c, .slice x.B x.t.clauses.length x.d, .slice x.C x.t.body.length x.e]] V' (REnd w0 cb mb nm? K V' (patC P' l[j] s')))
    {q : Nms × CS} (hq : q = patCL P l sc) : Calls Try.prog 53 #[.pointer (some ⟨cb, 0, none⟩), v, .agg #[.int .i64 6, .int .i64 n, .string ⟨s.toArray⟩, .int .i64 a, .slice A l.length c, v5, v6]] V (REnd w0 cb mb nm? K V q) := by
  have hlc := hR.1
  have hlc2 := hR.2.1
  have HH := Lib.hid h
  have HQ := Lib.hid hq
  have HR := Lib.hid hR
  have HI := Lib.hid hI
  obtain ⟨len, hlen⟩ : ∃ len, l.length = len := ⟨_, rfl⟩
  have HLN := Lib.hid hlen
  rw [hlen] at hlc ⊢
  obtain ⟨r0, rfl⟩ := h.sc.form
  clear h hq hR hI hlen
  go_enter Try.func53, Try.ntmps53
  go_upto_region 2 with (fail)
  refine wp_world (fun V' => Blk V' V.heap.size 26 #[.int .i64 6, .int .i64 n, .string ⟨s.toArray⟩, .int .i64 a, .slice A len c, v5, v6] ∧ Below V.heap.size V V') ⟨Blk.new _ _ _, below_alloc _ _⟩ ?_
  rintro V1 ⟨hB, hb⟩
  have c0 := hB.cell 0
  have c2 := hB.cell 2
  have c4 := hB.cell 4
  have HB := Lib.hid hb
  have HH1 := Lib.hid (HH.out.keep hb)
  clear hB hb HH
  go_upto_region 12 with (fail)
  clear c0 c2 c4
  go_loopw [1, 67] (fun w i wr => ∃ j : Nat, j ≤ len ∧ i = .int .i64 j ∧ Hid (CA w0 cb mb nm? K (patCL P (l.take j) sc).1 w (patCL P (l.take j) sc).2 wr) ∧ Hid (CFr cb V wr)) (fun _ i _ => len - (intOf i).toNat)
  case atStart => exact ⟨0, Nat.zero_le _, rfl, by unfold Hid; simpa [patCL] using HH1.out, Fr.of_below HB.out _⟩
  case round =>
    obtain ⟨j, hj, rfl, HC, HF⟩ := hrel
    clear HH1 HB
    by_cases hlt : j < len
    · have hd1 : decide (j < len) = true := by simpa using hlt
      have hkl : j < l.length := by rw [HLN.out]; exact hlt
      obtain ⟨b, o, x, rfl, hx, hok, e0, e1, e2, e3, e4, e5, e6⟩ := rdn_item HR.out hkl
      have HCL := Lib.hid (HI.out j hkl x _ _ _ _ hx hok (HC.out.keep (below_alloc wr (.cells #[.int .i64 x.t.kind, .int .i64 x.t.int, .string ⟨x.t.name.toArray⟩, .int .i64 x.t.at_, .slice x.A x.t.kids.length x.c, .slice x.B x.t.clauses.length x.d, .slice x.C x.t.body.length x.e] 26))))
      have HT := Lib.hid (patCL_take P sc l j hkl)
      replace e0 := HC.out.old e0
      replace e1 := HC.out.old e1
      replace e2 := HC.out.old e2
      replace e3 := HC.out.old e3
      replace e4 := HC.out.old e4
      replace e5 := HC.out.old e5
      replace e6 := HC.out.old e6
      have hq1 : (0 : Int) ≤ (j : Int) := by omega
      have hq2 : (j : Int) < (len : Int) := by omega
      clear hx hok
      go_wp2_with (go_at_call 53; refine HCL.out.mono ?_; rintro e V5 ⟨v5', rfl, hk5, hf5⟩)
      go_roundw
      case rel => exact ⟨j + 1, by omega, by go_num, by rw [HT.out]; exact hk5, (HF.out.same (Fr.alloc _ _ _)).same hf5⟩
      case measure => simp [intOf]; omega
    · obtain rfl : j = len := by omega
      have hd1 : decide (j < j) = false := by simp
      have HT : Hid (q = patCL P (l.take j) sc) := by rw [List.take_of_length_le (by rw [HLN.out]; exact Nat.le_refl _)]; exact HQ.out
      go_wp2
      go_ret
      rw [HT.out]
      exact ⟨_, rfl, HC.out, HF.out⟩
/-- pattern, at every node. -/
theorem cpat_any (hK : KK K) (N : Nat) : ∀ (x : EN) (P : Nms) (v : Value) (sc : CS) (V : World), x.t.sz ≤ N → x.Ok NoB w0 → x.t.wf → x.t.all (fun s => s ∈ K) → CA w0 cb mb nm? K P v sc V →
    Calls Try.prog 53 #[.pointer (some ⟨cb, 0, none⟩), v, .agg #[.int .i64 x.t.kind, .int .i64 x.t.int, .string ⟨x.t.name.toArray⟩, .int .i64 x.t.at_, .slice x.A x.t.kids.length x.c, .slice x.B x.t.clauses.length x.d, .slice x.C x.t.body.length x.e]] V (REnd w0 cb mb nm? K V (patC P x.t sc)) := by
  induction N with
  | zero => intro x P v sc V hN; have := x.t.sz_pos; omega
  | succ N ih =>
    rintro ⟨⟨k, n, s, a, l, m, r⟩, A, c, B, d, C, e⟩ P v sc V hN hok hwf hal h
    have hR : RdN NoB w0 A c l := hok.kids
    simp only [ND.sz] at hN
    simp only [ND.wf] at hwf
    simp only [ND.all] at hal
    have hI : ∀ (j : Nat) (hj : j < l.length) (x : EN) (P' : Nms) (v' : Value) (s' : CS) (V' : World), x.t = l[j] → x.Ok NoB w0 → CA w0 cb mb nm? K P' v' s' V' → Calls Try.prog 53 #[.pointer (some ⟨cb, 0, none⟩), v', .agg #[.int .i64 x.t.kind, .int .i64 x.t.int, .string ⟨x.t.name.toArray⟩, .int .i64 x.t.at_, .slice x.A x.t.kids.length x.c, .slice x.B x.t.clauses.length x.d, .slice x.C x.t.body.length x.e]] V' (REnd w0 cb mb nm? K V' (patC P' l[j] s')) := fun j hj x P' v' s' V' hx hxo hca => by
      rw [← hx]
      exact ih x P' v' s' V' (by rw [hx]; have h9 := ndsz_at l j hj; omega) hxo (by rw [hx]; exact ndwf_at hwf.2.2.1 hj) (by rw [hx]; exact ndall_at hal.2.1 hj) hca
    have hzero : l ≠ [] → ∃ b o z, A = some ⟨b, o, none⟩ ∧ V.cell? ⟨b, o, none⟩ = some (.int .i64 z) ∧ kidI l = (z == 1) := fun hl => by
      have h0 : 0 < l.length := by cases l; exact absurd rfl hl; simp
      obtain ⟨b, o, x, hA, hx, hxo, e0, _⟩ := rdn_item hR h0
      refine ⟨b, o, x.t.kind, hA, h.old (by simpa using e0), ?_⟩
      cases l with
      | nil => exact absurd rfl hl
      | cons y z => simp only [List.getElem_cons_zero] at hx; rw [hx]; rfl
    show Calls Try.prog 53 #[.pointer (some ⟨cb, 0, none⟩), v, .agg #[.int .i64 k, .int .i64 n, .string ⟨s.toArray⟩, .int .i64 a, .slice A l.length c, .slice B m.length d, .slice C r.length e]] V (REnd w0 cb mb nm? K V (patC P (ND.mk k n s a l m r) sc))
    simp only [patC]
    by_cases h3 : k = 3
    · subst h3
      by_cases hs : s = [95]
      · exact pat_k3a h n s a l A c _ _ hs (by simp [hs])
      · exact pat_k3b h hK n s a l A c _ _ hs hal.1 (by simp [hs])
    by_cases h1 : k = 1
    · subst h1; exact pat_k1 h n s a l A c _ _ (by simp)
    by_cases h2 : k = 2
    · subst h2; exact pat_k2 h n s a l A c _ _ (by simp)
    by_cases h5 : k = 5
    · subst h5; exact pat_k5 h n s a l A c _ _ (by simp)
    by_cases h10 : k = 10
    · subst h10
      have hl := hwf.1 rfl
      obtain ⟨b, o, z, hA, he, hz⟩ := hzero hl
      by_cases hs : s = [45]
      · by_cases hz1 : z = 1
        · exact pat_k10c h n s a l A c _ _ (by simpa using hs) b o z hA he (by simpa using hz1) hl hR.1 hR.2.1 (by simp [hs, hz, hz1])
        · exact pat_k10b h n s a l A c _ _ (by simpa using hs) b o 0 z hA he (by simpa using hz1) hl hR.1 hR.2.1 (by simp [hs, hz, hz1])
      · exact pat_k10a h n s a l A c _ _ (by simpa using hs) (by simp [hs])
    by_cases h4 : k = 4
    · subst h4; exact pat_k4 h n s a l A c _ _ hR hI (by simp)
    by_cases h6 : k = 6
    · subst h6; exact pat_k6 h n s a l A c _ _ hR hI (by simp)
    exact pat_other h k n s a l A c _ _ h1 h2 h3 h5 h10 h4 h6 (by simp [h1, h2, h3, h5, h10, h4, h6])
end
end Go.Proofs.Ythhindnjnijglaa
