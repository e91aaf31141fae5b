/- The contracts of the play of layer 6, in the words of both sides. -/
import Derived.Test.YtcnhfbckaacalaaJPB
import Derived.Test.YtcnhfbckaacalaaJHuge
namespace Go.Proofs.Ytcnhfbckaacalaa
open Go.RowKit
set_option linter.unusedVariables false
theorem huge_not {l : List ActV} {n : Nat} (hl : l.length = n) (h : hugeB l = false) : n ≤ 120 ∧ ∀ a ∈ l, a.p.length ≤ 20000 := by
  unfold hugeB at h
  rw [decide_eq_false_iff_not] at h
  refine ⟨by omega, fun a ha => ?_⟩
  obtain ⟨j, hj, rfl⟩ := List.getElem_of_mem ha
  have := sumP_mono l j hj
  omega
section
variable {w V V' : World} {pa : Nat} {cs : Array Value} {pj pk pd pr : Nat} {v : Value} {p : Pl} {q : RPl} {J : JV} {D : DS} {R : RS} {o : Option JV} {s s' : SP} {r r' : SR}
theorem Two.xblk (h : Two w pa cs s r V) {g t : Nat} {ks : Array Value} (hB : Blk V g t ks) (hO : Out pa s r g) (a : XAct s s' V V') : Blk V' g t ks ∧ Out pa s' r g := ⟨a.fr.blk hB hO.x, hO.xact a hB.lt⟩
theorem Two.yblk (h : Two w pa cs s r V) {g t : Nat} {ks : Array Value} (hB : Blk V g t ks) (hO : Out pa s r g) (a : YAct r r' V V') : Blk V' g t ks ∧ Out pa s r' g := ⟨a.fr.blk hB hO.y, hO.yact a hB.lt⟩
theorem alike_two {P K : Option Addr} (h : Two w pa cs ⟨o, pj, v, pd, p, D⟩ ⟨o, pk, pr, q, R⟩ V) (hS : Sim D R) (hP : (o.map fun _ => (⟨pj, 0, none⟩ : Addr)) = P) (hK : (o.map fun _ => (⟨pk, 0, none⟩ : Addr)) = K) : Calls Try.prog 37 #[.pointer (some ⟨pd, 0, none⟩), .pointer (some ⟨pr, 0, none⟩), .pointer P, .pointer K] V (Yes V) := by
  subst hP
  subst hK
  refine alike_any (SP.disk h.x) hS.dok (SR.ref h.y) hS ?_
  cases o with
  | none => exact .inl ⟨rfl, rfl⟩
  | some J =>
    obtain ⟨b0, hJ⟩ := h.x
    exact .inr ⟨b0, pj, v, J, pk, rfl, rfl, hJ, h.y⟩
theorem same_yes (A B : Option Addr) (n ca cb : Nat) (xs : List (List UInt8)) (W : World) (hla : xs.length = n) (hra : RdL W A xs) (hrb : RdT W B xs) (hn : n ≤ 67108864) :
    Calls Try.prog 21 #[.slice A n ca, .slice B n cb] W fun e w' => e = .returned (.bool true) ∧ ∃ q, w' = W.drewN q :=
  (same_any A B n ca n cb xs xs W hla hla hra hrb (by omega)).mono fun e w' ⟨he, hw⟩ => ⟨by rw [he]; simp, hw⟩
theorem cap588 (hj : JOk J D) (hs : D.size = 64) (hn : D.nb = 12) : J.left D + J.stream.length ≤ 588 ∧ J.len ≤ 12 := by
  have h1 := hj.area
  have h2 := hj.room
  rw [hs] at h2
  have h3 : J.left D = J.len * 49 - J.stream.length := by unfold JV.left; rw [hs]
  have h4 : J.len ≤ 12 := by omega
  refine ⟨?_, h4⟩
  rw [h3]
  omega
/-- What an act of both leaves. -/
structure Done (w : World) (pa : Nat) (cs : Array Value) (o : Option JV) (pj pd pk pr : Nat) (D : DS) (R : RS) (m : Nat) (v : Value) (p : Pl) (q : RPl) (V : World) : Prop where
  two : Two w pa cs ⟨o, pj, v, pd, p, D⟩ ⟨o, pk, pr, q, R⟩ V
  sim : Sim D R
  sz : D.size = 64
  nb : D.nb = 12
  lg : D.log.length ≤ m
theorem Done.keep {m : Nat} (h : Done w pa cs o pj pd pk pr D R m v p q V) (hb : Below V.heap.size V V') : Done w pa cs o pj pd pk pr D R m v p q V' := ⟨h.two.keep hb, h.sim, h.sz, h.nb, h.lg⟩
def PJ (J : JV) (pj : Nat) (v : Value) (pd : Nat) (p : Pl) (D : DS) (V : World) (x : Nat × JV × DS) (g : Ending) (w' : World) : Prop := g = .returned (.int .i64 (x.1 : Int)) ∧ ∃ v' p', XAct ⟨some J, pj, v, pd, p, D⟩ ⟨some x.2.1, pj, v', pd, p', x.2.2⟩ V w'
def QJ (J : JV) (pk pr : Nat) (q : RPl) (R : RS) (V : World) (x : Nat × JV × DS) (g : Ending) (w' : World) : Prop := g = .returned (.int .i64 (x.1 : Int)) ∧ ∃ R' q', YAct ⟨some J, pk, pr, q, R⟩ ⟨some x.2.1, pk, pr, q', R'⟩ V w' ∧ Sim x.2.2 R'
variable {m : Nat}
theorem Done.jok (h : Done w pa cs (some J) pj pd pk pr D R m v p q V) : JOk J D := by
  obtain ⟨b0, hJ⟩ := h.two.x
  exact hJ.jok
theorem p_app (h : Done w pa cs (some J) pj pd pk pr D R m v p q V) (l : List UInt8) (A : Option Addr) (n c : Nat) (hl : l.length = n) (hn : n ≤ 20000) (hr : Rd V A l) (hm : m ≤ 100000) :
    Calls Try.prog 17 #[.pointer (some ⟨pj, 0, none⟩), .slice A n c] V (PJ J pj v pd p D V (J.app D l)) := by
  have h1 := (cap588 h.jok h.sz h.nb).2
  have h2 := h.lg
  obtain ⟨b0, hJ⟩ := h.two.x
  exact (jappend_any hJ.anew l A n c hl (by omega) hr (by show D.log.length + J.len + 1 ≤ _; omega)).mono fun g w' a => p_jact hJ a
theorem p_flush (h : Done w pa cs (some J) pj pd pk pr D R m v p q V) (hm : m ≤ 100000) : Calls Try.prog 19 #[.pointer (some ⟨pj, 0, none⟩)] V (PJ J pj v pd p D V (J.flush D)) := by
  have h2 := h.lg
  obtain ⟨b0, hJ⟩ := h.two.x
  exact (jflush_any hJ.anew (by show D.log.length + 1 ≤ _; omega)).mono fun g w' a => p_jact hJ a
theorem p_begin (h : Done w pa cs (some J) pj pd pk pr D R m v p q V) (e : Int) : Calls Try.prog 25 #[.pointer (some ⟨pj, 0, none⟩), .int .i64 e] V (PJ J pj v pd p D V ((J.begin e).1, (J.begin e).2, D)) := by
  obtain ⟨b0, hJ⟩ := h.two.x
  exact (jbegin_any hJ.anew e).mono fun g w' a => p_jact hJ a
theorem q_app (hz : (⟨some J, pk, pr, q, R⟩ : SR).At V) (hS : Sim D R) (hj : JOk J D) (l : List UInt8) (hln : l.length ≤ 20000) (hlg : D.log.length ≤ 100000) (hl : J.len ≤ 12) :
    Calls Try.prog 30 #[.pointer (some ⟨pk, 0, none⟩), .string ⟨l.toArray⟩] V (QJ J pk pr q R V (J.app D l)) :=
  (rapp_any hz hS hj l (by omega) (by omega)).mono fun g w' ⟨he, R', q', a⟩ => ⟨he, R', q', r_jact a⟩
theorem q_flush (hz : (⟨some J, pk, pr, q, R⟩ : SR).At V) (hS : Sim D R) (hj : JOk J D) (hlg : D.log.length ≤ 100000) :
    Calls Try.prog 31 #[.pointer (some ⟨pk, 0, none⟩)] V (QJ J pk pr q R V (J.flush D)) :=
  (rflush_any hz hS hj (by omega)).mono fun g w' ⟨he, R', q', a⟩ => ⟨he, R', q', r_jact a⟩
theorem q_begin (hz : (⟨some J, pk, pr, q, R⟩ : SR).At V) (hS : Sim D R) (e : Int) : Calls Try.prog 36 #[.pointer (some ⟨pk, 0, none⟩), .int .i64 e] V (QJ J pk pr q R V ((J.begin e).1, (J.begin e).2, D)) :=
  (rbegin_any hz hS e).mono fun g w' ⟨he, a⟩ => ⟨he, R, q, r_jact a⟩
/-- Both have done it. -/
theorem done_both {x : Nat × JV × DS} {v' : Value} {p' : Pl} {R' : RS} {q' : RPl} {V1 V2 : World} {m' : Nat} (h : Done w pa cs (some J) pj pd pk pr D R m v p q V) (a : XAct ⟨some J, pj, v, pd, p, D⟩ ⟨some x.2.1, pj, v', pd, p', x.2.2⟩ V V1) (b : YAct ⟨some J, pk, pr, q, R⟩ ⟨some x.2.1, pk, pr, q', R'⟩ V1 V2) (hS : Sim x.2.2 R') (h1 : x.2.2.size = D.size) (h2 : x.2.2.nb = D.nb) (h3 : x.2.2.log.length ≤ m') : Done w pa cs (some x.2.1) pj pd pk pr x.2.2 R' m' v' p' q' V2 :=
  ⟨(h.two.xact a).yact b, hS, h1.trans h.sz, h2.trans h.nb, h3⟩
/-- Both are opened. -/
theorem done_open {fr ln ep : Int} {pj' pk' : Nat} {v' : Value} {V1 V2 : World} (h : Done w pa cs o pj pd pk pr D R m v p q V) (a1 : (⟨oj D fr ln ep, pj', v', pd, p, D⟩ : SP).At V1) (a2 : Below V.heap.size V V1) (a3 : ∀ k, (⟨oj D fr ln ep, pj', v', pd, p, D⟩ : SP).F k → p.F pd k ∨ V.heap.size ≤ k)
    (b1 : (⟨oj D fr ln ep, pk', pr, q, R⟩ : SR).At V2) (b2 : Below V1.heap.size V1 V2) (b3 : ∀ k, (⟨oj D fr ln ep, pk', pr, q, R⟩ : SR).F k → q.F pr k ∨ V1.heap.size ≤ k) : Done w pa cs (oj D fr ln ep) pj' pd pk' pr D R m v' p q V2 := by
  have a : XAct ⟨o, pj, v, pd, p, D⟩ ⟨oj D fr ln ep, pj', v', pd, p, D⟩ V V1 := ⟨a1, Fr.of_below a2 _, fun k hk => by
    rcases a3 k hk with h9 | h9
    · exact .inl (SP.sub ⟨o, pj, v, pd, p, D⟩ h9)
    · exact .inr h9⟩
  have b : YAct ⟨o, pk, pr, q, R⟩ ⟨oj D fr ln ep, pk', pr, q, R⟩ V1 V2 := ⟨b1, Fr.of_below b2 _, fun k hk => by
    rcases b3 k hk with h9 | h9
    · exact .inl (SR.sub ⟨o, pk, pr, q, R⟩ h9)
    · exact .inr h9⟩
  exact ⟨(h.two.xact a).yact b, h.sim, h.sz, h.nb, h.lg⟩
/-- Both disks have done it. -/
theorem done_disk {p' : Pl} {q' : RPl} {D' : DS} {R' : RS} {V1 V2 : World} {m' : Nat} (h : Done w pa cs o pj pd pk pr D R m v p q V) (a : Acts V pd p D' V1 p') (b : RActs V1 pr q R' V2 q') (hS : Sim D' R') (h1 : D'.nb = D.nb) (h2 : D'.size = D.size) (h3 : D'.log.length ≤ m') : Done w pa cs o pj pd pk pr D' R' m' v p' q' V2 := by
  have a' := p_disk h.two.x a hS.dok h1 h2
  have t1 := h.two.xact a'
  exact ⟨t1.yact (r_disk t1.y hS b), hS, h2.trans h.sz, h1.trans h.nb, h3⟩
/-- Between the program's disk act and the document's. -/
theorem mid_disk {p' : Pl} {D' : DS} {V1 : World} (h : Done w pa cs o pj pd pk pr D R m v p q V) (a : Acts V pd p D' V1 p') : RefAt pr q R V1 ∧ ∀ {g t : Nat} {ks : Array Value}, Blk V g t ks → Out pa ⟨o, pj, v, pd, p, D⟩ ⟨o, pk, pr, q, R⟩ g → Blk V1 g t ks :=
  ⟨(SR.ref h.two.y).far a.fr (fun k hk e => h.two.ap k (SP.sub ⟨o, pj, v, pd, p, D⟩ e) (SR.sub ⟨o, pk, pr, q, R⟩ hk)), fun hB hO => a.fr.blk hB (fun e => hO.x (SP.sub ⟨o, pj, v, pd, p, D⟩ e))⟩
theorem cut_same (D : DS) (a : Int) : (D.cut a).nb = D.nb ∧ (D.cut a).size = D.size := by unfold DS.cut; split <;> exact ⟨rfl, rfl⟩
theorem write_same (D : DS) (n : Int) (l : List UInt8) : (D.write n l).2.nb = D.nb ∧ (D.write n l).2.size = D.size := by
  unfold DS.write
  repeat' split
  all_goals exact ⟨rfl, rfl⟩
theorem Done.more {m' : Nat} (h : Done w pa cs o pj pd pk pr D R m v p q V) (hm : m ≤ m') : Done w pa cs o pj pd pk pr D R m' v p q V := ⟨h.two, h.sim, h.sz, h.nb, Nat.le_trans h.lg hm⟩
end
end Go.Proofs.Ytcnhfbckaacalaa
