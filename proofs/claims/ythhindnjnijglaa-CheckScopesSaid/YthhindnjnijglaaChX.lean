/- Layer 12: the variables that occur: the plain function, and the closure that keeps them. Layer 12: each and within, with Vars' closure. -/
import Derived.Test.YthhindnjnijglaaChU
namespace Go.Proofs.Ythhindnjnijglaa
section
open Go.RowKit Go.Maps Go.WideMaps
set_option linter.unusedVariables false

/-- One node's own name. -/
def vr1 (k : Int) (s : List UInt8) (P : Nms) : Nms := if k = 3 ∧ s ≠ [95] then addN P s else P
mutual
def vrN (P : Nms) : ND → Nms
  | .mk k _ s _ l m r => vrL (vrC (vrL (vr1 k s P) l) m) r
def vrL (P : Nms) : List ND → Nms
  | [] => P
  | t :: r => vrL (vrN P t) r
def vrD (P : Nms) : CD → Nms
  | .mk l g b _ _ => vrL (vrL (vrL P l) g) b
def vrC (P : Nms) : List CD → Nms
  | [] => P
  | t :: r => vrC (vrD P t) r
end
theorem mem_vr1 {k : Int} {s y : List UInt8} {P : Nms} : y ∈ vr1 k s P ↔ y ∈ P ∨ (y ≠ [95] ∧ k = 3 ∧ s = y) := by
  unfold vr1
  split
  · rename_i h
    rw [mem_addN]
    constructor
    · rintro (h1 | rfl)
      · exact .inl h1
      · exact .inr ⟨h.2, h.1, rfl⟩
    · rintro (h1 | ⟨_, _, h1⟩)
      · exact .inl h1
      · exact .inr h1.symm
  · rename_i h
    constructor
    · exact .inl
    · rintro (h1 | ⟨h1, h2, rfl⟩)
      · exact h1
      · exact absurd ⟨h2, h1⟩ h
mutual
theorem mem_vrN {y : List UInt8} : ∀ (t : ND) (P : Nms), y ∈ vrN P t ↔ y ∈ P ∨ (y ≠ [95] ∧ occN y t)
  | .mk k n s a l m r, P => by
    simp only [vrN, occN]
    rw [mem_vrL r, mem_vrC m, mem_vrL l, mem_vr1]
    grind
theorem mem_vrL {y : List UInt8} : ∀ (l : List ND) (P : Nms), y ∈ vrL P l ↔ y ∈ P ∨ (y ≠ [95] ∧ occL y l)
  | [], P => by simp [vrL, occL]
  | t :: r, P => by
    simp only [vrL, occL]
    rw [mem_vrL r, mem_vrN t]
    grind
theorem mem_vrD {y : List UInt8} : ∀ (t : CD) (P : Nms), y ∈ vrD P t ↔ y ∈ P ∨ (y ≠ [95] ∧ occC y t)
  | .mk l g b s a, P => by
    simp only [vrD, occC]
    rw [mem_vrL b, mem_vrL g, mem_vrL l]
    grind
theorem mem_vrC {y : List UInt8} : ∀ (l : List CD) (P : Nms), y ∈ vrC P l ↔ y ∈ P ∨ (y ≠ [95] ∧ occK y l)
  | [], P => by simp [vrC, occK]
  | t :: r, P => by
    simp only [vrC, occK]
    rw [mem_vrC r, mem_vrD t]
    grind
end
theorem vrL_take (P : Nms) : ∀ (l : List ND) (k : Nat) (h : k < l.length), vrL P (l.take (k + 1)) = vrN (vrL P (l.take k)) l[k]
  | t :: r, 0, _ => by simp [vrL]
  | t :: r, k + 1, h => by
    simp only [List.take_succ_cons, vrL, List.getElem_cons_succ]
    exact vrL_take _ r k (by simpa using h)
theorem vrC_take (P : Nms) : ∀ (l : List CD) (k : Nat) (h : k < l.length), vrC P (l.take (k + 1)) = vrD (vrC P (l.take k)) l[k]
  | t :: r, 0, _ => by simp [vrC]
  | t :: r, k + 1, h => by
    simp only [List.take_succ_cons, vrC, List.getElem_cons_succ]
    exact vrC_take _ r k (by simpa using h)

/-- The names so far, in memory. -/
structure VA (w0 : World) (vb mb : Nat) (K P : Nms) (V : World) : Prop where
  obj : Blk V vb 43 #[.map (some mb)]
  map : BMap V mb P
  sub : ∀ y ∈ P, y ∈ K
  bel : Below w0.heap.size w0 V
  lo : w0.heap.size ≤ mb
section
variable {w0 : World} {vb mb : Nat} {K P : Nms} {V V' : World}
theorem VA.keep (h : VA w0 vb mb K P V) (hb : Below V.heap.size V V') : VA w0 vb mb K P V' := ⟨h.obj.keep hb, h.map.keep hb, h.sub, below_step h.bel hb, h.lo⟩
theorem VA.old (h : VA w0 vb mb K P V) {p : Addr} {u : Value} (hv : w0.cell? p = some u) : V.cell? p = some u := (h.bel.cell (World.block_lt_of_cell? w0 p hv)).trans hv
set_option maxRecDepth 100000 in
set_option maxHeartbeats 2000000 in
theorem vars1_any (hK : KK K) (h : VA w0 vb mb K P V) (k n : Int) (s : List UInt8) (a : Int) (x4 x5 x6 : Value) (hs : s ∈ K) :
    Calls Try.prog 13 #[.agg #[.int .i64 k, .int .i64 n, .string ⟨s.toArray⟩, .int .i64 a, x4, x5, x6], .pointer (some ⟨vb, 0, none⟩)] V fun e w' => e = .returned (.tuple #[]) ∧ VA w0 vb mb K (vr1 k s P) w' ∧ Fr (fun k => k = mb) V w' := by
  have hsl := hK.txt s hs
  have hP : P.length < maxLen := by have := nodup_le h.map.nd h.sub; have := hK.len; unfold maxLen; omega
  have HH := Lib.hid h
  have hsm : s.length ≤ maxLen := by unfold maxLen; omega
  clear h
  by_cases hk : k = 3
  · subst hk
    by_cases hu : s = [95]
    · have HR : Hid (vr1 3 s P = P) := by unfold Hid vr1; rw [if_neg (by simp [hu])]
      rw [HR.out]
      clear HR
      subst hu
      go_enter Try.func13, Try.ntmps13
      go_upto_region 1 with (fail)
      refine wp_world (fun W => VA w0 vb mb K P W ∧ Blk W V.heap.size 26 #[.int .i64 3, .int .i64 n, .string ⟨#[95]⟩, .int .i64 a, x4, x5, x6] ∧ Fr (fun k => k = mb) V W) ⟨HH.out.keep (below_alloc _ _), Blk.new _ _ _, Fr.alloc _ _ _⟩ ?_
      rintro V1 ⟨h1, hx, hf1⟩
      have H1 := Lib.hid h1
      have HF := Lib.hid hf1
      have c0 := hx.cell 0
      have c2 := hx.cell 2
      clear h1 hx HH hf1
      go_wp2
      go_end0
      exact ⟨rfl, H1.out, HF.out⟩
    · have HR : Hid (vr1 3 s P = addN P s) := by unfold Hid vr1; rw [if_pos ⟨rfl, hu⟩]
      have hd : (s == [95]) = false := by simpa using hu
      rw [HR.out]
      clear HR
      go_enter Try.func13, Try.ntmps13
      go_upto_region 1 with (fail)
      refine wp_world (fun W => VA w0 vb mb K P W ∧ Blk W V.heap.size 26 #[.int .i64 3, .int .i64 n, .string ⟨s.toArray⟩, .int .i64 a, x4, x5, x6] ∧ Fr (fun k => k = mb) V W) ⟨HH.out.keep (below_alloc _ _), Blk.new _ _ _, Fr.alloc _ _ _⟩ ?_
      rintro V1 ⟨h1, hx, hf1⟩
      have H1 := Lib.hid h1
      have HF := Lib.hid hf1
      have c0 := hx.cell 0
      have c2 := hx.cell 2
      have c9 := h1.obj.cell 0
      obtain ⟨w9, hrun, hm9, hf9⟩ := h1.map.put hsm hP
      have HE : Hid (VA w0 vb mb K (addN P s) w9) := ⟨hf9.blk h1.obj (h1.map.blk h1.obj), hm9, fun y hy => by rcases mem_addN.1 hy with hy | rfl; exact h1.sub y hy; exact hs, h1.bel.trans (hf9.below h1.bel.size (fun k hk => by have := h1.lo; omega)), h1.lo⟩
      have HF9 := Lib.hid (HF.out.same hf9)
      clear h1 hx HH hf1 hm9 hf9 hu
      go_wp2
      go_end0
      exact ⟨rfl, HE.out, HF9.out⟩
  · have HR : Hid (vr1 k s P = P) := by unfold Hid vr1; rw [if_neg (by simp [hk])]
    have hd : decide (k = 3) = false := by simpa using hk
    have hd2 : (k == 3) = false := by simpa using hk
    rw [HR.out]
    clear HR hk
    go_enter Try.func13, Try.ntmps13
    go_upto_region 1 with (fail)
    refine wp_world (fun W => VA w0 vb mb K P W ∧ Blk W V.heap.size 26 #[.int .i64 k, .int .i64 n, .string ⟨s.toArray⟩, .int .i64 a, x4, x5, x6] ∧ Fr (fun k => k = mb) V W) ⟨HH.out.keep (below_alloc _ _), Blk.new _ _ _, Fr.alloc _ _ _⟩ ?_
    rintro V1 ⟨h1, hx, hf1⟩
    have H1 := Lib.hid h1
    have HF := Lib.hid hf1
    have c0 := hx.cell 0
    clear h1 hx HH hf1
    go_wp2
    go_end0
    exact ⟨rfl, H1.out, HF.out⟩
end
end
section
open Go.RowKit Go.Maps Go.WideMaps
set_option linter.unusedVariables false

abbrev FV (vb : Nat) : Value := .func (.func 13) #[] #[.pointer (some ⟨vb, 0, none⟩)]
theorem vrN_eq (P : Nms) (t : ND) : vrN P t = vrL (vrC (vrL (vr1 t.kind t.name P) t.kids) t.clauses) t.body := by cases t; rfl
theorem vrD_eq (P : Nms) (t : CD) : vrD P t = vrL (vrL (vrL P t.patterns) t.guards) t.body := by cases t; rfl
theorem ND.sz_eq (t : ND) : t.sz = ND.szL t.kids + CD.szL t.clauses + ND.szL t.body + 1 := by cases t; simp [ND.sz, ND.kids, ND.clauses, ND.body]
theorem CD.sz_eq (t : CD) : t.sz = ND.szL t.patterns + ND.szL t.guards + ND.szL t.body + 1 := by cases t; simp [CD.sz, CD.patterns, CD.guards, CD.body]
def EachOk (w0 : World) (vb mb : Nat) (K : Nms) (N : Nat) : Prop := ∀ (l : List ND) (A : Option Addr) (c : Nat) (P : Nms) (V : World), ND.szL l ≤ N → RdN NoB w0 A c l → ND.allL (fun s => s ∈ K) l → VA w0 vb mb K P V →
  Calls Try.prog 12 #[.slice A l.length c, FV vb] V fun e w' => e = .returned (.tuple #[]) ∧ VA w0 vb mb K (vrL P l) w' ∧ Fr (fun k => k = mb) V w'
def WithOk (w0 : World) (vb mb : Nat) (K : Nms) (N : Nat) : Prop := ∀ (m : List CD) (A : Option Addr) (c : Nat) (P : Nms) (V : World), CD.szL m ≤ N → RdC NoB w0 A c m → CD.allL (fun s => s ∈ K) m → VA w0 vb mb K P V →
  Calls Try.prog 22 #[.slice A m.length c, FV vb] V fun e w' => e = .returned (.tuple #[]) ∧ VA w0 vb mb K (vrC P m) w' ∧ Fr (fun k => k = mb) V w'
section
variable {w0 : World} {vb mb : Nat} {K : Nms}
set_option maxRecDepth 100000 in
set_option maxHeartbeats 4000000 in
theorem within_of {N : Nat} (hE : ∀ N', N' < N → EachOk w0 vb mb K N') : WithOk w0 vb mb K N := by
  intro m A c P V hN hR hal h
  have hlc := hR.1
  have hlc2 := hR.2.1
  have HH := Lib.hid h
  have HR := Lib.hid hR
  have HC : Hid (∀ (j : Nat) (hj : j < m.length) (x : EC), x.t = m[j] → x.Ok NoB w0 → (∀ P' V', VA w0 vb mb K P' V' → Calls Try.prog 12 #[.slice x.A x.t.patterns.length x.c, FV vb] V' fun e w' => e = .returned (.tuple #[]) ∧ VA w0 vb mb K (vrL P' x.t.patterns) w' ∧ Fr (fun k => k = mb) V' w') ∧ (∀ P' V', VA w0 vb mb K P' V' → Calls Try.prog 12 #[.slice x.B x.t.guards.length x.d, FV vb] V' fun e w' => e = .returned (.tuple #[]) ∧ VA w0 vb mb K (vrL P' x.t.guards) w' ∧ Fr (fun k => k = mb) V' w') ∧ (∀ P' V', VA w0 vb mb K P' V' → Calls Try.prog 12 #[.slice x.C x.t.body.length x.e, FV vb] V' fun e w' => e = .returned (.tuple #[]) ∧ VA w0 vb mb K (vrL P' x.t.body) w' ∧ Fr (fun k => k = mb) V' w')) := fun j hj x hx hok => by
    have h9 := cdsz_at m j hj
    have h8 := (CD.all_iff _).1 (cdall_at hal hj)
    rw [← hx] at h9 h8
    rw [CD.sz_eq] at h9
    exact ⟨fun P' V' h' => hE _ (by omega) _ _ _ _ _ (Nat.le_refl _) hok.patterns h8.2.1 h', fun P' V' h' => hE _ (by omega) _ _ _ _ _ (Nat.le_refl _) hok.guards h8.2.2.1 h', fun P' V' h' => hE _ (by omega) _ _ _ _ _ (Nat.le_refl _) hok.body h8.2.2.2 h'⟩
  obtain ⟨len, hlen⟩ : ∃ len, m.length = len := ⟨_, rfl⟩
  have HLN := Lib.hid hlen
  rw [hlen] at hlc ⊢
  clear h hR hlen hE hN hal
  go_enter Try.func22, Try.ntmps22
  go_upto_region 1 with (fail)
  go_loopw [8] (fun i wr => ∃ j : Nat, j ≤ len ∧ i = .int .i64 j ∧ Hid (VA w0 vb mb K (vrC P (m.take j)) wr) ∧ Hid (Fr (fun k => k = mb) V wr)) (fun i _ => len - (intOf i).toNat)
  case atStart => exact ⟨0, Nat.zero_le _, rfl, by unfold Hid; simpa [vrC] using HH.out, Fr.refl _ _⟩
  case round =>
    obtain ⟨j, hj, rfl, HQ, HF⟩ := hrel
    clear HH
    by_cases hlt : j < len
    · have hd1 : decide (j < len) = true := by simpa using hlt
      have hkl : j < m.length := by rw [HLN.out]; exact hlt
      obtain ⟨b, o, x, rfl, hx, hok, e0, e1, e2, e3, e4⟩ := rdc_item HR.out hkl
      obtain ⟨hp, hg, hb⟩ := HC.out j hkl x hx hok
      have HP := Lib.hid hp
      have HG := Lib.hid hg
      have HB := Lib.hid hb
      have ht := vrC_take P m j hkl
      rw [← hx, vrD_eq] at ht
      have HT := Lib.hid ht
      replace e0 := HQ.out.old e0
      replace e1 := HQ.out.old e1
      replace e2 := HQ.out.old e2
      replace e3 := HQ.out.old e3
      replace e4 := HQ.out.old e4
      have hq1 : (0 : Int) ≤ (j : Int) := by omega
      have hq2 : (j : Int) < (len : Int) := by omega
      clear hx hok hp hg hb ht
      go_upto_region 3 with (fail)
      obtain ⟨b5, hb5⟩ : ∃ b5, wr.heap.size = b5 := ⟨_, rfl⟩
      rw [hb5]
      have hbm : b5 ≠ mb := by have := HQ.out.map.lt; omega
      refine wp_world (fun W => VA w0 vb mb K (vrC P (m.take j)) W ∧ Blk W b5 67 #[.slice x.A x.t.patterns.length x.c, .slice x.B x.t.guards.length x.d, .slice x.C x.t.body.length x.e, .string ⟨x.t.name.toArray⟩, .int .i64 x.t.at_] ∧ Fr (fun k => k = mb) V W) ⟨HQ.out.keep (below_alloc _ _), by rw [← hb5]; exact Blk.new _ _ _, HF.out.same (Fr.alloc _ _ _)⟩ ?_
      clear HQ hb5 e0 e1 e2 e3 e4 HF
      rintro V1 ⟨h1, hx1, hf1⟩
      have H1 := Lib.hid h1
      have HX1 := Lib.hid hx1
      have HF1 := Lib.hid hf1
      have c0 := hx1.cell 0
      clear h1 hx1 hf1
      go_upto_region 4 with (go_at_call 12; with_reducible refine (HP.out _ _ H1.out).mono ?_; rintro e V2 ⟨rfl, hv2, hf2⟩)
      refine wp_world (fun W => VA w0 vb mb K (vrL (vrC P (m.take j)) x.t.patterns) W ∧ Blk W b5 67 #[.slice x.A x.t.patterns.length x.c, .slice x.B x.t.guards.length x.d, .slice x.C x.t.body.length x.e, .string ⟨x.t.name.toArray⟩, .int .i64 x.t.at_] ∧ Fr (fun k => k = mb) V W) ⟨hv2, hf2.blk HX1.out hbm, HF1.out.same hf2⟩ ?_
      clear H1 HX1 HF1 c0 hv2 hf2 HP
      rintro V2 ⟨h1, hx1, hf1⟩
      have H1 := Lib.hid h1
      have HX1 := Lib.hid hx1
      have HF1 := Lib.hid hf1
      have c1 := hx1.cell 1
      clear h1 hx1 hf1
      go_upto_region 5 with (go_at_call 12; with_reducible refine (HG.out _ _ H1.out).mono ?_; rintro e V3 ⟨rfl, hv2, hf2⟩)
      refine wp_world (fun W => VA w0 vb mb K (vrL (vrL (vrC P (m.take j)) x.t.patterns) x.t.guards) W ∧ Blk W b5 67 #[.slice x.A x.t.patterns.length x.c, .slice x.B x.t.guards.length x.d, .slice x.C x.t.body.length x.e, .string ⟨x.t.name.toArray⟩, .int .i64 x.t.at_] ∧ Fr (fun k => k = mb) V W) ⟨hv2, hf2.blk HX1.out hbm, HF1.out.same hf2⟩ ?_
      clear H1 HX1 HF1 c1 hv2 hf2 HG
      rintro V3 ⟨h1, hx1, hf1⟩
      have H1 := Lib.hid h1
      have HF1 := Lib.hid hf1
      have c2 := hx1.cell 2
      clear h1 hx1 hf1
      go_wp2_with (go_at_call 12; with_reducible refine (HB.out _ _ H1.out).mono ?_; rintro e V4 ⟨rfl, hv2, hf2⟩)
      go_roundw
      case rel => exact ⟨j + 1, by omega, by go_num, by rw [HT.out]; exact hv2, HF1.out.same hf2⟩
      case measure => simp [intOf]; omega
    · obtain rfl : j = len := by omega
      have hd1 : decide (j < j) = false := by simp
      have HT : Hid (vrC P m = vrC P (m.take j)) := by rw [List.take_of_length_le (by rw [HLN.out]; exact Nat.le_refl _)]; exact rfl
      go_wp2
      go_end0
      rw [HT.out]
      exact ⟨rfl, HQ.out, HF.out⟩
set_option maxRecDepth 100000 in
set_option maxHeartbeats 4000000 in
theorem each_of (hK : KK K) {N : Nat} (hE : ∀ N', N' < N → EachOk w0 vb mb K N') (hW : ∀ N', N' < N → WithOk w0 vb mb K N') : EachOk w0 vb mb K N := by
  intro l A c P V hN hR hal h
  have hlc := hR.1
  have hlc2 := hR.2.1
  have HH := Lib.hid h
  have HR := Lib.hid hR
  have HC : Hid (∀ (j : Nat) (hj : j < l.length) (x : EN), x.t = l[j] → x.Ok NoB w0 → (∀ P' V', VA w0 vb mb K P' V' → Calls Try.prog 13 #[.agg #[.int .i64 x.t.kind, .int .i64 x.t.int, .string ⟨x.t.name.toArray⟩, .int .i64 x.t.at_, .slice x.A x.t.kids.length x.c, .slice x.B x.t.clauses.length x.d, .slice x.C x.t.body.length x.e], .pointer (some ⟨vb, 0, none⟩)] V' fun e w' => e = .returned (.tuple #[]) ∧ VA w0 vb mb K (vr1 x.t.kind x.t.name P') w' ∧ Fr (fun k => k = mb) V' w') ∧ (∀ P' V', VA w0 vb mb K P' V' → Calls Try.prog 12 #[.slice x.A x.t.kids.length x.c, FV vb] V' fun e w' => e = .returned (.tuple #[]) ∧ VA w0 vb mb K (vrL P' x.t.kids) w' ∧ Fr (fun k => k = mb) V' w') ∧ (∀ P' V', VA w0 vb mb K P' V' → Calls Try.prog 22 #[.slice x.B x.t.clauses.length x.d, FV vb] V' fun e w' => e = .returned (.tuple #[]) ∧ VA w0 vb mb K (vrC P' x.t.clauses) w' ∧ Fr (fun k => k = mb) V' w') ∧ (∀ P' V', VA w0 vb mb K P' V' → Calls Try.prog 12 #[.slice x.C x.t.body.length x.e, FV vb] V' fun e w' => e = .returned (.tuple #[]) ∧ VA w0 vb mb K (vrL P' x.t.body) w' ∧ Fr (fun k => k = mb) V' w')) := fun j hj x hx hok => by
    have h9 := ndsz_at l j hj
    have h8 := (ND.all_iff _).1 (ndall_at hal hj)
    rw [← hx] at h9 h8
    rw [ND.sz_eq] at h9
    exact ⟨fun P' V' h' => vars1_any hK h' _ _ _ _ _ _ _ h8.1, fun P' V' h' => hE _ (by omega) _ _ _ _ _ (Nat.le_refl _) hok.kids h8.2.1 h', fun P' V' h' => hW _ (by omega) _ _ _ _ _ (Nat.le_refl _) hok.clauses h8.2.2.1 h', fun P' V' h' => hE _ (by omega) _ _ _ _ _ (Nat.le_refl _) hok.body h8.2.2.2 h'⟩
  obtain ⟨len, hlen⟩ : ∃ len, l.length = len := ⟨_, rfl⟩
  have HLN := Lib.hid hlen
  rw [hlen] at hlc ⊢
  clear h hR hlen hE hW hN hal hK
  go_enter Try.func12, Try.ntmps12
  go_upto_region 1 with (fail)
  go_loopw [8] (fun i wr => ∃ j : Nat, j ≤ len ∧ i = .int .i64 j ∧ Hid (VA w0 vb mb K (vrL P (l.take j)) wr) ∧ Hid (Fr (fun k => k = mb) V wr)) (fun i _ => len - (intOf i).toNat)
  case atStart => exact ⟨0, Nat.zero_le _, rfl, by unfold Hid; simpa [vrL] using HH.out, Fr.refl _ _⟩
  case round =>
    obtain ⟨j, hj, rfl, HQ, HF⟩ := hrel
    clear HH
    by_cases hlt : j < len
    · have hd1 : decide (j < len) = true := by simpa using hlt
      have hkl : j < l.length := by rw [HLN.out]; exact hlt
      obtain ⟨b, o, x, rfl, hx, hok, e0, e1, e2, e3, e4, e5, e6⟩ := rdn_item HR.out hkl
      obtain ⟨ho, hp, hg, hb⟩ := HC.out j hkl x hx hok
      have HO := Lib.hid ho
      have HP := Lib.hid hp
      have HG := Lib.hid hg
      have HB := Lib.hid hb
      have ht := vrL_take P l j hkl
      rw [← hx, vrN_eq] at ht
      have HT := Lib.hid ht
      replace e0 := HQ.out.old e0
      replace e1 := HQ.out.old e1
      replace e2 := HQ.out.old e2
      replace e3 := HQ.out.old e3
      replace e4 := HQ.out.old e4
      replace e5 := HQ.out.old e5
      replace e6 := HQ.out.old e6
      have hq1 : (0 : Int) ≤ (j : Int) := by omega
      have hq2 : (j : Int) < (len : Int) := by omega
      clear hx hok ho hp hg hb ht
      go_upto_region 3 with (fail)
      obtain ⟨b5, hb5⟩ : ∃ b5, wr.heap.size = b5 := ⟨_, rfl⟩
      rw [hb5]
      have hbm : b5 ≠ mb := by have := HQ.out.map.lt; omega
      refine wp_world (fun W => VA w0 vb mb K (vrL P (l.take j)) W ∧ Blk W b5 26 #[.int .i64 x.t.kind, .int .i64 x.t.int, .string ⟨x.t.name.toArray⟩, .int .i64 x.t.at_, .slice x.A x.t.kids.length x.c, .slice x.B x.t.clauses.length x.d, .slice x.C x.t.body.length x.e] ∧ Fr (fun k => k = mb) V W) ⟨HQ.out.keep (below_alloc _ _), by rw [← hb5]; exact Blk.new _ _ _, HF.out.same (Fr.alloc _ _ _)⟩ ?_
      clear HQ hb5 e0 e1 e2 e3 e4 e5 e6 HF
      rintro V1 ⟨h1, hx1, hf1⟩
      have H1 := Lib.hid h1
      have HX1 := Lib.hid hx1
      have HF1 := Lib.hid hf1
      have c0 := hx1.cell 0
      have c1 := hx1.cell 1
      have c2 := hx1.cell 2
      have c3 := hx1.cell 3
      have c4 := hx1.cell 4
      have c5 := hx1.cell 5
      have c6 := hx1.cell 6
      clear h1 hx1 hf1
      go_upto_region 4 with (go_at_call 13; with_reducible refine (HO.out _ _ H1.out).mono ?_; rintro e V2 ⟨rfl, hv2, hf2⟩)
      refine wp_world (fun W => VA w0 vb mb K (vr1 x.t.kind x.t.name (vrL P (l.take j))) W ∧ Blk W b5 26 #[.int .i64 x.t.kind, .int .i64 x.t.int, .string ⟨x.t.name.toArray⟩, .int .i64 x.t.at_, .slice x.A x.t.kids.length x.c, .slice x.B x.t.clauses.length x.d, .slice x.C x.t.body.length x.e] ∧ Fr (fun k => k = mb) V W) ⟨hv2, hf2.blk HX1.out hbm, HF1.out.same hf2⟩ ?_
      clear H1 HX1 HF1 c0 c1 c2 c3 c4 c5 c6 hv2 hf2 HO
      rintro V2 ⟨h1, hx1, hf1⟩
      have H1 := Lib.hid h1
      have HX1 := Lib.hid hx1
      have HF1 := Lib.hid hf1
      have c4 := hx1.cell 4
      clear h1 hx1 hf1
      go_upto_region 5 with (go_at_call 12; with_reducible refine (HP.out _ _ H1.out).mono ?_; rintro e V3 ⟨rfl, hv2, hf2⟩)
      refine wp_world (fun W => VA w0 vb mb K (vrL (vr1 x.t.kind x.t.name (vrL P (l.take j))) x.t.kids) W ∧ Blk W b5 26 #[.int .i64 x.t.kind, .int .i64 x.t.int, .string ⟨x.t.name.toArray⟩, .int .i64 x.t.at_, .slice x.A x.t.kids.length x.c, .slice x.B x.t.clauses.length x.d, .slice x.C x.t.body.length x.e] ∧ Fr (fun k => k = mb) V W) ⟨hv2, hf2.blk HX1.out hbm, HF1.out.same hf2⟩ ?_
      clear H1 HX1 HF1 c4 hv2 hf2 HP
      rintro V3 ⟨h1, hx1, hf1⟩
      have H1 := Lib.hid h1
      have HX1 := Lib.hid hx1
      have HF1 := Lib.hid hf1
      have c5 := hx1.cell 5
      clear h1 hx1 hf1
      go_upto_region 6 with (go_at_call 22; with_reducible refine (HG.out _ _ H1.out).mono ?_; rintro e V4 ⟨rfl, hv2, hf2⟩)
      refine wp_world (fun W => VA w0 vb mb K (vrC (vrL (vr1 x.t.kind x.t.name (vrL P (l.take j))) x.t.kids) x.t.clauses) W ∧ Blk W b5 26 #[.int .i64 x.t.kind, .int .i64 x.t.int, .string ⟨x.t.name.toArray⟩, .int .i64 x.t.at_, .slice x.A x.t.kids.length x.c, .slice x.B x.t.clauses.length x.d, .slice x.C x.t.body.length x.e] ∧ Fr (fun k => k = mb) V W) ⟨hv2, hf2.blk HX1.out hbm, HF1.out.same hf2⟩ ?_
      clear H1 HX1 HF1 c5 hv2 hf2 HG
      rintro V4 ⟨h1, hx1, hf1⟩
      have H1 := Lib.hid h1
      have HX1 := Lib.hid hx1
      have HF1 := Lib.hid hf1
      have c6 := hx1.cell 6
      clear h1 hx1 hf1
      go_wp2_with (go_at_call 12; with_reducible refine (HB.out _ _ H1.out).mono ?_; rintro e V5 ⟨rfl, hv2, hf2⟩)
      go_roundw
      case rel => exact ⟨j + 1, by omega, by go_num, by rw [HT.out]; exact hv2, HF1.out.same hf2⟩
      case measure => simp [intOf]; omega
    · obtain rfl : j = len := by omega
      have hd1 : decide (j < j) = false := by simp
      have HT : Hid (vrL P l = vrL P (l.take j)) := by rw [List.take_of_length_le (by rw [HLN.out]; exact Nat.le_refl _)]; exact rfl
      go_wp2
      go_end0
      rw [HT.out]
      exact ⟨rfl, HQ.out, HF.out⟩
theorem each_any (hK : KK K) (N : Nat) : EachOk w0 vb mb K N := by
  induction N using Nat.strongRecOn with
  | ind N ih => exact each_of hK ih fun N' hN => within_of fun N'' h'' => ih N'' (by omega)
end
end
end Go.Proofs.Ythhindnjnijglaa
