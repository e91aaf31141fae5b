/- Layer 13: the walk of the law MatchWider. Written by magenn.py. -/
import Derived.Test.YtmpknhdfglbocaaMaM
import Derived.Test.YtmpknhdfglbocaaMaL
namespace Go.Proofs.Ytmpknhdfglbocaa
open Go.RowKit
set_option linter.unusedVariables false

mutual
theorem var_all {Q : List UInt8 → Prop} {s : List UInt8} : ∀ p : ND, VarP s p → p.all Q → Q s
  | .mk k n nm a l m r, hv, ha => by
    simp only [VarP, ND.all] at hv ha
    by_cases h3 : k = 3
    · rw [if_pos h3] at hv; rw [← hv.1]; exact ha.1
    rw [if_neg h3] at hv
    by_cases h4 : k = 4
    · rw [if_pos h4] at hv; exact varL_all l hv ha.2.1
    rw [if_neg h4] at hv
    by_cases h6 : k = 6
    · rw [if_pos h6] at hv; exact varL_all l hv ha.2.1
    rw [if_neg h6] at hv
    exact hv.elim
theorem varL_all {Q : List UInt8 → Prop} {s : List UInt8} : ∀ l : List ND, VarL s l → ND.allL Q l → Q s
  | [], hv, _ => by simp only [VarL] at hv
  | p :: r, hv, ha => by
    simp only [VarL, ND.allL] at hv ha
    rcases hv with hv | hv
    · exact var_all p hv ha.1
    · exact varL_all r hv ha.2
end
theorem all_names {p : ND} {t : TV} {R : List BV} (h : allP [p] [t] [] = some R) {Q : List UInt8 → Prop} (hq : p.all Q) : ∀ b ∈ R, Q b.1 := by
  intro b hb
  rw [allP_one] at h
  split at h
  · split at h
    · cases h
      have hg := (getG_srt (risG_srt _)).2 (show (b.1, b.2) ∈ risG (matchP p t []).1 from hb)
      rw [getG_risG] at hg
      exact var_all p ((fit_names p t [] b.1 b.2 hg).resolve_left (by simp [getG])) hq
    · cases h
  · cases h
theorem rdm_pair {w0 V : World} {g : Nat} (t u : TE w0) (hb : Below w0.heap.size w0 V) (h : Blk V g 37 #[.int .i64 t.t.kind, .int .i64 t.t.int, .string ⟨t.t.name.toArray⟩, .slice t.A t.t.items.length t.c, .int .i64 u.t.kind, .int .i64 u.t.int, .string ⟨u.t.name.toArray⟩, .slice u.A u.t.items.length u.c]) : RdM V (some ⟨g, 0, none⟩) 2 [t.t, u.t] := by
  refine ⟨Nat.le_refl _, by omega, .inr ⟨g, 0, rfl, ?_⟩⟩
  simp only [TV.Row, and_true]
  exact ⟨(TV.at_iff _ _ _).2 ⟨h.cell 0, h.cell 1, h.cell 2, t.A, t.c, h.cell 3, t.ok.below hb⟩, (TV.at_iff _ _ _).2 ⟨h.cell 4, h.cell 5, h.cell 6, u.A, u.c, h.cell 7, u.ok.below hb⟩⟩
theorem rdb_one {V : World} {g : Nat} (q : BG (TE V)) (h : Blk V g 43 #[.string ⟨q.1.toArray⟩, .int .i64 q.2.t.kind, .int .i64 q.2.t.int, .string ⟨q.2.t.name.toArray⟩, .slice q.2.A q.2.t.items.length q.2.c]) : RdB V (some ⟨g, 0, none⟩) 1 [q] := by
  refine ⟨Nat.le_refl _, by omega, .inr ⟨g, 0, rfl, fun j u hu => ?_⟩⟩
  rw [Nat.zero_add, h.cell j]
  have : bL [q] = bc q := flat_one _ _
  rw [this] at hu
  exact (List.getElem?_toArray ..).trans hu
theorem blk_drew {W : World} {g t : Nat} {cs : Array Value} (h : Blk W g t cs) : Blk W.drew g t cs := (Fr.refl (fun _ => False) W).drew.blk h (fun h => h)
theorem check_ok {l : List TV} (h : checkP l = 0) : TV.isL l = true := by
  unfold checkP at h
  split at h
  · split at h
    · assumption
    · omega
  · omega

section
variable {W : World}
set_option maxRecDepth 100000 in
set_option maxHeartbeats 8000000 in
theorem matchWider_any (s : List UInt8) (t u : TE W) (hnt : t.t.named) (hnu : u.t.named) :
    Calls Try.prog 4 #[.string ⟨s.toArray⟩, .agg #[.int .i64 t.t.kind, .int .i64 t.t.int, .string ⟨t.t.name.toArray⟩, .slice t.A t.t.items.length t.c], .agg #[.int .i64 u.t.kind, .int .i64 u.t.int, .string ⟨u.t.name.toArray⟩, .slice u.A u.t.items.length u.c]] W fun e w' => e = .returned (.bool true) ∧ Below W.heap.size W w' := by
  have HLV := Lib.hid live_any
  have HCK : Hid (∀ V g, Below W.heap.size W V → Blk V g 37 #[.int .i64 t.t.kind, .int .i64 t.t.int, .string ⟨t.t.name.toArray⟩, .slice t.A t.t.items.length t.c, .int .i64 u.t.kind, .int .i64 u.t.int, .string ⟨u.t.name.toArray⟩, .slice u.A u.t.items.length u.c] → Calls Try.prog 12 #[.slice (some ⟨g, 0, none⟩) 2 2] V fun e w' => e = .returned (.int .i64 (checkP [t.t, u.t] : Nat)) ∧ Below V.heap.size V w') := fun V g hb hB =>
    rcheck_any [t.t, u.t] (some ⟨g, 0, none⟩) 2 2 V V rfl (by simp only [TV.namedL, and_true]; exact ⟨hnt, hnu⟩) (Below.refl _ _) (rdm_pair t u hb hB)
  clear hnt hnu
  go_enter Try.func4, Try.ntmps4
  go_upto_region 1 with (fail)
  refine wp_world (C2 W #[.int .i64 t.t.kind, .int .i64 t.t.int, .string ⟨t.t.name.toArray⟩, .slice t.A t.t.items.length t.c] #[.int .i64 u.t.kind, .int .i64 u.t.int, .string ⟨u.t.name.toArray⟩, .slice u.A u.t.items.length u.c]) (C2.new W _ _) ?_
  intro V1 hV
  have x0 := hV.x.cell 0
  have x1 := hV.x.cell 1
  have x2 := hV.x.cell 2
  have x3 := hV.x.cell 3
  have y0 := hV.y.cell 0
  have y1 := hV.y.cell 1
  have y2 := hV.y.cell 2
  have y3 := hV.y.cell 3
  have HV := Lib.hid hV
  have hlt1 := hV.x.lt
  have hlt2 := hV.y.lt
  clear hV
  by_cases h3 : 3000 < s.length
  · have d1 : decide ((3000 : Int) < (s.length : Int)) = true := by simp; omega
    clear h3
    go_wp2_with (go_at_call 6; refine (HLV.out _).mono ?_; rintro e w' ⟨rfl, hb9⟩)
    go_ret
    exact ⟨rfl, below_step HV.out.bel hb9⟩
  have d1 : decide ((3000 : Int) < (s.length : Int)) = false := by simp; omega
  have hsl : s.length ≤ 3000 := by omega
  by_cases hck : checkP [t.t, u.t] = 0
  rotate_left
  · have d2 : (((checkP [t.t, u.t] : Nat) : Int) != 0) = true := by simp; omega
    generalize checkP [t.t, u.t] = ck at *
    clear hck h3
    go_wp2_with (first
      | (go_at_call 12; refine (HCK.out _ _ (below_step HV.out.bel (below_alloc _ _)) (Blk.new _ _ _)).mono ?_; rintro e w8 ⟨rfl, hb8⟩)
      | (go_at_call 6; refine (HLV.out _).mono ?_; rintro e w' ⟨rfl, hb9⟩))
    go_ret
    exact ⟨rfl, below_step (below_step (below_step HV.out.bel (below_alloc _ _)) hb8) hb9⟩
  have HOK := Lib.hid (check_ok hck)
  rw [hck] at HCK
  obtain ⟨r, hr⟩ := exprP_has s
  obtain ⟨p, pe, pa⟩ := r
  have HEX : Hid (∀ V, Calls Try.prog 7 #[.string ⟨s.toArray⟩] V (XEnd V (p, pe, pa))) := fun V => expr_any V s _ hr
  have HNM := Lib.hid (exprP_names hr)
  have HK1 := Lib.hid (namesP_text s)
  have HK2 := Lib.hid (namesP_len s)
  generalize namesP s = K at *
  clear hck h3 hr
  go_upto_region 4 with (first
      | (go_at_call 12; refine (HCK.out _ _ (below_step HV.out.bel (below_alloc _ _)) (Blk.new _ _ _)).mono ?_; rintro e w8 ⟨rfl, hb8⟩)
      | (go_at_call 7; refine (HEX.out _).mono ?_; rintro e w9 ⟨x, hx, rfl, hok, hb9⟩; replace hx := Lib.hid hx))
  obtain ⟨b7, hg7⟩ : ∃ b7, w9.heap.size = b7 := ⟨_, rfl⟩
  have H1 : Hid (C2 W #[.int .i64 t.t.kind, .int .i64 t.t.int, .string ⟨t.t.name.toArray⟩, .slice t.A t.t.items.length t.c] #[.int .i64 u.t.kind, .int .i64 u.t.int, .string ⟨u.t.name.toArray⟩, .slice u.A u.t.items.length u.c] (w9.alloc (.cells #[.int .i64 x.t.kind, .int .i64 x.t.int, .string ⟨x.t.name.toArray⟩, .int .i64 x.t.at_, .slice x.A x.t.kids.length x.c, .slice x.B x.t.clauses.length x.d, .slice x.C x.t.body.length x.e] 30)) ∧ Blk (w9.alloc (.cells #[.int .i64 x.t.kind, .int .i64 x.t.int, .string ⟨x.t.name.toArray⟩, .int .i64 x.t.at_, .slice x.A x.t.kids.length x.c, .slice x.B x.t.clauses.length x.d, .slice x.C x.t.body.length x.e] 30)) b7 30 #[.int .i64 x.t.kind, .int .i64 x.t.int, .string ⟨x.t.name.toArray⟩, .int .i64 x.t.at_, .slice x.A x.t.kids.length x.c, .slice x.B x.t.clauses.length x.d, .slice x.C x.t.body.length x.e] ∧ x.Ok NoB (w9.alloc (.cells #[.int .i64 x.t.kind, .int .i64 x.t.int, .string ⟨x.t.name.toArray⟩, .int .i64 x.t.at_, .slice x.A x.t.kids.length x.c, .slice x.B x.t.clauses.length x.d, .slice x.C x.t.body.length x.e] 30))) := by
    rw [← hg7]
    exact ⟨((HV.out.keep (below_step (below_alloc _ _) hb8)).keep hb9).keep (below_alloc _ _), Blk.new _ _ _, (hok.move (.sub_ fun _ _ h => h.elim)).below (below_alloc _ _)⟩
  rw [hg7]
  refine wp_world (fun V => C2 W #[.int .i64 t.t.kind, .int .i64 t.t.int, .string ⟨t.t.name.toArray⟩, .slice t.A t.t.items.length t.c] #[.int .i64 u.t.kind, .int .i64 u.t.int, .string ⟨u.t.name.toArray⟩, .slice u.A u.t.items.length u.c] V ∧ Blk V b7 30 #[.int .i64 x.t.kind, .int .i64 x.t.int, .string ⟨x.t.name.toArray⟩, .int .i64 x.t.at_, .slice x.A x.t.kids.length x.c, .slice x.B x.t.clauses.length x.d, .slice x.C x.t.body.length x.e] ∧ x.Ok NoB V) H1.out ?_
  clear H1 hg7 hok hb8 hb9 HCK HEX HV x0 x1 x2 x3 y0 y1 y2 y3 hlt1 hlt2 d1
  rintro V2 ⟨hV, hB7, hok⟩
  have HV := Lib.hid hV
  have x0 := hV.x.cell 0
  have x1 := hV.x.cell 1
  have x2 := hV.x.cell 2
  have x3 := hV.x.cell 3
  have z0 := hB7.cell 0
  have z1 := hB7.cell 1
  have z2 := hB7.cell 2
  have z3 := hB7.cell 3
  have z4 := hB7.cell 4
  have z5 := hB7.cell 5
  have z6 := hB7.cell 6
  have HB7 := Lib.hid hB7
  have HOX := Lib.hid hok
  clear hV hB7 hok
  by_cases he : pe = 0
  rotate_left
  · have d1 : (pe != 0) = true := by simpa using he
    clear he
    go_wp2_with (go_at_call 6; refine (HLV.out _).mono ?_; rintro e w' ⟨rfl, hb9⟩)
    go_ret
    exact ⟨rfl, below_step HV.out.bel hb9⟩
  subst he
  have d1 : ((0 : Int) != 0) = false := by simp
  have HPX : Hid (x.t.all (fun s => s ∈ K)) := by unfold Hid; rw [hx.out]; exact HNM.out
  clear hx HNM
  -- the first match
  have HIT : Hid (t.t.isT = true) := by
    have h9 := HOK.out
    simp only [TV.isL, Bool.and_eq_true] at h9
    exact h9.1
  have HM : Hid (∀ V, Below W.heap.size W V → x.Ok NoB V → ∀ (E : List (BG (TE V))) (A : Option Addr) (c : Nat), RdB V A c E → (∀ q ∈ E, q.1 ∈ K) → Calls Try.prog 9 #[.agg #[.int .i64 x.t.kind, .int .i64 x.t.int, .string ⟨x.t.name.toArray⟩, .int .i64 x.t.at_, .slice x.A x.t.kids.length x.c, .slice x.B x.t.clauses.length x.d, .slice x.C x.t.body.length x.e], .agg #[.int .i64 t.t.kind, .int .i64 t.t.int, .string ⟨t.t.name.toArray⟩, .slice t.A t.t.items.length t.c], .slice A E.length c] V (AllEnd V (allP [x.t] [t.t] (vE E)))) := fun V hb ho E A c hE hn =>
    pmatch_any V x (t.up hb) E A c ho hE HPX.out HIT.out hn (fun s hs => Nat.le_trans (HK1.out s hs) (by omega)) (Nat.le_trans HK2.out (by omega))
  obtain ⟨R, hR⟩ : ∃ R, allP [x.t] [t.t] [] = R := ⟨_, rfl⟩
  have HR := Lib.hid hR
  have HM1 : Hid (Calls Try.prog 9 #[.agg #[.int .i64 x.t.kind, .int .i64 x.t.int, .string ⟨x.t.name.toArray⟩, .int .i64 x.t.at_, .slice x.A x.t.kids.length x.c, .slice x.B x.t.clauses.length x.d, .slice x.C x.t.body.length x.e], .agg #[.int .i64 t.t.kind, .int .i64 t.t.int, .string ⟨t.t.name.toArray⟩, .slice t.A t.t.items.length t.c], .slice none 0 0] V2 (AllEnd V2 R)) := by
    have := HM.out V2 HV.out.bel HOX.out [] none 0 (RdB.nil_ (Nat.zero_le _)) (by simp)
    rw [show vE ([] : List (BG (TE V2))) = [] from rfl, hR] at this
    exact this
  clear hR
  go_upto_region 7 with (go_at_call 9; refine HM1.out.mono ?_; rintro e V3 ⟨A8, c8, E8, rfl, h8, hR8, hb3⟩)
  have HE8 := Lib.hid h8
  have HR8 := Lib.hid hR8
  have HX3 := Lib.hid (HV.out.keep hb3)
  have HB3 := Lib.hid (HB7.out.keep hb3)
  have HO3 := Lib.hid (HOX.out.below hb3)
  have hlc := hR8.1
  have hlc2 := hR8.2.1
  obtain ⟨n, hn⟩ : ∃ n, E8.length = n := ⟨_, rfl⟩
  have HN := Lib.hid hn
  rw [hn] at hlc ⊢
  clear HM1 h8 hR8 hb3 hn HV HB7 HOX x0 x1 x2 x3 z0 z1 z2 z3 z4 z5 z6
  have HX3' := HX3
  have HB3' := HB3
  cases R with
  | none =>
    have hn0 : n = 0 := by rw [← HN.out, ← vE_len, HE8.out]; rfl
    subst hn0
    go_upto_region 8 with (fail)
    go_loopw [12] (fun i wr => i = .int .i64 0 ∧ Below V3.heap.size V3 wr) (fun _ _ => 0)
    case atStart => exact ⟨rfl, Below.refl _ _⟩
    case round =>
      obtain ⟨rfl, hb⟩ := hrel
      go_wp2_with (go_at_call 6; refine (HLV.out _).mono ?_; rintro e w' ⟨rfl, hb9⟩)
      go_ret
      exact ⟨rfl, below_step (below_step HX3.out.bel hb) hb9⟩
  | some L =>
  have HEL : Hid (vE E8 = L) := HE8.out
  go_upto_region 8 with (fail)
  go_loopw [12] (fun i wr => ∃ k : Nat, k ≤ n ∧ i = .int .i64 k ∧ Below V3.heap.size V3 wr) (fun i _ => n - (intOf i).toNat)
  case atStart => exact ⟨0, Nat.zero_le _, rfl, Below.refl _ _⟩
  case round =>
    obtain ⟨k, hk, rfl, hb⟩ := hrel
    by_cases hlt : k < n
    · have hd : decide (k < n) = true := by simp; omega
      have q1 : (0 : Int) ≤ (k : Int) := by omega
      have q2 : (k : Int) < (n : Int) := by omega
      have hkl : k < E8.length := by rw [HN.out]; exact hlt
      obtain ⟨bb, ob, rfl, e0, e1, e2, e3, e4⟩ := (HR8.out.below hb).item hkl
      have hmem : (E8[k].1, E8[k].2.t) ∈ L := by rw [← HEL.out]; exact List.mem_map.2 ⟨E8[k], List.getElem_mem hkl, rfl⟩
      obtain ⟨hw1, hw2⟩ := wider_all (HR.out) hmem u.t
      have hqK : E8[k].1 ∈ K := all_names HR.out HPX.out _ hmem
      have HB := Lib.hid hb
      have HXK := Lib.hid (HX3.out.keep hb)
      have HBK := Lib.hid (HB3.out.keep hb)
      have HOKk := Lib.hid (HO3.out.below hb)
      have HE0 := Lib.hid (HR8.out.below hb)
      obtain ⟨q, hq⟩ : ∃ q : BG (TE wr), q = (E8[k].1, E8[k].2.up hb) := ⟨_, rfl⟩
      have hq1 : q.1 = E8[k].1 := by rw [hq]
      have hq2 : q.2.t = E8[k].2.t := by rw [hq]; rfl
      have hq3 : q.2.A = E8[k].2.A := by rw [hq]; rfl
      have hq4 : q.2.c = E8[k].2.c := by rw [hq]; rfl
      rw [← hq1, ← hq2] at hw1 hw2
      rw [← hq1] at e0 hqK
      rw [← hq2] at e1 e2 e3 e4
      rw [← hq3, ← hq4] at e4
      clear hq hq1 hq2 hq3 hq4 hmem hb hkl
      have HW1 := Lib.hid hw1
      have HW2 := Lib.hid hw2
      have HQK := Lib.hid hqK
      clear hw1 hw2 hqK
      -- with the binding itself
      have HS : Hid (∀ V', Below wr.heap.size wr V' → ((V'.cell? ⟨b7, 0, none⟩ = some (.int .i64 x.t.kind) ∧ V'.cell? ⟨b7, 1, none⟩ = some (.int .i64 x.t.int) ∧ V'.cell? ⟨b7, 2, none⟩ = some (.string ⟨x.t.name.toArray⟩) ∧ V'.cell? ⟨b7, 3, none⟩ = some (.int .i64 x.t.at_) ∧ V'.cell? ⟨b7, 4, none⟩ = some (.slice x.A x.t.kids.length x.c) ∧ V'.cell? ⟨b7, 5, none⟩ = some (.slice x.B x.t.clauses.length x.d) ∧ V'.cell? ⟨b7, 6, none⟩ = some (.slice x.C x.t.body.length x.e)) ∧ (V'.cell? ⟨W.heap.size, 0, none⟩ = some (.int .i64 t.t.kind) ∧ V'.cell? ⟨W.heap.size, 1, none⟩ = some (.int .i64 t.t.int) ∧ V'.cell? ⟨W.heap.size, 2, none⟩ = some (.string ⟨t.t.name.toArray⟩) ∧ V'.cell? ⟨W.heap.size, 3, none⟩ = some (.slice t.A t.t.items.length t.c)) ∧ (V'.cell? ⟨(W.heap.size + 1), 0, none⟩ = some (.int .i64 u.t.kind) ∧ V'.cell? ⟨(W.heap.size + 1), 1, none⟩ = some (.int .i64 u.t.int) ∧ V'.cell? ⟨(W.heap.size + 1), 2, none⟩ = some (.string ⟨u.t.name.toArray⟩) ∧ V'.cell? ⟨(W.heap.size + 1), 3, none⟩ = some (.slice u.A u.t.items.length u.c)) ∧ (V'.cell? ⟨bb, ob + k * 5, none⟩ = some (.string ⟨q.1.toArray⟩) ∧ V'.cell? ⟨bb, ob + k * 5 + 1, none⟩ = some (.int .i64 q.2.t.kind) ∧ V'.cell? ⟨bb, ob + k * 5 + 2, none⟩ = some (.int .i64 q.2.t.int) ∧ V'.cell? ⟨bb, ob + k * 5 + 3, none⟩ = some (.string ⟨q.2.t.name.toArray⟩) ∧ V'.cell? ⟨bb, ob + k * 5 + 4, none⟩ = some (.slice q.2.A q.2.t.items.length q.2.c))) ∧ Below wr.heap.size wr V') := fun V' hb9 => by
        have hn9 := HBK.out.keep hb9
        have hx9 := HXK.out.keep hb9
        exact ⟨⟨⟨hn9.cell 0, hn9.cell 1, hn9.cell 2, hn9.cell 3, hn9.cell 4, hn9.cell 5, hn9.cell 6⟩, ⟨hx9.x.cell 0, hx9.x.cell 1, hx9.x.cell 2, hx9.x.cell 3⟩, ⟨hx9.y.cell 0, hx9.y.cell 1, hx9.y.cell 2, hx9.y.cell 3⟩, (hb9.cell (World.block_lt_of_cell? wr _ e0)).trans e0, (hb9.cell (World.block_lt_of_cell? wr _ e1)).trans e1, (hb9.cell (World.block_lt_of_cell? wr _ e2)).trans e2, (hb9.cell (World.block_lt_of_cell? wr _ e3)).trans e3, (hb9.cell (World.block_lt_of_cell? wr _ e4)).trans e4⟩, hb9⟩
      have HMA : Hid (∀ g V', Below wr.heap.size wr V' → Blk V' g 43 #[.string ⟨q.1.toArray⟩, .int .i64 q.2.t.kind, .int .i64 q.2.t.int, .string ⟨q.2.t.name.toArray⟩, .slice q.2.A q.2.t.items.length q.2.c] → Calls Try.prog 9 #[.agg #[.int .i64 x.t.kind, .int .i64 x.t.int, .string ⟨x.t.name.toArray⟩, .int .i64 x.t.at_, .slice x.A x.t.kids.length x.c, .slice x.B x.t.clauses.length x.d, .slice x.C x.t.body.length x.e], .agg #[.int .i64 t.t.kind, .int .i64 t.t.int, .string ⟨t.t.name.toArray⟩, .slice t.A t.t.items.length t.c], .slice (some ⟨g, 0, none⟩) 1 1] V' fun e w' => ∃ A9 c9, ∃ E9 : List (BG (TE w')), e = .returned (.tuple #[.slice A9 E9.length c9, .bool true]) ∧ Hid (vE E9 = L) ∧ Hid (RdB w' A9 c9 E9) ∧ Below wr.heap.size wr w') := fun g V' hb9 hB9 => by
        have := HM.out V' (below_step HXK.out.bel hb9) (HOKk.out.below hb9) [(q.1, q.2.up hb9)] (some ⟨g, 0, none⟩) 1 (rdb_one _ hB9) (fun p hp => by rw [List.mem_singleton.1 hp]; exact HQK.out)
        rw [show vE [(q.1, q.2.up hb9)] = [(q.1, q.2.t)] from rfl, HW1.out] at this
        exact this.mono fun e w' ⟨A9, c9, E9, h1, h2, h3, h4⟩ => ⟨A9, c9, E9, h1, h2, h3, below_step hb9 h4⟩
      have HMB : Hid (∀ g V', Below wr.heap.size wr V' → Blk V' g 43 #[.string ⟨q.1.toArray⟩, .int .i64 u.t.kind, .int .i64 u.t.int, .string ⟨u.t.name.toArray⟩, .slice u.A u.t.items.length u.c] → Calls Try.prog 9 #[.agg #[.int .i64 x.t.kind, .int .i64 x.t.int, .string ⟨x.t.name.toArray⟩, .int .i64 x.t.at_, .slice x.A x.t.kids.length x.c, .slice x.B x.t.clauses.length x.d, .slice x.C x.t.body.length x.e], .agg #[.int .i64 t.t.kind, .int .i64 t.t.int, .string ⟨t.t.name.toArray⟩, .slice t.A t.t.items.length t.c], .slice (some ⟨g, 0, none⟩) 1 1] V' fun e w' => ∃ A9 n9 c9, e = .returned (.tuple #[.slice A9 n9 c9, .bool (u.t.cmp q.2.t == 0)]) ∧ Below V'.heap.size V' w') := fun g V' hb9 hB9 => by
        have hbw := below_step HXK.out.bel hb9
        have := HM.out V' hbw (HOKk.out.below hb9) [(q.1, u.up hbw)] (some ⟨g, 0, none⟩) 1 (rdb_one _ hB9) (fun p hp => by rw [List.mem_singleton.1 hp]; exact HQK.out)
        rw [show vE [(q.1, u.up hbw)] = [(q.1, u.t)] from rfl] at this
        exact this.mono fun e w' ⟨A9, c9, E9, h1, h2, h3, h4⟩ => ⟨A9, E9.length, c9, by rw [h1, HW2.out], h4⟩
      have HSM : Hid (∀ V', Below wr.heap.size wr V' → Calls Try.prog 13 #[.agg #[.int .i64 u.t.kind, .int .i64 u.t.int, .string ⟨u.t.name.toArray⟩, .slice u.A u.t.items.length u.c], .agg #[.int .i64 q.2.t.kind, .int .i64 q.2.t.int, .string ⟨q.2.t.name.toArray⟩, .slice q.2.A q.2.t.items.length q.2.c]] V' fun e w' => e = .returned (.bool (u.t.cmp q.2.t == 0)) ∧ Below V'.heap.size V' w') := fun V' hb9 =>
        (tsame_any u.t q.2.t u.A u.c q.2.A q.2.c wr V' hb9 (u.ok.below HXK.out.bel) q.2.ok).mono fun e w' ⟨h1, h2⟩ => ⟨h1, h2⟩
      have HRS : Hid (∀ V' A9 c9 (E9 : List (BG (TE V'))), Below wr.heap.size wr V' → vE E9 = L → RdB V' A9 c9 E9 → Calls Try.prog 11 #[.slice A9 E9.length c9, .slice (some ⟨bb, ob, none⟩) n c8] V' fun e w' => e = .returned (.bool true) ∧ Below V'.heap.size V' w') := fun V' A9 c9 E9 hb9 h1 h2 => by
        have hb3 := below_step HB.out hb9
        have hl : (upE hb3 E8).length = n := by rw [upE_len, HN.out]
        have := rsame_any V' V' E9 (upE hb3 E8) A9 (some ⟨bb, ob, none⟩) c9 c8 (Below.refl _ _) h2 ((HE0.out.below hb9).up hb3)
        rw [hl, vE_up, h1, HEL.out, sameB_self] at this
        exact this
      clear HM HE0 e0 e1 e2 e3 e4
      obtain ⟨sm, hsm⟩ : ∃ sm, (u.t.cmp q.2.t == 0) = sm := ⟨_, rfl⟩
      rw [hsm] at HMB HSM
      clear hsm
      go_upto_region 10 with (fail)
      go_region_held3 (fun V' => ((V'.cell? ⟨b7, 0, none⟩ = some (.int .i64 x.t.kind) ∧ V'.cell? ⟨b7, 1, none⟩ = some (.int .i64 x.t.int) ∧ V'.cell? ⟨b7, 2, none⟩ = some (.string ⟨x.t.name.toArray⟩) ∧ V'.cell? ⟨b7, 3, none⟩ = some (.int .i64 x.t.at_) ∧ V'.cell? ⟨b7, 4, none⟩ = some (.slice x.A x.t.kids.length x.c) ∧ V'.cell? ⟨b7, 5, none⟩ = some (.slice x.B x.t.clauses.length x.d) ∧ V'.cell? ⟨b7, 6, none⟩ = some (.slice x.C x.t.body.length x.e)) ∧ (V'.cell? ⟨W.heap.size, 0, none⟩ = some (.int .i64 t.t.kind) ∧ V'.cell? ⟨W.heap.size, 1, none⟩ = some (.int .i64 t.t.int) ∧ V'.cell? ⟨W.heap.size, 2, none⟩ = some (.string ⟨t.t.name.toArray⟩) ∧ V'.cell? ⟨W.heap.size, 3, none⟩ = some (.slice t.A t.t.items.length t.c)) ∧ (V'.cell? ⟨(W.heap.size + 1), 0, none⟩ = some (.int .i64 u.t.kind) ∧ V'.cell? ⟨(W.heap.size + 1), 1, none⟩ = some (.int .i64 u.t.int) ∧ V'.cell? ⟨(W.heap.size + 1), 2, none⟩ = some (.string ⟨u.t.name.toArray⟩) ∧ V'.cell? ⟨(W.heap.size + 1), 3, none⟩ = some (.slice u.A u.t.items.length u.c)) ∧ (V'.cell? ⟨bb, ob + k * 5, none⟩ = some (.string ⟨q.1.toArray⟩) ∧ V'.cell? ⟨bb, ob + k * 5 + 1, none⟩ = some (.int .i64 q.2.t.kind) ∧ V'.cell? ⟨bb, ob + k * 5 + 2, none⟩ = some (.int .i64 q.2.t.int) ∧ V'.cell? ⟨bb, ob + k * 5 + 3, none⟩ = some (.string ⟨q.2.t.name.toArray⟩) ∧ V'.cell? ⟨bb, ob + k * 5 + 4, none⟩ = some (.slice q.2.A q.2.t.items.length q.2.c))) ∧ Below wr.heap.size wr V') (first | exact HS.out _ hb9 | exact HS.out _ (Below.refl _ _).drew | exact HS.out _ (Below.refl _ _) | exact HS.out _ (below_step (And.right (by assumption)) (below_alloc _ _)) | fail) ((first | (go_at_call 9; refine (HMA.out _ _ (And.right (by assumption)) (by first | exact Blk.new _ _ _ | exact blk_drew (Blk.new _ _ _))).mono ?_; rintro e w7 ⟨A9, c9, E9, rfl, h19, h29, hb9⟩) | fail))
      all_goals
        have hb7 := hb9
        go_upto_region 11 with (fail)
        have HRS2 : Hid (∀ V', Below w7.heap.size w7 V' → Calls Try.prog 11 #[.slice A9 E9.length c9, .slice (some ⟨bb, ob, none⟩) n c8] V' fun e w' => e = .returned (.bool true) ∧ Below V'.heap.size V' w') := fun V' hb79 => by
          have := HRS.out V' A9 c9 (upE hb79 E9) (below_step hb7 hb79) (by rw [vE_up]; exact h19.out) ((h29.out.below hb79).up hb79)
          rw [upE_len] at this
          exact this
        have HS2 : Hid (∀ V', Below w7.heap.size w7 V' → ((V'.cell? ⟨b7, 0, none⟩ = some (.int .i64 x.t.kind) ∧ V'.cell? ⟨b7, 1, none⟩ = some (.int .i64 x.t.int) ∧ V'.cell? ⟨b7, 2, none⟩ = some (.string ⟨x.t.name.toArray⟩) ∧ V'.cell? ⟨b7, 3, none⟩ = some (.int .i64 x.t.at_) ∧ V'.cell? ⟨b7, 4, none⟩ = some (.slice x.A x.t.kids.length x.c) ∧ V'.cell? ⟨b7, 5, none⟩ = some (.slice x.B x.t.clauses.length x.d) ∧ V'.cell? ⟨b7, 6, none⟩ = some (.slice x.C x.t.body.length x.e)) ∧ (V'.cell? ⟨W.heap.size, 0, none⟩ = some (.int .i64 t.t.kind) ∧ V'.cell? ⟨W.heap.size, 1, none⟩ = some (.int .i64 t.t.int) ∧ V'.cell? ⟨W.heap.size, 2, none⟩ = some (.string ⟨t.t.name.toArray⟩) ∧ V'.cell? ⟨W.heap.size, 3, none⟩ = some (.slice t.A t.t.items.length t.c)) ∧ (V'.cell? ⟨(W.heap.size + 1), 0, none⟩ = some (.int .i64 u.t.kind) ∧ V'.cell? ⟨(W.heap.size + 1), 1, none⟩ = some (.int .i64 u.t.int) ∧ V'.cell? ⟨(W.heap.size + 1), 2, none⟩ = some (.string ⟨u.t.name.toArray⟩) ∧ V'.cell? ⟨(W.heap.size + 1), 3, none⟩ = some (.slice u.A u.t.items.length u.c)) ∧ (V'.cell? ⟨bb, ob + k * 5, none⟩ = some (.string ⟨q.1.toArray⟩) ∧ V'.cell? ⟨bb, ob + k * 5 + 1, none⟩ = some (.int .i64 q.2.t.kind) ∧ V'.cell? ⟨bb, ob + k * 5 + 2, none⟩ = some (.int .i64 q.2.t.int) ∧ V'.cell? ⟨bb, ob + k * 5 + 3, none⟩ = some (.string ⟨q.2.t.name.toArray⟩) ∧ V'.cell? ⟨bb, ob + k * 5 + 4, none⟩ = some (.slice q.2.A q.2.t.items.length q.2.c))) ∧ Below w7.heap.size w7 V') := fun V' hb79 => ⟨(HS.out V' (below_step hb7 hb79)).1, hb79⟩
        have HMB2 : Hid (∀ g V', Below w7.heap.size w7 V' → Blk V' g 43 #[.string ⟨q.1.toArray⟩, .int .i64 u.t.kind, .int .i64 u.t.int, .string ⟨u.t.name.toArray⟩, .slice u.A u.t.items.length u.c] → Calls Try.prog 9 #[.agg #[.int .i64 x.t.kind, .int .i64 x.t.int, .string ⟨x.t.name.toArray⟩, .int .i64 x.t.at_, .slice x.A x.t.kids.length x.c, .slice x.B x.t.clauses.length x.d, .slice x.C x.t.body.length x.e], .agg #[.int .i64 t.t.kind, .int .i64 t.t.int, .string ⟨t.t.name.toArray⟩, .slice t.A t.t.items.length t.c], .slice (some ⟨g, 0, none⟩) 1 1] V' fun e w' => ∃ A9 n9 c9, e = .returned (.tuple #[.slice A9 n9 c9, .bool sm]) ∧ Below w7.heap.size w7 w') := fun g V' hb79 hB79 => (HMB.out g V' (below_step hb7 hb79) hB79).mono fun e w' ⟨A9, n9, c9, h1, h2⟩ => ⟨A9, n9, c9, h1, below_step hb79 h2⟩
        generalize E9.length = n9 at *
        clear HRS HMA HS HMB h19 h29
        go_region_held3 (fun V' => ((V'.cell? ⟨b7, 0, none⟩ = some (.int .i64 x.t.kind) ∧ V'.cell? ⟨b7, 1, none⟩ = some (.int .i64 x.t.int) ∧ V'.cell? ⟨b7, 2, none⟩ = some (.string ⟨x.t.name.toArray⟩) ∧ V'.cell? ⟨b7, 3, none⟩ = some (.int .i64 x.t.at_) ∧ V'.cell? ⟨b7, 4, none⟩ = some (.slice x.A x.t.kids.length x.c) ∧ V'.cell? ⟨b7, 5, none⟩ = some (.slice x.B x.t.clauses.length x.d) ∧ V'.cell? ⟨b7, 6, none⟩ = some (.slice x.C x.t.body.length x.e)) ∧ (V'.cell? ⟨W.heap.size, 0, none⟩ = some (.int .i64 t.t.kind) ∧ V'.cell? ⟨W.heap.size, 1, none⟩ = some (.int .i64 t.t.int) ∧ V'.cell? ⟨W.heap.size, 2, none⟩ = some (.string ⟨t.t.name.toArray⟩) ∧ V'.cell? ⟨W.heap.size, 3, none⟩ = some (.slice t.A t.t.items.length t.c)) ∧ (V'.cell? ⟨(W.heap.size + 1), 0, none⟩ = some (.int .i64 u.t.kind) ∧ V'.cell? ⟨(W.heap.size + 1), 1, none⟩ = some (.int .i64 u.t.int) ∧ V'.cell? ⟨(W.heap.size + 1), 2, none⟩ = some (.string ⟨u.t.name.toArray⟩) ∧ V'.cell? ⟨(W.heap.size + 1), 3, none⟩ = some (.slice u.A u.t.items.length u.c)) ∧ (V'.cell? ⟨bb, ob + k * 5, none⟩ = some (.string ⟨q.1.toArray⟩) ∧ V'.cell? ⟨bb, ob + k * 5 + 1, none⟩ = some (.int .i64 q.2.t.kind) ∧ V'.cell? ⟨bb, ob + k * 5 + 2, none⟩ = some (.int .i64 q.2.t.int) ∧ V'.cell? ⟨bb, ob + k * 5 + 3, none⟩ = some (.string ⟨q.2.t.name.toArray⟩) ∧ V'.cell? ⟨bb, ob + k * 5 + 4, none⟩ = some (.slice q.2.A q.2.t.items.length q.2.c))) ∧ Below w7.heap.size w7 V') (first | exact HS2.out _ hb9 | exact HS2.out _ (Below.refl _ _).drew | exact HS2.out _ (Below.refl _ _) | exact HS2.out _ (below_step (And.right (by assumption)) (below_alloc _ _)) | fail) ((first | (go_at_call 9; refine (HMB2.out _ _ (And.right (by assumption)) (by first | exact Blk.new _ _ _ | exact blk_drew (Blk.new _ _ _))).mono ?_; rintro e w8 ⟨A19, n19, c19, rfl, hb9⟩) | fail))
        all_goals
          have hb8 := hb9
          go_upto_region 12 with (fail)
          have HS3 : Hid (∀ V', Below w8.heap.size w8 V' → ((V'.cell? ⟨b7, 0, none⟩ = some (.int .i64 x.t.kind) ∧ V'.cell? ⟨b7, 1, none⟩ = some (.int .i64 x.t.int) ∧ V'.cell? ⟨b7, 2, none⟩ = some (.string ⟨x.t.name.toArray⟩) ∧ V'.cell? ⟨b7, 3, none⟩ = some (.int .i64 x.t.at_) ∧ V'.cell? ⟨b7, 4, none⟩ = some (.slice x.A x.t.kids.length x.c) ∧ V'.cell? ⟨b7, 5, none⟩ = some (.slice x.B x.t.clauses.length x.d) ∧ V'.cell? ⟨b7, 6, none⟩ = some (.slice x.C x.t.body.length x.e)) ∧ (V'.cell? ⟨W.heap.size, 0, none⟩ = some (.int .i64 t.t.kind) ∧ V'.cell? ⟨W.heap.size, 1, none⟩ = some (.int .i64 t.t.int) ∧ V'.cell? ⟨W.heap.size, 2, none⟩ = some (.string ⟨t.t.name.toArray⟩) ∧ V'.cell? ⟨W.heap.size, 3, none⟩ = some (.slice t.A t.t.items.length t.c)) ∧ (V'.cell? ⟨(W.heap.size + 1), 0, none⟩ = some (.int .i64 u.t.kind) ∧ V'.cell? ⟨(W.heap.size + 1), 1, none⟩ = some (.int .i64 u.t.int) ∧ V'.cell? ⟨(W.heap.size + 1), 2, none⟩ = some (.string ⟨u.t.name.toArray⟩) ∧ V'.cell? ⟨(W.heap.size + 1), 3, none⟩ = some (.slice u.A u.t.items.length u.c)) ∧ (V'.cell? ⟨bb, ob + k * 5, none⟩ = some (.string ⟨q.1.toArray⟩) ∧ V'.cell? ⟨bb, ob + k * 5 + 1, none⟩ = some (.int .i64 q.2.t.kind) ∧ V'.cell? ⟨bb, ob + k * 5 + 2, none⟩ = some (.int .i64 q.2.t.int) ∧ V'.cell? ⟨bb, ob + k * 5 + 3, none⟩ = some (.string ⟨q.2.t.name.toArray⟩) ∧ V'.cell? ⟨bb, ob + k * 5 + 4, none⟩ = some (.slice q.2.A q.2.t.items.length q.2.c))) ∧ Below w8.heap.size w8 V') := fun V' hb79 => ⟨(HS2.out V' (below_step hb8 hb79)).1, hb79⟩
          have HSM3 : Hid (∀ V', Below w8.heap.size w8 V' → Calls Try.prog 13 #[.agg #[.int .i64 u.t.kind, .int .i64 u.t.int, .string ⟨u.t.name.toArray⟩, .slice u.A u.t.items.length u.c], .agg #[.int .i64 q.2.t.kind, .int .i64 q.2.t.int, .string ⟨q.2.t.name.toArray⟩, .slice q.2.A q.2.t.items.length q.2.c]] V' fun e w' => e = .returned (.bool sm) ∧ Below w8.heap.size w8 w') := fun V' hb79 => (HSM.out V' (below_step (below_step hb7 hb8) hb79)).mono fun e w' ⟨h1, h2⟩ => ⟨h1, below_step hb79 h2⟩
          have HRS3 : Hid (∀ V', Below w8.heap.size w8 V' → Calls Try.prog 11 #[.slice A9 n9 c9, .slice (some ⟨bb, ob, none⟩) n c8] V' fun e w' => e = .returned (.bool true) ∧ Below w8.heap.size w8 w') := fun V' hb79 => (HRS2.out V' (below_step hb8 hb79)).mono fun e w' ⟨h1, h2⟩ => ⟨h1, below_step hb79 h2⟩
          have hsm9 : (sm != sm) = false := by simp
          have HBF := Lib.hid (below_step (below_step HB.out hb7) hb8)
          clear HRS2 HS2 HMB2 HSM hb9 hb7 hb8
          go_region_held3 (fun V' => ((V'.cell? ⟨b7, 0, none⟩ = some (.int .i64 x.t.kind) ∧ V'.cell? ⟨b7, 1, none⟩ = some (.int .i64 x.t.int) ∧ V'.cell? ⟨b7, 2, none⟩ = some (.string ⟨x.t.name.toArray⟩) ∧ V'.cell? ⟨b7, 3, none⟩ = some (.int .i64 x.t.at_) ∧ V'.cell? ⟨b7, 4, none⟩ = some (.slice x.A x.t.kids.length x.c) ∧ V'.cell? ⟨b7, 5, none⟩ = some (.slice x.B x.t.clauses.length x.d) ∧ V'.cell? ⟨b7, 6, none⟩ = some (.slice x.C x.t.body.length x.e)) ∧ (V'.cell? ⟨W.heap.size, 0, none⟩ = some (.int .i64 t.t.kind) ∧ V'.cell? ⟨W.heap.size, 1, none⟩ = some (.int .i64 t.t.int) ∧ V'.cell? ⟨W.heap.size, 2, none⟩ = some (.string ⟨t.t.name.toArray⟩) ∧ V'.cell? ⟨W.heap.size, 3, none⟩ = some (.slice t.A t.t.items.length t.c)) ∧ (V'.cell? ⟨(W.heap.size + 1), 0, none⟩ = some (.int .i64 u.t.kind) ∧ V'.cell? ⟨(W.heap.size + 1), 1, none⟩ = some (.int .i64 u.t.int) ∧ V'.cell? ⟨(W.heap.size + 1), 2, none⟩ = some (.string ⟨u.t.name.toArray⟩) ∧ V'.cell? ⟨(W.heap.size + 1), 3, none⟩ = some (.slice u.A u.t.items.length u.c)) ∧ (V'.cell? ⟨bb, ob + k * 5, none⟩ = some (.string ⟨q.1.toArray⟩) ∧ V'.cell? ⟨bb, ob + k * 5 + 1, none⟩ = some (.int .i64 q.2.t.kind) ∧ V'.cell? ⟨bb, ob + k * 5 + 2, none⟩ = some (.int .i64 q.2.t.int) ∧ V'.cell? ⟨bb, ob + k * 5 + 3, none⟩ = some (.string ⟨q.2.t.name.toArray⟩) ∧ V'.cell? ⟨bb, ob + k * 5 + 4, none⟩ = some (.slice q.2.A q.2.t.items.length q.2.c))) ∧ Below w8.heap.size w8 V') (first | exact HS3.out _ hb9 | exact HS3.out _ (Below.refl _ _).drew | exact HS3.out _ (Below.refl _ _)) ((first
            | (go_at_call 11; refine (HRS3.out _ (And.right (by assumption))).mono ?_; rintro e w' ⟨rfl, hb9⟩)
            | (go_at_call 13; refine (HSM3.out _ (And.right (by assumption))).mono ?_; rintro e w' ⟨rfl, hb9⟩)))
          all_goals
            go_wp2
            refine ⟨?_, ?measure⟩
            (repeat apply Exists.intro)
            refine ⟨?rel, rfl⟩
            case rel => exact ⟨k + 1, by omega, by go_num, below_step HBF.out hb9⟩
            case measure => simp [intOf]; omega
    · obtain rfl : k = n := by omega
      have hd : decide (k < k) = false := by simp
      go_wp2_with (go_at_call 6; refine (HLV.out _).mono ?_; rintro e w' ⟨rfl, hb9⟩)
      go_ret
      exact ⟨rfl, below_step (below_step HX3.out.bel hb) hb9⟩
/-- .. in the frame's words. -/
theorem matchWider_v (s : ByteArray) (t u : TV) (A B : Option Addr) (c d : Nat) (W : World) (hrt : RdM W A c t.items) (hru : RdM W B d u.items) (hnt : t.named) (hnu : u.named) :
    Calls Try.prog 4 #[.string s, .agg #[.int .i64 t.kind, .int .i64 t.int, .string ⟨t.name.toArray⟩, .slice A t.items.length c], .agg #[.int .i64 u.kind, .int .i64 u.int, .string ⟨u.name.toArray⟩, .slice B u.items.length d]] W fun e w' => e = .returned (.bool true) ∧ Below W.heap.size W w' := by
  have := matchWider_any (W := W) s.data.toList ⟨t, A, c, hrt⟩ ⟨u, B, d, hru⟩ hnt hnu
  simpa using this
end
end Go.Proofs.Ytmpknhdfglbocaa
