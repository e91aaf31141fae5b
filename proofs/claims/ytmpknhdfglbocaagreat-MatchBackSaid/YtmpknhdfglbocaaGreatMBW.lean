/- Layer 13: the law's built at every pattern; the walk of the law MatchBack. Written by magenmw.py. -/
import Derived.Test.YtmpknhdfglbocaaGreatMbC
import Derived.Test.YtmpknhdfglbocaaGreatMaR
namespace Go.Proofs.YtmpknhdfglbocaaGreat
open Go.RowKit
set_option linter.unusedVariables false

mutual
theorem var_all {Q : List UInt8 → Prop} {s : List UInt8} : ∀ p : ND, VarP s p → p.all Q → Q s
  | .mk k n nm a l m r, hv, ha => by
    simp only [VarP, ND.all] at hv ha
    by_cases h3 : k = 3
    · rw [if_pos h3] at hv; rw [← hv.1]; exact ha.1
    rw [if_neg h3] at hv
    by_cases h4 : k = 4
    · rw [if_pos h4] at hv; exact varL_all l hv ha.2.1
    rw [if_neg h4] at hv
    by_cases h6 : k = 6
    · rw [if_pos h6] at hv; exact varL_all l hv ha.2.1
    rw [if_neg h6] at hv
    exact hv.elim
theorem varL_all {Q : List UInt8 → Prop} {s : List UInt8} : ∀ l : List ND, VarL s l → ND.allL Q l → Q s
  | [], hv, _ => by simp only [VarL] at hv
  | p :: r, hv, ha => by
    simp only [VarL, ND.allL] at hv ha
    rcases hv with hv | hv
    · exact var_all p hv ha.1
    · exact varL_all r hv ha.2
end
theorem all_names {p : ND} {t : TV} {R : List BV} (h : allP [p] [t] [] = some R) {Q : List UInt8 → Prop} (hq : p.all Q) : ∀ b ∈ R, Q b.1 := by
  intro b hb
  rw [allP_one] at h
  split at h
  · split at h
    · cases h
      have hg := (getG_srt (risG_srt _)).2 (show (b.1, b.2) ∈ risG (matchP p t []).1 from hb)
      rw [getG_risG] at hg
      exact var_all p ((fit_names p t [] b.1 b.2 hg).resolve_left (by simp [getG])) hq
    · cases h
  · cases h
theorem check_ok {l : List TV} (h : checkP l = 0) : TV.isL l = true := by
  unfold checkP at h
  split at h
  · split at h
    · assumption
    · omega
  · omega
mutual
theorem var_95 : ∀ p : ND, ¬ VarP [95] p
  | .mk k n nm a l m r, h => by
    simp only [VarP] at h
    by_cases h3 : k = 3
    · rw [if_pos h3] at h; exact h.2 rfl
    rw [if_neg h3] at h
    by_cases h4 : k = 4
    · rw [if_pos h4] at h; exact varL_95 l h
    rw [if_neg h4] at h
    by_cases h6 : k = 6
    · rw [if_pos h6] at h; exact varL_95 l h
    rw [if_neg h6] at h
    exact h
theorem varL_95 : ∀ l : List ND, ¬ VarL [95] l
  | [], h => by simp only [VarL] at h
  | p :: r, h => by
    simp only [VarL] at h
    rcases h with h | h
    · exact var_95 p h
    · exact varL_95 r h
end
/-- What a pattern has bound: it fits under it, and nothing is bound to the name for anything. -/
theorem back_fit {p : ND} {t : TV} {R : List BV} (h : allP [p] [t] [] = some R) : patB p = true ∧ FitP (fun s => getG s R) p t ∧ getG [95] R = none := by
  rw [allP_one] at h
  split at h
  · rename_i hp
    split at h
    · rename_i hm
      cases h
      obtain ⟨_, q2⟩ := fit_ext p t [] hm
      refine ⟨hp, q2 _ (fun s v hs => by rw [getG_risG]; exact hs), ?_⟩
      cases hg : getG [95] (risG (matchP p t []).1) with
      | none => rfl
      | some v =>
        rw [getG_risG] at hg
        rcases fit_names p t [] [95] v hg with h9 | h9
        · simp [getG] at h9
        · exact absurd h9 (var_95 p)
    · cases h
  · cases h
section
variable {w0 : World} {sb : Nat}
/-- built, at every pattern that fits. -/
theorem built_any (E : List (BG (TE w0))) (D : Option Addr) (d : Nat) (hB : RdB w0 D d E) (hE : E.length ≤ 2000000) (h95 : getG [95] (vE E) = none) (N : Nat) : ∀ (t : TV) (x : EN) (V : World) (v : Value) (L : List (List UInt8)), t.parts ≤ N → t.isT = true → patB x.t = true → FitP (fun s => getG s (vE E)) x.t t → x.Ok NoB w0 → Seen w0 sb v L V → L.length + t.parts ≤ 2000000 →
    Calls Tryz.prog 18 #[.agg #[.int .i64 x.t.kind, .int .i64 x.t.int, .string ⟨x.t.name.toArray⟩, .int .i64 x.t.at_, .slice x.A x.t.kids.length x.c, .slice x.B x.t.clauses.length x.d, .slice x.C x.t.body.length x.e], .slice D E.length d, .pointer (some ⟨sb, 0, none⟩)] V (BEnd w0 sb v L.length V t) := by
  induction N with
  | zero => intro t x V v L hN; have := t.parts_pos; omega
  | succ N ih =>
    rintro t ⟨⟨kd, n, s, a, l, cl, bd⟩, A, c, B, e, C, f⟩ V v L hN hT hP hF hok hS hL
    have hR : RdN NoB w0 A c l := hok.kids
    simp only [patB, FitP] at hP hF
    show Calls Tryz.prog 18 #[.agg #[.int .i64 kd, .int .i64 n, .string ⟨s.toArray⟩, .int .i64 a, .slice A l.length c, .slice B cl.length e, .slice C bd.length f], .slice D E.length d, .pointer (some ⟨sb, 0, none⟩)] V (BEnd w0 sb v L.length V t)
    by_cases h1 : kd = 1
    · subst h1
      simp only [if_true] at hF
      exact built_k1 hS n s a l A c _ _ D E.length d t (by rw [isT_int hT hF.1, hF.2])
    simp only [if_neg h1] at hF hP
    by_cases h2 : kd = 2
    · subst h2
      simp only [if_true] at hF
      exact built_k2 hS n s a l A c _ _ D E.length d t (by rw [isT_atom hT hF.1, hF.2])
    simp only [if_neg h2] at hF hP
    by_cases h5 : kd = 5
    · subst h5
      simp only [if_true] at hF
      exact built_k5 hS n s a l A c _ _ D E.length d t (isT_nil hT hF)
    simp only [if_neg h5] at hF hP
    by_cases h10 : kd = 10
    · subst h10
      simp only [if_true, Int.reduceEq, if_false, Bool.and_eq_true, beq_iff_eq] at hF hP
      exact built_k10 hS n s a l A c _ _ D E.length d t hP.2.1 (hR.below hS.bel) (by rw [isT_int hT hF.1, hF.2])
    simp only [if_neg h10] at hF hP
    by_cases h3 : kd = 3
    · subst h3
      simp only [if_true] at hF
      refine built_k3 hS n s a l A c _ _ E D d hB hE (by omega) t (fun u hu => ?_)
      rcases hF with hF | hF
      · rw [hF, h95] at hu; cases hu
      · rw [hF] at hu; exact (Option.some.inj hu).symm
    simp only [if_neg h3] at hF hP
    have hpe := t.parts_eq
    have hI : ∀ (hlen : l.length = t.items.length) (hFL : FitL (fun s => getG s (vE E)) l t.items) (hPL : patL l = true) (hTL : TV.isL t.items = true) (k : Nat) (h : k < l.length) (h' : k < t.items.length) (x : EN) (V : World) (v1 : Value) (L1 : List (List UInt8)), x.t = l[k] → x.Ok NoB w0 → Seen w0 sb v1 L1 V → L1.length + (t.items[k]).parts ≤ 2000000 →
        Calls Tryz.prog 18 #[.agg #[.int .i64 x.t.kind, .int .i64 x.t.int, .string ⟨x.t.name.toArray⟩, .int .i64 x.t.at_, .slice x.A x.t.kids.length x.c, .slice x.B x.t.clauses.length x.d, .slice x.C x.t.body.length x.e], .slice D E.length d, .pointer (some ⟨sb, 0, none⟩)] V (BEnd w0 sb v1 L1.length V t.items[k]) := fun hlen hFL hPL hTL k h h' x V v1 L1 hx hxo hs1 hl1 =>
      ih t.items[k] x V v1 L1 (by have := parts_item t.items k h'; omega) (isL_at hTL h') (by rw [hx]; exact patL_at hPL h) (by rw [hx]; exact fitL_at hFL h h') hxo hs1 hl1
    by_cases h4 : kd = 4
    · subst h4
      simp only [if_true] at hF hP
      obtain ⟨e1, e2⟩ := isT_tuple hT hF.1
      have := built_k4 hS n s a l A c (.slice B cl.length e) (.slice C bd.length f) D E.length d t.items hR hF.2.1.symm (by omega) (hI hF.2.1.symm hF.2.2 hP e2)
      rw [← e1] at this
      exact this
    simp only [if_neg h4] at hF hP
    by_cases h6 : kd = 6
    · subst h6
      simp only [if_true, Bool.and_eq_true] at hF hP
      obtain ⟨e1, e2, e3⟩ := isT_cons hT hF.1
      have := built_k6 hS n s a l A c (.slice B cl.length e) (.slice C bd.length f) D E.length d t.items hR hF.2.1.symm e2 (by omega) (hI hF.2.1.symm hF.2.2 hP.2 e3)
      rw [← e1] at this
      exact this
    simp only [if_neg h6] at hF
end
/-- The term's box. -/
structure C1 (W : World) (ct : Array Value) (V : World) : Prop where
  x : Blk V W.heap.size 35 ct
  bel : Below W.heap.size W V
theorem C1.keep {W V V' : World} {ct : Array Value} (h : C1 W ct V) (hb : Below V.heap.size V V') : C1 W ct V' := ⟨h.x.keep hb, below_step h.bel hb⟩
section
variable {W : World}
set_option maxRecDepth 100000 in
set_option maxHeartbeats 8000000 in
theorem matchBack_any (s : List UInt8) (t : TE W) (hnt : t.t.named) :
    Calls Tryz.prog 4 #[.string ⟨s.toArray⟩, .agg #[.int .i64 t.t.kind, .int .i64 t.t.int, .string ⟨t.t.name.toArray⟩, .slice t.A t.t.items.length t.c]] W fun e w' => e = .returned (.bool true) ∧ Below W.heap.size W w' := by
  have HLV := Lib.hid live_any
  have HCK : Hid (∀ V g, Below W.heap.size W V → Blk V g 35 #[.int .i64 t.t.kind, .int .i64 t.t.int, .string ⟨t.t.name.toArray⟩, .slice t.A t.t.items.length t.c] → Calls Tryz.prog 16 #[.slice (some ⟨g, 0, none⟩) 1 1] V fun e w' => e = .returned (.int .i64 (checkP [t.t] : Nat)) ∧ Below V.heap.size V w') := fun V g hb hB =>
    rcheck_any [t.t] (some ⟨g, 0, none⟩) 1 1 V V rfl (by simp only [TV.namedL, and_true]; exact hnt) (Below.refl _ _) (rdm_one t hb hB)
  clear hnt
  go_enter Tryz.func4, Tryz.ntmps4
  go_upto_region 1 with (fail)
  refine wp_world (C1 W #[.int .i64 t.t.kind, .int .i64 t.t.int, .string ⟨t.t.name.toArray⟩, .slice t.A t.t.items.length t.c]) ⟨Blk.new _ _ _, below_alloc _ _⟩ ?_
  intro V1 hV
  have x0 := hV.x.cell 0
  have x1 := hV.x.cell 1
  have x2 := hV.x.cell 2
  have x3 := hV.x.cell 3
  have HV := Lib.hid hV
  have hlt1 := hV.x.lt
  clear hV
  by_cases h3 : 3000 < s.length
  · have d1 : decide ((3000 : Int) < (s.length : Int)) = true := by simp; omega
    clear h3
    go_wp2_with (go_at_call 6; refine (HLV.out _).mono ?_; rintro e w' ⟨rfl, hb9⟩)
    go_ret
    exact ⟨rfl, below_step HV.out.bel hb9⟩
  have d1 : decide ((3000 : Int) < (s.length : Int)) = false := by simp; omega
  have hsl : s.length ≤ 3000 := by omega
  by_cases hck : checkP [t.t] = 0
  rotate_left
  · have d2 : (((checkP [t.t] : Nat) : Int) != 0) = true := by simp; omega
    generalize checkP [t.t] = ck at *
    clear hck h3
    go_wp2_with (first
      | (go_at_call 16; refine (HCK.out _ _ (below_step HV.out.bel (below_alloc _ _)) (Blk.new _ _ _)).mono ?_; rintro e w8 ⟨rfl, hb8⟩)
      | (go_at_call 6; refine (HLV.out _).mono ?_; rintro e w' ⟨rfl, hb9⟩))
    go_ret
    exact ⟨rfl, below_step (below_step (below_step HV.out.bel (below_alloc _ _)) hb8) hb9⟩
  have HIT : Hid (t.t.isT = true) := by
    have h9 := check_ok hck
    simp only [TV.isL, Bool.and_true] at h9
    exact h9
  have HPT : Hid (t.t.parts ≤ 4096) := by
    unfold checkP at hck
    split at hck
    · rename_i h9; simp only [TV.partsL] at h9; exact h9
    · omega
  rw [hck] at HCK
  obtain ⟨r, hr⟩ := exprP_has s
  obtain ⟨p, pe, pa⟩ := r
  have HEX : Hid (∀ V, Calls Tryz.prog 7 #[.string ⟨s.toArray⟩] V (XEnd V (p, pe, pa))) := fun V => expr_any V s _ hr
  have HNM := Lib.hid (exprP_names hr)
  have HK1 := Lib.hid (namesP_text s)
  have HK2 := Lib.hid (namesP_len s)
  generalize namesP s = K at *
  clear hck h3 hr
  go_upto_region 4 with (first
      | (go_at_call 16; refine (HCK.out _ _ (below_step HV.out.bel (below_alloc _ _)) (Blk.new _ _ _)).mono ?_; rintro e w8 ⟨rfl, hb8⟩)
      | (go_at_call 7; refine (HEX.out _).mono ?_; rintro e w9 ⟨x, hx, rfl, hok, hb9⟩; replace hx := Lib.hid hx))
  obtain ⟨b7, hg7⟩ : ∃ b7, w9.heap.size = b7 := ⟨_, rfl⟩
  have H1 : Hid (C1 W #[.int .i64 t.t.kind, .int .i64 t.t.int, .string ⟨t.t.name.toArray⟩, .slice t.A t.t.items.length t.c] (w9.alloc (.cells #[.int .i64 x.t.kind, .int .i64 x.t.int, .string ⟨x.t.name.toArray⟩, .int .i64 x.t.at_, .slice x.A x.t.kids.length x.c, .slice x.B x.t.clauses.length x.d, .slice x.C x.t.body.length x.e] 29)) ∧ Blk (w9.alloc (.cells #[.int .i64 x.t.kind, .int .i64 x.t.int, .string ⟨x.t.name.toArray⟩, .int .i64 x.t.at_, .slice x.A x.t.kids.length x.c, .slice x.B x.t.clauses.length x.d, .slice x.C x.t.body.length x.e] 29)) b7 29 #[.int .i64 x.t.kind, .int .i64 x.t.int, .string ⟨x.t.name.toArray⟩, .int .i64 x.t.at_, .slice x.A x.t.kids.length x.c, .slice x.B x.t.clauses.length x.d, .slice x.C x.t.body.length x.e] ∧ x.Ok NoB (w9.alloc (.cells #[.int .i64 x.t.kind, .int .i64 x.t.int, .string ⟨x.t.name.toArray⟩, .int .i64 x.t.at_, .slice x.A x.t.kids.length x.c, .slice x.B x.t.clauses.length x.d, .slice x.C x.t.body.length x.e] 29))) := by
    rw [← hg7]
    exact ⟨((HV.out.keep (below_step (below_alloc _ _) hb8)).keep hb9).keep (below_alloc _ _), Blk.new _ _ _, (hok.move (.sub_ fun _ _ h => h.elim)).below (below_alloc _ _)⟩
  rw [hg7]
  refine wp_world (fun V => C1 W #[.int .i64 t.t.kind, .int .i64 t.t.int, .string ⟨t.t.name.toArray⟩, .slice t.A t.t.items.length t.c] V ∧ Blk V b7 29 #[.int .i64 x.t.kind, .int .i64 x.t.int, .string ⟨x.t.name.toArray⟩, .int .i64 x.t.at_, .slice x.A x.t.kids.length x.c, .slice x.B x.t.clauses.length x.d, .slice x.C x.t.body.length x.e] ∧ x.Ok NoB V) H1.out ?_
  clear H1 hg7 hok hb8 hb9 HCK HEX HV x0 x1 x2 x3 hlt1 d1
  rintro V2 ⟨hV, hB7, hok⟩
  have HV := Lib.hid hV
  have x0 := hV.x.cell 0
  have x1 := hV.x.cell 1
  have x2 := hV.x.cell 2
  have x3 := hV.x.cell 3
  have z0 := hB7.cell 0
  have z1 := hB7.cell 1
  have z2 := hB7.cell 2
  have z3 := hB7.cell 3
  have z4 := hB7.cell 4
  have z5 := hB7.cell 5
  have z6 := hB7.cell 6
  have HB7 := Lib.hid hB7
  have HOX := Lib.hid hok
  clear hV hB7 hok
  by_cases he : pe = 0
  rotate_left
  · have d1 : (pe != 0) = true := by simpa using he
    clear he
    go_wp2_with (go_at_call 6; refine (HLV.out _).mono ?_; rintro e w' ⟨rfl, hb9⟩)
    go_ret
    exact ⟨rfl, below_step HV.out.bel hb9⟩
  subst he
  have d1 : ((0 : Int) != 0) = false := by simp
  have HPX : Hid (x.t.all (fun s => s ∈ K)) := by unfold Hid; rw [hx.out]; exact HNM.out
  clear hx HNM
  have HPA : Hid (Calls Tryz.prog 17 #[.agg #[.int .i64 x.t.kind, .int .i64 x.t.int, .string ⟨x.t.name.toArray⟩, .int .i64 x.t.at_, .slice x.A x.t.kids.length x.c, .slice x.B x.t.clauses.length x.d, .slice x.C x.t.body.length x.e]] V2 fun e w' => e = .returned (.bool (patB x.t)) ∧ Below V2.heap.size V2 w') := rpat_any x.t.parts x V2 (Nat.le_refl _) HOX.out
  cases hpb : patB x.t with
  | false =>
    rw [hpb] at HPA
    go_wp2_with (first
      | (go_at_call 17; refine HPA.out.mono ?_; rintro e w8 ⟨rfl, hb8⟩)
      | (go_at_call 6; refine (HLV.out _).mono ?_; rintro e w' ⟨rfl, hb9⟩))
    go_ret
    exact ⟨rfl, below_step (below_step HV.out.bel hb8) hb9⟩
  | true =>
  rw [hpb] at HPA
  clear hpb
  go_upto_region 6 with (go_at_call 17; refine HPA.out.mono ?_; rintro e w8 ⟨rfl, hb8⟩)
  refine wp_world (fun V => C1 W #[.int .i64 t.t.kind, .int .i64 t.t.int, .string ⟨t.t.name.toArray⟩, .slice t.A t.t.items.length t.c] V ∧ Blk V b7 29 #[.int .i64 x.t.kind, .int .i64 x.t.int, .string ⟨x.t.name.toArray⟩, .int .i64 x.t.at_, .slice x.A x.t.kids.length x.c, .slice x.B x.t.clauses.length x.d, .slice x.C x.t.body.length x.e] ∧ x.Ok NoB V) ⟨HV.out.keep hb8, HB7.out.keep hb8, HOX.out.below hb8⟩ ?_
  clear HPA hb8 HV HB7 HOX x0 x1 x2 x3 z0 z1 z2 z3 z4 z5 z6
  rintro V3 ⟨hV, hB7, hok⟩
  have HV := Lib.hid hV
  have x0 := hV.x.cell 0
  have x1 := hV.x.cell 1
  have x2 := hV.x.cell 2
  have x3 := hV.x.cell 3
  have z0 := hB7.cell 0
  have z1 := hB7.cell 1
  have z2 := hB7.cell 2
  have z3 := hB7.cell 3
  have z4 := hB7.cell 4
  have z5 := hB7.cell 5
  have z6 := hB7.cell 6
  have HB7 := Lib.hid hB7
  have HOX := Lib.hid hok
  clear hV hB7 hok
  have HM : Hid (∀ V, Below W.heap.size W V → x.Ok NoB V → ∀ (E : List (BG (TE V))) (A : Option Addr) (c : Nat), RdB V A c E → (∀ q ∈ E, q.1 ∈ K) → Calls Tryz.prog 8 #[.agg #[.int .i64 x.t.kind, .int .i64 x.t.int, .string ⟨x.t.name.toArray⟩, .int .i64 x.t.at_, .slice x.A x.t.kids.length x.c, .slice x.B x.t.clauses.length x.d, .slice x.C x.t.body.length x.e], .agg #[.int .i64 t.t.kind, .int .i64 t.t.int, .string ⟨t.t.name.toArray⟩, .slice t.A t.t.items.length t.c], .slice A E.length c] V (AllEnd V (allP [x.t] [t.t] (vE E)))) := fun V hb ho E A c hE hn =>
    pmatch_any V x (t.up hb) E A c ho hE HPX.out HIT.out hn (fun s hs => Nat.le_trans (HK1.out s hs) (by omega)) (Nat.le_trans HK2.out (by omega))
  obtain ⟨R, hR⟩ : ∃ R, allP [x.t] [t.t] [] = R := ⟨_, rfl⟩
  have HR := Lib.hid hR
  have HM1 : Hid (Calls Tryz.prog 8 #[.agg #[.int .i64 x.t.kind, .int .i64 x.t.int, .string ⟨x.t.name.toArray⟩, .int .i64 x.t.at_, .slice x.A x.t.kids.length x.c, .slice x.B x.t.clauses.length x.d, .slice x.C x.t.body.length x.e], .agg #[.int .i64 t.t.kind, .int .i64 t.t.int, .string ⟨t.t.name.toArray⟩, .slice t.A t.t.items.length t.c], .slice none 0 0] V3 (AllEnd V3 R)) := by
    have := HM.out V3 HV.out.bel HOX.out [] none 0 (RdB.nil_ (Nat.zero_le _)) (by simp)
    rw [show vE ([] : List (BG (TE V3))) = [] from rfl, hR] at this
    exact this
  clear hR
  go_upto_region 7 with (go_at_call 8; refine HM1.out.mono ?_; rintro e V4 ⟨A8, c8, E8, rfl, h8, hR8, hb4⟩)
  have HE8 := Lib.hid h8
  have HR8 := Lib.hid hR8
  have HX4 := Lib.hid (HV.out.keep hb4)
  have HB4 := Lib.hid (HB7.out.keep hb4)
  have HO4 := Lib.hid (HOX.out.below hb4)
  have hlc := hR8.1
  have hlc2 := hR8.2.1
  obtain ⟨n, hn⟩ : ∃ n, E8.length = n := ⟨_, rfl⟩
  have HN := Lib.hid hn
  rw [hn] at hlc ⊢
  clear HM1 h8 hR8 hb4 hn HV HB7 HOX x0 x1 x2 x3 z0 z1 z2 z3 z4 z5 z6
  cases R with
  | none =>
    have hn0 : n = 0 := by rw [← HN.out, ← vE_len, HE8.out]; rfl
    subst hn0
    go_wp2_with (go_at_call 6; refine (HLV.out _).mono ?_; rintro e w' ⟨rfl, hb9⟩)
    go_ret
    exact ⟨rfl, below_step HX4.out.bel hb9⟩
  | some L =>
  have HEL : Hid (vE E8 = L) := HE8.out
  have HQK : Hid (∀ q ∈ E8, q.1 ∈ K) := fun q hq => by
    have hm : (q.1, q.2.t) ∈ L := by rw [← HEL.out]; exact List.mem_map.2 ⟨q, hq, rfl⟩
    exact all_names HR.out HPX.out _ hm
  have HM2 : Hid (Calls Tryz.prog 8 #[.agg #[.int .i64 x.t.kind, .int .i64 x.t.int, .string ⟨x.t.name.toArray⟩, .int .i64 x.t.at_, .slice x.A x.t.kids.length x.c, .slice x.B x.t.clauses.length x.d, .slice x.C x.t.body.length x.e], .agg #[.int .i64 t.t.kind, .int .i64 t.t.int, .string ⟨t.t.name.toArray⟩, .slice t.A t.t.items.length t.c], .slice A8 n c8] V4 (AllEnd V4 (some L))) := by
    have := HM.out V4 HX4.out.bel HO4.out E8 A8 c8 HR8.out HQK.out
    rw [HEL.out, again_all HR.out, HN.out] at this
    exact this
  have hX4 := HX4.out
  have x0 := hX4.x.cell 0
  have x1 := hX4.x.cell 1
  have x2 := hX4.x.cell 2
  have x3 := hX4.x.cell 3
  have hB4 := HB4.out
  have z0 := hB4.cell 0
  have z1 := hB4.cell 1
  have z2 := hB4.cell 2
  have z3 := hB4.cell 3
  have z4 := hB4.cell 4
  have z5 := hB4.cell 5
  have z6 := hB4.cell 6
  clear hX4 hB4 HM
  go_upto_region 10 with (go_at_call 8; refine HM2.out.mono ?_; rintro e V5 ⟨A9, c9, E9, rfl, h9, hR9, hb5⟩)
  have HRS : Hid (Calls Tryz.prog 14 #[.slice A8 n c8, .slice A9 E9.length c9] V5 fun e w' => e = .returned (.bool true) ∧ Below V5.heap.size V5 w') := by
    have := rsame_any V5 V5 (upE hb5 E8) E9 A8 A9 c8 c9 (Below.refl _ _) ((HR8.out.below hb5).up hb5) hR9
    rw [upE_len, HN.out, vE_up, HEL.out, h9, show (some L).getD [] = L from rfl, sameB_self] at this
    exact this
  have hlc9 := hR9.1
  have hlc92 := hR9.2.1
  generalize E9.length = n9 at *
  have HX5 := Lib.hid (HX4.out.keep hb5)
  have HB5 := Lib.hid (HB4.out.keep hb5)
  have HBE := Lib.hid hb5
  clear HM2 h9 hR9 hb5 x0 x1 x2 x3 z0 z1 z2 z3 z4 z5 z6
  go_upto_region 12 with (go_at_call 14; refine HRS.out.mono ?_; rintro e V6 ⟨rfl, hb6⟩)
  obtain ⟨sb, hsb⟩ : ∃ sb, V6.heap.size = sb := ⟨_, rfl⟩
  have HSB := Lib.hid hsb
  have HB6 := Lib.hid hb6
  clear HRS hb6
  go_upto_region 13 with (fail)
  have H7 : Hid (Seen V4 sb (.slice none 0 0) [] (V6.alloc (.cells #[.slice none 0 0] 47))) := by
    refine ⟨by rw [← HSB.out]; exact Blk.new _ _ _, World.ownsRow_nil _ _ _ _, below_step (below_step HBE.out HB6.out) (below_alloc _ _), ?_⟩
    have h1 := HBE.out.size
    have h2 := HB6.out.size
    have h3 := HSB.out
    omega
  refine wp_world (fun V => Seen V4 sb (.slice none 0 0) [] V) H7.out ?_
  clear H7 hsb
  intro V7 h7
  have HS7 := Lib.hid h7
  have hX7 := HX4.out
  have hB47 : Below V4.heap.size V4 V7 := h7.bel
  have HX7 := Lib.hid (HX4.out.keep hB47)
  have HB7 := Lib.hid (HB4.out.keep hB47)
  clear hX7 h7 hB47
  have x0 := HX7.out.x.cell 0
  have x1 := HX7.out.x.cell 1
  have x2 := HX7.out.x.cell 2
  have x3 := HX7.out.x.cell 3
  have z0 := HB7.out.cell 0
  have z1 := HB7.out.cell 1
  have z2 := HB7.out.cell 2
  have z3 := HB7.out.cell 3
  have z4 := HB7.out.cell 4
  have z5 := HB7.out.cell 5
  have z6 := HB7.out.cell 6
  have HBU : Hid (Calls Tryz.prog 18 #[.agg #[.int .i64 x.t.kind, .int .i64 x.t.int, .string ⟨x.t.name.toArray⟩, .int .i64 x.t.at_, .slice x.A x.t.kids.length x.c, .slice x.B x.t.clauses.length x.d, .slice x.C x.t.body.length x.e], .slice A8 n c8, .pointer (some ⟨sb, 0, none⟩)] V7 (BEnd V4 sb (.slice none 0 0) 0 V7 t.t)) := by
    obtain ⟨b1, b2, b3⟩ := back_fit HR.out
    have hEl : E8.length ≤ 2000000 := by
      have h2 : E8.length = L.length := by rw [← HEL.out, vE_len]
      have h3 := HK2.out
      have h4 : L.length ≤ K.length := by
        have h5 := HR.out
        rw [allP_one, if_pos b1] at h5
        split at h5
        · have h6 := Option.some.inj h5
          have h7 : risG L = L := by rw [← h6]; exact risG_self (risG_srt _)
          rw [← h7]
          refine risG_le (E := L) (fun q hq => ?_)
          exact all_names HR.out HPX.out q hq
        · cases h5
      omega
    have := built_any (sb := sb) E8 A8 c8 HR8.out hEl (by rw [HEL.out]; exact b3) t.t.parts t.t x V7 (.slice none 0 0) [] (Nat.le_refl _) HIT.out b1 (by rw [HEL.out]; exact b2) HO4.out HS7.out (by have := HPT.out; simp; omega)
    rw [HN.out] at this
    exact this
  clear HN
  go_upto_region 14 with (go_at_call 18; refine HBU.out.mono ?_; rintro e V8 ⟨u, ok, v8, L8, rfl, hok8, hB8, hx8⟩; have HO8 := Lib.hid hok8; have HB8 := Lib.hid hB8; have HX8 := Lib.hid hx8; clear hok8 hB8 hx8)
  refine wp_world (fun V => C1 W #[.int .i64 t.t.kind, .int .i64 t.t.int, .string ⟨t.t.name.toArray⟩, .slice t.A t.t.items.length t.c] V ∧ Blk V V8.heap.size 35 #[.int .i64 u.t.kind, .int .i64 u.t.int, .string ⟨u.t.name.toArray⟩, .slice u.A u.t.items.length u.c] ∧ RdM V u.A u.c u.t.items) ⟨HX4.out.keep (below_step HB8.out.seen.bel (below_alloc _ _)), Blk.new _ _ _, HX8.out.rd.below (below_alloc _ _)⟩ ?_
  rintro V9 ⟨hX9, hu9, hr9⟩
  have HX9 := Lib.hid hX9
  have HR9 := Lib.hid hr9
  have x0 := hX9.x.cell 0
  have x1 := hX9.x.cell 1
  have x2 := hX9.x.cell 2
  have x3 := hX9.x.cell 3
  have u0 := hu9.cell 0
  have u1 := hu9.cell 1
  have u2 := hu9.cell 2
  have u3 := hu9.cell 3
  clear hX9 hu9 hr9 z0 z1 z2 z3 z4 z5 z6 HBU
  cases ok with
  | false =>
    go_wp2_with (go_at_call 6; refine (HLV.out _).mono ?_; rintro e w' ⟨rfl, hb9⟩)
    go_ret
    exact ⟨rfl, below_step HX9.out.bel hb9⟩
  | true =>
    have HSM : Hid (Calls Tryz.prog 15 #[.agg #[.int .i64 u.t.kind, .int .i64 u.t.int, .string ⟨u.t.name.toArray⟩, .slice u.A u.t.items.length u.c], .agg #[.int .i64 t.t.kind, .int .i64 t.t.int, .string ⟨t.t.name.toArray⟩, .slice t.A t.t.items.length t.c]] V9 fun e w' => e = .returned (.bool true) ∧ Below V9.heap.size V9 w') := by
      have := tsame_any u.t t.t u.A u.c t.A t.c V9 V9 (Below.refl _ _) HR9.out (t.ok.below HX9.out.bel)
      rw [show (u.t.cmp t.t == 0) = true by rw [HO8.out rfl]; simpa using (TV.cmp_zero t.t t.t).2 rfl] at this
      exact this
    go_wp2_with (first
      | (go_at_call 15; refine HSM.out.mono ?_; rintro e w8 ⟨rfl, hb8⟩)
      | (go_at_call 6; refine (HLV.out _).mono ?_; rintro e w' ⟨rfl, hb9⟩))
    go_ret
    exact ⟨rfl, below_step (below_step HX9.out.bel hb8) hb9⟩
/-- .. in the frame's words. -/
theorem matchBack_v (s : ByteArray) (t : TV) (A : Option Addr) (c : Nat) (W : World) (hrt : RdM W A c t.items) (hnt : t.named) :
    Calls Tryz.prog 4 #[.string s, .agg #[.int .i64 t.kind, .int .i64 t.int, .string ⟨t.name.toArray⟩, .slice A t.items.length c]] W fun e w' => e = .returned (.bool true) ∧ Below W.heap.size W w' := by
  have := matchBack_any (W := W) s.data.toList ⟨t, A, c, hrt⟩ hnt
  simpa using this
end
end Go.Proofs.YtmpknhdfglbocaaGreat
