/- Layer 13: the walk of the law MatchTerms. Written by magenmt.py. -/
import Derived.Test.YtmpknhdfglbocaaGreatMaZ
import Derived.Test.YtmpknhdfglbocaaGreatMaM
import Derived.Test.YtmpknhdfglbocaaGreatMaL
import Derived.Test.YtmpknhdfglbocaaGreatMaO
import Derived.Test.YtmpknhdfglbocaaGreatOpenBd
import Derived.Test.YtmpknhdfglbocaaGreatPaV
namespace Go.Proofs.YtmpknhdfglbocaaGreat
open Go.RowKit
set_option linter.unusedVariables false
/-- What several ways end in, shown once. -/
theorem share_goal {X G : Prop} (f : G → X) (h : G) : X := f h
/-- append onto a slice just made, empty. -/
theorem wpList_fresh {P : Program} {W : World} {ops : Array Oper} {rest : List Oper} {o : Oper} {a : Act} {Q : Exit → Act → World → Prop} {t e : TypeId} {z : Value} {size bytes : Nat} (T : ElT P t e z size bytes) (hgd : Region.wanted o (yielded ops a.tmps) = true) (s x : Operand)
    (ho : o.op = .call { callee := .builtin .append, args := #[s, x], argTypes := #[t, t] }) (hs : a.eval s = .slice (some ⟨W.heap.size, 0, none⟩) 0 0) (A : Option Addr) (m c : Nat) (news : List Value) (hx : a.eval x = .slice A m c) (hl : news.length = m * size) (hnews : Cs W A news)
    (h1 : ∀ u ∈ news, u.oneCell' = true) (h63 : m ≤ maxLen) (hbytes : m * bytes ≤ 140737488355328)
    (h : ∀ A' c' w', w'.ownsRow W.heap.size e size (.slice A' m c') m news → Below W.heap.size W w' → wpList P ops Q rest (a.put o.dst (.slice A' m c')) w') :
    wpList P ops Q (o :: rest) a (W.alloc (.cells #[] e)) := by
  refine wpList_appG T hgd s x ho W.heap.size _ 0 [] hs (own_made W.heap.size e size (Nat.le_refl _)) A m c news hx hl (csB_below hnews (below_alloc _ _)) h1 (by rw [Nat.zero_add]; exact h63) (by rw [Nat.zero_add]; exact hbytes) (by simp) ?_
  intro v' w' ho' hg' _
  rw [Nat.zero_add, List.nil_append] at ho'
  obtain ⟨A', c', rfl⟩ := own_shape ho'
  exact h A' c' w' ho' ((below_alloc W _).grown hg' (by simp) (fun j hj => (World.ownsRow.lt (own_made W.heap.size e size (Nat.le_refl _)) j hj).1))
theorem rdn_te {W : World} {A : Option Addr} {c : Nat} {l : List ND} (h : RdN NoB W A c l) : ∃ xs : List EN, xs.map (·.t) = l ∧ (∀ x ∈ xs, x.Ok NoB W) ∧ Cs W A (enL xs) := by
  rcases h.2.2 with rfl | ⟨b, o, hA, _, hr⟩
  · exact ⟨[], rfl, fun x hx => by simp at hx, .inl rfl⟩
  · obtain ⟨xs, h1, h2, h3⟩ := (nd_row _ _ _).1 hr
    exact ⟨xs, h1, h2, .inr ⟨_, hA, fun j u hj => by rw [Addr.add_lit]; exact h3 j u hj⟩⟩
theorem rdn_ofX {V : World} {base n cap : Nat} {A : Option Addr} {xs : List EN} (ho : V.ownsRow base 29 7 (.slice A n cap) n (enL xs)) (hn : xs.length = n) (hx : ∀ x ∈ xs, x.Ok NoB V) : RdN NoB V A cap (xs.map (·.t)) := by
  rcases ho.2 with ⟨hv, hz⟩ | ⟨g, cap', cur, hv, _, hg, hnc, hcm, _, _⟩
  · obtain ⟨rfl, h0, rfl⟩ := Value.slice.inj hv
    obtain rfl : xs = [] := List.eq_nil_of_length_eq_zero (by omega)
    exact RdN.nil_ _ _ _ (by omega)
  · obtain ⟨rfl, _, rfl⟩ := Value.slice.inj hv
    refine ⟨by simp; omega, by unfold maxLen at hcm; omega, .inr ⟨g, 0, rfl, fun h => h, (nd_row _ _ _).2 ⟨xs, rfl, hx, fun j u hu => ?_⟩⟩⟩
    have := ho.cells (g := g) rfl j u hu
    rwa [Addr.add_lit] at this
section
variable {W : World}
set_option maxRecDepth 100000 in
set_option maxHeartbeats 8000000 in
theorem matchTerms_any (s nm : List UInt8) (l : List TV) (B : Option Addr) (d : Nat) (hl : RdM W B d l) (hnl : TV.namedL l) (E : List (BG (TE W))) (D : Option Addr) (e : Nat) (hE : RdB W D e E) (hne : ∀ q ∈ E, q.1.length ≤ 140737488351232 ∧ q.2.t.named) :
    Calls Tryz.prog 3 #[.string ⟨s.toArray⟩, .slice B l.length d, .slice D E.length e, .string ⟨nm.toArray⟩] W fun e w' => e = .returned (.bool true) ∧ Below W.heap.size W w' := by
  have HLV := Lib.hid live_any
  have HSM := Lib.hid (smallM_any W E D e l B d (Below.refl _ _) hE hl hne hnl)
  have hld := hl.1
  have hld2 := hl.2.1
  have hle := hE.1
  have hle2 := hE.2.1
  have HL := Lib.hid hl
  have HE := Lib.hid hE
  obtain ⟨nl, hnl2⟩ : ∃ nl, l.length = nl := ⟨_, rfl⟩
  obtain ⟨ne, hne2⟩ : ∃ ne, E.length = ne := ⟨_, rfl⟩
  have HNL := Lib.hid hnl2
  have HNE := Lib.hid hne2
  rw [hnl2] at hld HSM ⊢
  rw [hne2] at hle HSM ⊢
  clear hl hE hne hnl hnl2 hne2
  by_cases h3 : 3000 < s.length
  · have d1 : decide ((3000 : Int) < (s.length : Int)) = true := by simp; omega
    clear h3
    go_enter Tryz.func3, Tryz.ntmps3
    go_wp2_with (go_at_call 6; refine (HLV.out _).mono ?_; rintro r w' ⟨rfl, hb9⟩)
    go_ret
    exact ⟨rfl, hb9⟩
  have d1 : decide ((3000 : Int) < (s.length : Int)) = false := by simp; omega
  by_cases h4 : 3000 < nm.length
  · have d2 : decide ((3000 : Int) < (nm.length : Int)) = true := by simp; omega
    clear h4 h3
    go_enter Tryz.func3, Tryz.ntmps3
    go_wp2_with (go_at_call 6; refine (HLV.out _).mono ?_; rintro r w' ⟨rfl, hb9⟩)
    go_ret
    exact ⟨rfl, hb9⟩
  have d2 : decide ((3000 : Int) < (nm.length : Int)) = false := by simp; omega
  clear h3 h4
  cases hsm : smallB (vE E) l with
  | false =>
    rw [hsm] at HSM
    go_enter Tryz.func3, Tryz.ntmps3
    go_wp2_with (first
      | (go_at_call 5; refine HSM.out.mono ?_; rintro r w8 ⟨rfl, hb8⟩)
      | (go_at_call 6; refine (HLV.out _).mono ?_; rintro r w' ⟨rfl, hb9⟩))
    go_ret
    exact ⟨rfl, below_step hb8 hb9⟩
  | true =>
  rw [hsm] at HSM
  obtain ⟨s1, s2, s3, s4, s5⟩ := small_yes hsm
  clear hsm
  by_cases hl0 : nl = 0
  · have d3 : ((nl : Int) == 0) = true := by subst hl0; rfl
    clear hl0 s1 s2 s3 s4 s5
    go_enter Tryz.func3, Tryz.ntmps3
    go_wp2_with (first
      | (go_at_call 5; refine HSM.out.mono ?_; rintro r w8 ⟨rfl, hb8⟩)
      | (go_at_call 6; refine (HLV.out _).mono ?_; rintro r w' ⟨rfl, hb9⟩))
    go_ret
    exact ⟨rfl, below_step hb8 hb9⟩
  have d3 : ((nl : Int) == 0) = false := by
    exact beq_eq_false_iff_ne.2 (by omega)
  -- the names that may come up
  obtain ⟨K, hK⟩ : ∃ K : List (List UInt8), K = E.map (·.1) ++ namesP s := ⟨_, rfl⟩
  have HKE : Hid (∀ q ∈ E, q.1 ∈ K) := fun q hq => by rw [hK]; exact List.mem_append_left _ (List.mem_map_of_mem hq)
  have HKP : Hid (∀ w ∈ namesP s, w ∈ K) := fun w hw => by rw [hK]; exact List.mem_append_right _ hw
  have HK1 : Hid (∀ s ∈ K, s.length ≤ 1000000) := fun p hs => by
    rw [hK] at hs
    rcases List.mem_append.1 hs with hs | hs
    · obtain ⟨q, hq, rfl⟩ := List.mem_map.1 hs
      have := s3 (q.1, q.2.t) (List.mem_map.2 ⟨q, hq, rfl⟩)
      simp only at this
      omega
    · have := namesP_text s p hs
      omega
  have HK2 : Hid (K.length ≤ 1000000) := by
    unfold Hid
    rw [hK, List.length_append, List.length_map]
    have h1 := namesP_len s
    rw [vE_len] at s1
    omega
  have HLM : Hid (LimN K ((vE E).map (·.1))) := ⟨(vE E).map (·.1), [], by simp, by rw [List.length_map]; omega, List.nodup_nil, by simp⟩
  have hne100 : ne ≤ 100 := by rw [vE_len, HNE.out] at s1; exact s1
  have hnl100 : nl ≤ 100 := by rw [HNL.out] at s2; exact s2
  have HS5 := Lib.hid s5
  clear hK s1 s2 s3 s4 s5
  obtain ⟨⟨p, pe, pa⟩, hr⟩ := exprP_has s
  have HEX : Hid (∀ V, Calls Tryz.prog 7 #[.string ⟨s.toArray⟩] V (XEnd V (p, pe, pa))) := fun V => expr_any V s _ hr
  have HNM := Lib.hid (ND.all_mono HKP.out _ (exprP_names hr))
  have HFW := Lib.hid (exprP_few hr)
  clear hr
  go_enter Tryz.func3, Tryz.ntmps3
  go_upto_region 4 with (first
    | (go_at_call 5; refine HSM.out.mono ?_; rintro r w8 ⟨rfl, hb8⟩)
    | (go_at_call 7; refine (HEX.out _).mono ?_; rintro e w9 ⟨x, hx, rfl, hok, hb9⟩; replace hx := Lib.hid hx))
  obtain ⟨b9, hg9⟩ : ∃ b9, w9.heap.size = b9 := ⟨_, rfl⟩
  have H1 : Hid (Below W.heap.size W (w9.alloc (.cells #[.int .i64 x.t.kind, .int .i64 x.t.int, .string ⟨x.t.name.toArray⟩, .int .i64 x.t.at_, .slice x.A x.t.kids.length x.c, .slice x.B x.t.clauses.length x.d, .slice x.C x.t.body.length x.e] 29)) ∧ Blk (w9.alloc (.cells #[.int .i64 x.t.kind, .int .i64 x.t.int, .string ⟨x.t.name.toArray⟩, .int .i64 x.t.at_, .slice x.A x.t.kids.length x.c, .slice x.B x.t.clauses.length x.d, .slice x.C x.t.body.length x.e] 29)) b9 29 #[.int .i64 x.t.kind, .int .i64 x.t.int, .string ⟨x.t.name.toArray⟩, .int .i64 x.t.at_, .slice x.A x.t.kids.length x.c, .slice x.B x.t.clauses.length x.d, .slice x.C x.t.body.length x.e] ∧ x.Ok NoB (w9.alloc (.cells #[.int .i64 x.t.kind, .int .i64 x.t.int, .string ⟨x.t.name.toArray⟩, .int .i64 x.t.at_, .slice x.A x.t.kids.length x.c, .slice x.B x.t.clauses.length x.d, .slice x.C x.t.body.length x.e] 29))) := by
    rw [← hg9]
    exact ⟨below_step (below_step hb8 hb9) (below_alloc _ _), Blk.new _ _ _, (hok.move (.sub_ fun _ _ h => h.elim)).below (below_alloc _ _)⟩
  rw [hg9]
  refine wp_world (fun V => Below W.heap.size W V ∧ Blk V b9 29 #[.int .i64 x.t.kind, .int .i64 x.t.int, .string ⟨x.t.name.toArray⟩, .int .i64 x.t.at_, .slice x.A x.t.kids.length x.c, .slice x.B x.t.clauses.length x.d, .slice x.C x.t.body.length x.e] ∧ x.Ok NoB V) H1.out ?_
  clear H1 hg9 hok hb8 hb9 HEX HSM d1 d2 d3
  rintro w1 ⟨hb1, hB1, hok1⟩
  have HB1 := Lib.hid hb1
  have HX1 := Lib.hid hB1
  have HO1 := Lib.hid hok1
  clear hb1 hB1 hok1
  by_cases he : pe = 0
  rotate_left
  · have d4 : (pe != 0) = true := by simpa using he
    clear he
    go_wp2_with (go_at_call 6; refine (HLV.out _).mono ?_; rintro r w' ⟨rfl, hb9⟩)
    go_ret
    exact ⟨rfl, below_step HB1.out hb9⟩
  subst he
  have d4 : ((0 : Int) != 0) = false := by simp
  -- the term that stands first
  have hl00 : 0 < l.length := by rw [HNL.out]; omega
  obtain ⟨b2, o2, A2, c2, rfl, f0, f1, f2, f3, hR2⟩ := HL.out.item hl00
  rw [Nat.zero_mul, Nat.add_zero] at f0 f1 f2 f3
  have HT0 : Hid (l[0].isT = true) := by
    unfold Hid
    cases hi : l[0].isT with
    | true => rfl
    | false => have := isL_no l 0 hl00 hi; rw [HS5.out] at this; cases this
  have HTT : Hid (∀ U, Below w1.heap.size w1 U → U.cell? ⟨b2, o2, none⟩ = some (.int .i64 l[0].kind) ∧ U.cell? ⟨b2, o2 + 1, none⟩ = some (.int .i64 l[0].int) ∧ U.cell? ⟨b2, o2 + 2, none⟩ = some (.string ⟨l[0].name.toArray⟩) ∧ U.cell? ⟨b2, o2 + 3, none⟩ = some (.slice A2 l[0].items.length c2)) := by
    have hk : ∀ {ad : Addr} {v : Value}, W.cell? ad = some v → ∀ U, Below w1.heap.size w1 U → U.cell? ad = some v := fun h U hu => ((below_step HB1.out hu).cell (World.block_lt_of_cell? W _ h)).trans h
    exact fun U hu => ⟨hk f0 U hu, hk f1 U hu, hk f2 U hu, hk f3 U hu⟩
  have HRT := Lib.hid hR2
  generalize l[0] = tt at *
  clear f0 f1 f2 f3 hR2 hl00
  have HXC : Hid (∀ U, Below w1.heap.size w1 U → Blk U b9 29 #[.int .i64 x.t.kind, .int .i64 x.t.int, .string ⟨x.t.name.toArray⟩, .int .i64 x.t.at_, .slice x.A x.t.kids.length x.c, .slice x.B x.t.clauses.length x.d, .slice x.C x.t.body.length x.e]) := fun U hu => HX1.out.keep hu
  have HM : Hid (∀ V A' c', Below w1.heap.size w1 V → RdB V A' c' E → Calls Tryz.prog 8 #[.agg #[.int .i64 x.t.kind, .int .i64 x.t.int, .string ⟨x.t.name.toArray⟩, .int .i64 x.t.at_, .slice x.A x.t.kids.length x.c, .slice x.B x.t.clauses.length x.d, .slice x.C x.t.body.length x.e], .agg #[.int .i64 tt.kind, .int .i64 tt.int, .string ⟨tt.name.toArray⟩, .slice A2 tt.items.length c2], .slice A' ne c'] V (AllEnd V (allP [x.t] [tt] (vE E)))) := fun V A' c' hb hB => by
    have hW := below_step HB1.out hb
    have := pmatch_any (K := K) V x ⟨tt, A2, c2, HRT.out.below hW⟩ (upE hW E) A' c' (HO1.out.below hb) (hB.up hW) (by rw [hx.out]; exact HNM.out) HT0.out (upE_names hW HKE.out) HK1.out HK2.out
    rw [upE_len, vE_up, HNE.out] at this
    exact this
  have HRM : Hid (∀ V, Below w1.heap.size w1 V → Calls Tryz.prog 9 #[.agg #[.int .i64 x.t.kind, .int .i64 x.t.int, .string ⟨x.t.name.toArray⟩, .int .i64 x.t.at_, .slice x.A x.t.kids.length x.c, .slice x.B x.t.clauses.length x.d, .slice x.C x.t.body.length x.e], .agg #[.int .i64 tt.kind, .int .i64 tt.int, .string ⟨tt.name.toArray⟩, .slice A2 tt.items.length c2], .slice D ne e] V (RAEnd V (allP [x.t] [tt] (vE E)))) := fun V hb => by
    have hW := below_step HB1.out hb
    have := rMatch_any HK2.out V x ⟨tt, A2, c2, HRT.out.below hW⟩ (upE hW E) D e (HO1.out.below hb) (by rw [hx.out]; exact HNM.out) ((HE.out.below hW).up hW) (by rw [vE_up]; exact HLM.out)
    rw [upE_len, vE_up, HNE.out] at this
    exact this
  have q1 : (0 : Int) < (nl : Int) := by omega
  have q0 : 0 < nl := by omega
  go_upto_region 6 with (fail)
  clear d4
  obtain ⟨R1, hR1⟩ : ∃ R, allP [x.t] [tt] (vE E) = R := ⟨_, rfl⟩
  rw [hR1] at HM HRM
  clear hR1
  have HEL : Hid ((bL E).length = ne * 5) := by unfold Hid; rw [← HNE.out]; exact flat_len bc_len E
  have HCE : Hid (∀ U, Below w1.heap.size w1 U → Cs U D (bL E)) := fun U hu => csB_below HE.out.cs (below_step HB1.out hu)
  refine wp_region_W 7 (fun U => Below w1.heap.size w1 U) (by kernel_rfl) ?_ (fun hS0 => ?_)
  · exact (Below.refl _ _).drew
  (refine wpAnyW_take (i := 0) (v := ?_) rfl (by kernel_rfl) (by kernel_rfl) (by kernel_rfl) (by kernel_rfl) (fun _ _ _ h => h) (Or.inl ⟨by kernel_rfl, ?_⟩) (by assumption) ?_; rotate_left; focus (intro V9 hS9; have h := HXC.out V9 hS9; have x0 := h.cell 0; have x1 := h.cell 1; have x2 := h.cell 2; have x3 := h.cell 3; have x4 := h.cell 4; have x5 := h.cell 5; have x6 := h.cell 6; clear h; go_simp; (try (with_reducible rfl)); done))
  try simp only [Act.put, List.getElem_toArray, List.getElem_cons_zero, List.setIfInBounds_toArray, List.set_cons_succ, List.set_cons_zero]
  (refine wpAnyW_take (i := 1) (v := ?_) rfl (by kernel_rfl) (by kernel_rfl) (by kernel_rfl) (by kernel_rfl) (fun _ _ _ h => h) (Or.inl ⟨by kernel_rfl, ?_⟩) (by assumption) ?_; rotate_left; focus (intro V9 hS9; go_simp; (try (with_reducible rfl)); done))
  try simp only [Act.put, List.getElem_toArray, List.getElem_cons_succ, List.getElem_cons_zero, List.setIfInBounds_toArray, List.set_cons_succ, List.set_cons_zero]
  (refine wpAnyW_take (i := 2) (v := ?_) rfl (by kernel_rfl) (by kernel_rfl) (by kernel_rfl) (by kernel_rfl) (fun _ _ _ h => h) (Or.inl ⟨by kernel_rfl, ?_⟩) (by assumption) ?_; rotate_left; focus (intro V9 hS9; go_simp; (try (with_reducible rfl)); done))
  try simp only [Act.put, List.getElem_toArray, List.getElem_cons_succ, List.getElem_cons_zero, List.setIfInBounds_toArray, List.set_cons_succ, List.set_cons_zero]
  (refine wpAnyW_take (i := 3) (v := ?_) rfl (by kernel_rfl) (by kernel_rfl) (by kernel_rfl) (by kernel_rfl) (fun _ _ _ h => h) (Or.inl ⟨by kernel_rfl, ?_⟩) (by assumption) ?_; rotate_left; focus (intro V9 hS9; obtain ⟨g0, g1, g2, g3⟩ := HTT.out V9 hS9; go_simp; (try (with_reducible rfl)); done))
  try simp only [Act.put, List.getElem_toArray, List.getElem_cons_succ, List.getElem_cons_zero, List.setIfInBounds_toArray, List.set_cons_succ, List.set_cons_zero]
  (refine wpAnyW_take (i := 5) (v := ?_) rfl (by kernel_rfl) (by kernel_rfl) (by kernel_rfl) (by kernel_rfl) (fun _ _ _ h => h) (Or.inl ⟨by kernel_rfl, ?_⟩) (by assumption) ?_; rotate_left; focus (intro V9 hS9; go_simp; (try (with_reducible rfl)); done))
  try simp only [Act.put, List.getElem_toArray, List.getElem_cons_succ, List.getElem_cons_zero, List.setIfInBounds_toArray, List.set_cons_succ, List.set_cons_zero]
  refine wpAnyW_world (fun V => Below w1.heap.size w1 V) hS0 ?_
  rintro V5 hb5
  refine wpAnyW_ready (rs := [4]) (by kernel_rfl) (by simp) ?_
  refine AllReadyW.cons rfl (fun K hK => ?_) AllReadyW.nil
  go_simp
  refine hK.out _ _ (below_step hb5 (below_alloc _ _)) (fun _ => ?_)
  clear hK K
  try simp only [Act.put, List.getElem_toArray, List.getElem_cons_succ, List.getElem_cons_zero, List.setIfInBounds_toArray, List.set_cons_succ, List.set_cons_zero]
  refine wpAnyW_world (fun V => Below w1.heap.size w1 V ∧ V.ownsRow w1.heap.size 52 5 (.slice (some ⟨V5.heap.size, 0, none⟩) 0 0) 0 []) ⟨below_step hb5 (below_alloc _ _), own_made w1.heap.size 52 5 (Below.size hb5)⟩ ?_
  rintro V6 ⟨hb6, ho6⟩
  refine wpAnyW_ready (rs := [6]) (by kernel_rfl) (by simp) ?_
  refine AllReadyW.cons rfl (fun K hK => ?_) AllReadyW.nil
  refine step_appO bindT (by kernel_rfl) (.tmp 58) (.tmp 59) rfl w1.heap.size 0 [] _ ho6 D ne e (bL E) (by rfl) (by rfl) HEL.out (HCE.out _ hb6) (flat_one' bc_one _) (by unfold maxLen; omega) (by omega) (Below.size hb6) ?_
  intro v1 V7 ho7 hg7 _
  have hb7 : Below w1.heap.size w1 V7 := hb6.grown hg7 (Below.size hb6) (fun j hj => (World.ownsRow.lt ho6 j hj).1)
  refine hK.out _ _ hb7 (fun _ => ?_)
  clear hK K
  rw [Nat.zero_add, List.nil_append] at ho7
  obtain ⟨A7, c7, rfl⟩ := own_shape ho7
  try simp only [Act.put, List.getElem_toArray, List.getElem_cons_succ, List.getElem_cons_zero, List.setIfInBounds_toArray, List.set_cons_succ, List.set_cons_zero]
  refine wpAnyW_ready (rs := [7]) (by kernel_rfl) (by simp) ?_
  refine AllReadyW.consE rfl (by kernel_rfl) (fun K hK => ?_) AllReadyW.nil
  go_simp
  refine (HM.out V7 A7 c7 hb7 (rdb_of_own ho7 HNE.out)).mono ?_
  rintro r V8 ⟨A8, c8, E8, rfl, h8, hR8, hb8⟩
  refine hK.out _ _ ?_
  clear hK K
  try simp only [Act.put, List.getElem_toArray, List.getElem_cons_succ, List.getElem_cons_zero, List.setIfInBounds_toArray, List.set_cons_succ, List.set_cons_zero]
  refine wpAnyW_ready (rs := [8]) (by kernel_rfl) (by simp) ?_
  refine AllReadyW.consE rfl (by kernel_rfl) (fun K hK => ?_) AllReadyW.nil
  go_simp
  refine hK.out _ _ ?_
  clear hK K
  try simp only [Act.put, List.getElem_toArray, List.getElem_cons_succ, List.getElem_cons_zero, List.setIfInBounds_toArray, List.set_cons_succ, List.set_cons_zero]
  apply share_goal
  case f =>
    intro HQ
    refine wpAnyW_ready (rs := [9, 10]) (by kernel_rfl) (by simp) ?_
    refine AllReadyW.consE rfl (by kernel_rfl) (fun K hK => ?_) (AllReadyW.consE rfl (by kernel_rfl) (fun K hK => ?_) AllReadyW.nil)
    · go_simp
      refine hK.out _ _ ?_
      clear hK K
      try simp only [Act.put, List.getElem_toArray, List.getElem_cons_succ, List.getElem_cons_zero, List.setIfInBounds_toArray, List.set_cons_succ, List.set_cons_zero]
      refine wpAnyW_ready (rs := [10, 11]) (by kernel_rfl) (by simp) ?_
      refine AllReadyW.consE rfl (by kernel_rfl) (fun K hK => ?_) (AllReadyW.consE rfl (by kernel_rfl) (fun K hK => ?_) AllReadyW.nil)
      · go_simp
        refine hK.out _ _ ?_
        clear hK K
        try simp only [Act.put, List.getElem_toArray, List.getElem_cons_succ, List.getElem_cons_zero, List.setIfInBounds_toArray, List.set_cons_succ, List.set_cons_zero]
        refine wpAnyW_ready (rs := [11]) (by kernel_rfl) (by simp) ?_
        refine AllReadyW.consE rfl (by kernel_rfl) (fun K hK => ?_) AllReadyW.nil
        go_simp
        refine hK.out _ _ ?_
        clear hK K
        try simp only [Act.put, List.getElem_toArray, List.getElem_cons_succ, List.getElem_cons_zero, List.setIfInBounds_toArray, List.set_cons_succ, List.set_cons_zero]
        refine wpAnyW_ready (rs := [12]) (by kernel_rfl) (by simp) ?_
        refine AllReadyW.consE rfl (by kernel_rfl) (fun K hK => ?_) AllReadyW.nil
        go_simp
        refine hK.out _ _ ?_
        clear hK K
        try simp only [Act.put, List.getElem_toArray, List.getElem_cons_succ, List.getElem_cons_zero, List.setIfInBounds_toArray, List.set_cons_succ, List.set_cons_zero]
        refine wpAnyW_done (by kernel_rfl) ?_ _
        exact HQ
      · go_simp
        refine hK.out _ _ ?_
        clear hK K
        try simp only [Act.put, List.getElem_toArray, List.getElem_cons_succ, List.getElem_cons_zero, List.setIfInBounds_toArray, List.set_cons_succ, List.set_cons_zero]
        refine wpAnyW_ready (rs := [10]) (by kernel_rfl) (by simp) ?_
        refine AllReadyW.consE rfl (by kernel_rfl) (fun K hK => ?_) AllReadyW.nil
        go_simp
        refine hK.out _ _ ?_
        clear hK K
        try simp only [Act.put, List.getElem_toArray, List.getElem_cons_succ, List.getElem_cons_zero, List.setIfInBounds_toArray, List.set_cons_succ, List.set_cons_zero]
        refine wpAnyW_ready (rs := [12]) (by kernel_rfl) (by simp) ?_
        refine AllReadyW.consE rfl (by kernel_rfl) (fun K hK => ?_) AllReadyW.nil
        go_simp
        refine hK.out _ _ ?_
        clear hK K
        try simp only [Act.put, List.getElem_toArray, List.getElem_cons_succ, List.getElem_cons_zero, List.setIfInBounds_toArray, List.set_cons_succ, List.set_cons_zero]
        refine wpAnyW_done (by kernel_rfl) ?_ _
        exact HQ
    · go_simp
      refine hK.out _ _ ?_
      clear hK K
      try simp only [Act.put, List.getElem_toArray, List.getElem_cons_succ, List.getElem_cons_zero, List.setIfInBounds_toArray, List.set_cons_succ, List.set_cons_zero]
      refine wpAnyW_ready (rs := [9]) (by kernel_rfl) (by simp) ?_
      refine AllReadyW.consE rfl (by kernel_rfl) (fun K hK => ?_) AllReadyW.nil
      go_simp
      refine hK.out _ _ ?_
      clear hK K
      try simp only [Act.put, List.getElem_toArray, List.getElem_cons_succ, List.getElem_cons_zero, List.setIfInBounds_toArray, List.set_cons_succ, List.set_cons_zero]
      refine wpAnyW_ready (rs := [11]) (by kernel_rfl) (by simp) ?_
      refine AllReadyW.consE rfl (by kernel_rfl) (fun K hK => ?_) AllReadyW.nil
      go_simp
      refine hK.out _ _ ?_
      clear hK K
      try simp only [Act.put, List.getElem_toArray, List.getElem_cons_succ, List.getElem_cons_zero, List.setIfInBounds_toArray, List.set_cons_succ, List.set_cons_zero]
      refine wpAnyW_ready (rs := [12]) (by kernel_rfl) (by simp) ?_
      refine AllReadyW.consE rfl (by kernel_rfl) (fun K hK => ?_) AllReadyW.nil
      go_simp
      refine hK.out _ _ ?_
      clear hK K
      try simp only [Act.put, List.getElem_toArray, List.getElem_cons_succ, List.getElem_cons_zero, List.setIfInBounds_toArray, List.set_cons_succ, List.set_cons_zero]
      refine wpAnyW_done (by kernel_rfl) ?_ _
      exact HQ
  case h =>
    have HB8 := Lib.hid (below_step hb7 hb8)
    have H8 := Lib.hid h8
    have HR8 := Lib.hid hR8
    clear hb5 hb6 ho6 hg7 hb7 ho7 hb8 h8 hR8 HEL HCE HM
    obtain ⟨n8, hn8⟩ : ∃ n, E8.length = n := ⟨_, rfl⟩
    have HN8 := Lib.hid hn8
    rw [hn8]
    clear hn8
    go_upto_region 7 with (fail)
    refine wp_region_W 5 (fun U => Below V8.heap.size V8 U) (by kernel_rfl) ?_ (fun hS0 => ?_)
    · exact (Below.refl _ _).drew
    (refine wpAnyW_take (i := 0) (v := ?_) rfl (by kernel_rfl) (by kernel_rfl) (by kernel_rfl) (by kernel_rfl) (fun _ _ _ h => h) (Or.inl ⟨by kernel_rfl, ?_⟩) (by assumption) ?_; rotate_left; focus (intro V9 hS9; have h := HXC.out V9 (below_step HB8.out hS9); have x0 := h.cell 0; have x1 := h.cell 1; have x2 := h.cell 2; have x3 := h.cell 3; have x4 := h.cell 4; have x5 := h.cell 5; have x6 := h.cell 6; clear h; go_simp; (try (with_reducible rfl)); done))
    try simp only [Act.put, List.getElem_toArray, List.getElem_cons_zero, List.setIfInBounds_toArray, List.set_cons_succ, List.set_cons_zero]
    (refine wpAnyW_take (i := 1) (v := ?_) rfl (by kernel_rfl) (by kernel_rfl) (by kernel_rfl) (by kernel_rfl) (fun _ _ _ h => h) (Or.inl ⟨by kernel_rfl, ?_⟩) (by assumption) ?_; rotate_left; focus (intro V9 hS9; go_simp; (try (with_reducible rfl)); done))
    try simp only [Act.put, List.getElem_toArray, List.getElem_cons_succ, List.getElem_cons_zero, List.setIfInBounds_toArray, List.set_cons_succ, List.set_cons_zero]
    (refine wpAnyW_take (i := 2) (v := ?_) rfl (by kernel_rfl) (by kernel_rfl) (by kernel_rfl) (by kernel_rfl) (fun _ _ _ h => h) (Or.inl ⟨by kernel_rfl, ?_⟩) (by assumption) ?_; rotate_left; focus (intro V9 hS9; go_simp; (try (with_reducible rfl)); done))
    try simp only [Act.put, List.getElem_toArray, List.getElem_cons_succ, List.getElem_cons_zero, List.setIfInBounds_toArray, List.set_cons_succ, List.set_cons_zero]
    (refine wpAnyW_take (i := 3) (v := ?_) rfl (by kernel_rfl) (by kernel_rfl) (by kernel_rfl) (by kernel_rfl) (fun _ _ _ h => h) (Or.inl ⟨by kernel_rfl, ?_⟩) (by assumption) ?_; rotate_left; focus (intro V9 hS9; obtain ⟨g0, g1, g2, g3⟩ := HTT.out V9 (below_step HB8.out hS9); go_simp; (try (with_reducible rfl)); done))
    try simp only [Act.put, List.getElem_toArray, List.getElem_cons_succ, List.getElem_cons_zero, List.setIfInBounds_toArray, List.set_cons_succ, List.set_cons_zero]
    (refine wpAnyW_take (i := 4) (v := ?_) rfl (by kernel_rfl) (by kernel_rfl) (by kernel_rfl) (by kernel_rfl) (fun _ _ _ h => h) (Or.inl ⟨by kernel_rfl, ?_⟩) (by assumption) ?_; rotate_left; focus (intro V9 hS9; go_simp; (try (with_reducible rfl)); done))
    try simp only [Act.put, List.getElem_toArray, List.getElem_cons_succ, List.getElem_cons_zero, List.setIfInBounds_toArray, List.set_cons_succ, List.set_cons_zero]
    refine wpAnyW_world (fun V => Below V8.heap.size V8 V) hS0 ?_
    rintro V10 hb10
    refine wpAnyW_ready (rs := [5]) (by kernel_rfl) (by simp) ?_
    refine AllReadyW.consE rfl (by kernel_rfl) (fun K hK => ?_) AllReadyW.nil
    go_simp
    refine (HRM.out V10 (below_step HB8.out hb10)).mono ?_
    rintro r V11 ⟨A11, c11, E11, rfl, h11, hR11, hb11⟩
    refine hK.out _ _ ?_
    clear hK K
    try simp only [Act.put, List.getElem_toArray, List.getElem_cons_succ, List.getElem_cons_zero, List.setIfInBounds_toArray, List.set_cons_succ, List.set_cons_zero]
    refine wpAnyW_ready (rs := [6]) (by kernel_rfl) (by simp) ?_
    refine AllReadyW.consE rfl (by kernel_rfl) (fun K hK => ?_) AllReadyW.nil
    go_simp
    refine hK.out _ _ ?_
    clear hK K
    try simp only [Act.put, List.getElem_toArray, List.getElem_cons_succ, List.getElem_cons_zero, List.setIfInBounds_toArray, List.set_cons_succ, List.set_cons_zero]
    apply share_goal
    case f =>
      intro HQ
      refine wpAnyW_ready (rs := [7, 8]) (by kernel_rfl) (by simp) ?_
      refine AllReadyW.consE rfl (by kernel_rfl) (fun K hK => ?_) (AllReadyW.consE rfl (by kernel_rfl) (fun K hK => ?_) AllReadyW.nil)
      · go_simp
        refine hK.out _ _ ?_
        clear hK K
        try simp only [Act.put, List.getElem_toArray, List.getElem_cons_succ, List.getElem_cons_zero, List.setIfInBounds_toArray, List.set_cons_succ, List.set_cons_zero]
        refine wpAnyW_ready (rs := [8, 9]) (by kernel_rfl) (by simp) ?_
        refine AllReadyW.consE rfl (by kernel_rfl) (fun K hK => ?_) (AllReadyW.consE rfl (by kernel_rfl) (fun K hK => ?_) AllReadyW.nil)
        · go_simp
          refine hK.out _ _ ?_
          clear hK K
          try simp only [Act.put, List.getElem_toArray, List.getElem_cons_succ, List.getElem_cons_zero, List.setIfInBounds_toArray, List.set_cons_succ, List.set_cons_zero]
          refine wpAnyW_ready (rs := [9]) (by kernel_rfl) (by simp) ?_
          refine AllReadyW.consE rfl (by kernel_rfl) (fun K hK => ?_) AllReadyW.nil
          go_simp
          refine hK.out _ _ ?_
          clear hK K
          try simp only [Act.put, List.getElem_toArray, List.getElem_cons_succ, List.getElem_cons_zero, List.setIfInBounds_toArray, List.set_cons_succ, List.set_cons_zero]
          refine wpAnyW_ready (rs := [10]) (by kernel_rfl) (by simp) ?_
          refine AllReadyW.consE rfl (by kernel_rfl) (fun K hK => ?_) AllReadyW.nil
          go_simp
          refine hK.out _ _ ?_
          clear hK K
          try simp only [Act.put, List.getElem_toArray, List.getElem_cons_succ, List.getElem_cons_zero, List.setIfInBounds_toArray, List.set_cons_succ, List.set_cons_zero]
          refine wpAnyW_done (by kernel_rfl) ?_ _
          exact HQ
        · go_simp
          refine hK.out _ _ ?_
          clear hK K
          try simp only [Act.put, List.getElem_toArray, List.getElem_cons_succ, List.getElem_cons_zero, List.setIfInBounds_toArray, List.set_cons_succ, List.set_cons_zero]
          refine wpAnyW_ready (rs := [8]) (by kernel_rfl) (by simp) ?_
          refine AllReadyW.consE rfl (by kernel_rfl) (fun K hK => ?_) AllReadyW.nil
          go_simp
          refine hK.out _ _ ?_
          clear hK K
          try simp only [Act.put, List.getElem_toArray, List.getElem_cons_succ, List.getElem_cons_zero, List.setIfInBounds_toArray, List.set_cons_succ, List.set_cons_zero]
          refine wpAnyW_ready (rs := [10]) (by kernel_rfl) (by simp) ?_
          refine AllReadyW.consE rfl (by kernel_rfl) (fun K hK => ?_) AllReadyW.nil
          go_simp
          refine hK.out _ _ ?_
          clear hK K
          try simp only [Act.put, List.getElem_toArray, List.getElem_cons_succ, List.getElem_cons_zero, List.setIfInBounds_toArray, List.set_cons_succ, List.set_cons_zero]
          refine wpAnyW_done (by kernel_rfl) ?_ _
          exact HQ
      · go_simp
        refine hK.out _ _ ?_
        clear hK K
        try simp only [Act.put, List.getElem_toArray, List.getElem_cons_succ, List.getElem_cons_zero, List.setIfInBounds_toArray, List.set_cons_succ, List.set_cons_zero]
        refine wpAnyW_ready (rs := [7]) (by kernel_rfl) (by simp) ?_
        refine AllReadyW.consE rfl (by kernel_rfl) (fun K hK => ?_) AllReadyW.nil
        go_simp
        refine hK.out _ _ ?_
        clear hK K
        try simp only [Act.put, List.getElem_toArray, List.getElem_cons_succ, List.getElem_cons_zero, List.setIfInBounds_toArray, List.set_cons_succ, List.set_cons_zero]
        refine wpAnyW_ready (rs := [9]) (by kernel_rfl) (by simp) ?_
        refine AllReadyW.consE rfl (by kernel_rfl) (fun K hK => ?_) AllReadyW.nil
        go_simp
        refine hK.out _ _ ?_
        clear hK K
        try simp only [Act.put, List.getElem_toArray, List.getElem_cons_succ, List.getElem_cons_zero, List.setIfInBounds_toArray, List.set_cons_succ, List.set_cons_zero]
        refine wpAnyW_ready (rs := [10]) (by kernel_rfl) (by simp) ?_
        refine AllReadyW.consE rfl (by kernel_rfl) (fun K hK => ?_) AllReadyW.nil
        go_simp
        refine hK.out _ _ ?_
        clear hK K
        try simp only [Act.put, List.getElem_toArray, List.getElem_cons_succ, List.getElem_cons_zero, List.setIfInBounds_toArray, List.set_cons_succ, List.set_cons_zero]
        refine wpAnyW_done (by kernel_rfl) ?_ _
        exact HQ
    case h =>
      have hb18 := below_step hb10 hb11
      have HB11 := Lib.hid (below_step HB8.out hb18)
      have HSS1 : Hid (∀ V, Below V11.heap.size V11 V → Calls Tryz.prog 14 #[.slice A8 n8 c8, .slice A11 E11.length c11] V fun e w' => e = .returned (.bool true) ∧ Below V.heap.size V w') := fun V hV => by
        have hb := below_step hb18 hV
        have := rsame_any V V (upE hb E8) (upE hV E11) A8 A11 c8 c11 (Below.refl _ _) ((HR8.out.below hb).up hb) ((hR11.below hV).up hV)
        rw [upE_len, upE_len, vE_up, vE_up, H8.out, h11, sameB_self, HN8.out] at this
        exact this
      clear hb10 hb11 hb18 h11 hR11 H8 HR8 HN8 HB8 HRM
      generalize E11.length = n11 at *
      obtain ⟨xs, hxs, hxo, hxc⟩ := rdn_te HO1.out.kids
      have hkl : x.t.kids.length ≤ 20002 := by rw [hx.out]; exact HFW.out
      obtain ⟨es, hes, hec⟩ := rdm_te HL.out
      obtain ⟨nk, hnk⟩ : ∃ n, x.t.kids.length = n := ⟨_, rfl⟩
      have hnk9 := Lib.hid hnk
      have HXL : Hid (xs.length = nk) := by unfold Hid; rw [← hnk, ← hxs, List.length_map]
      have HEL : Hid (es.length = nl) := by unfold Hid; rw [← HNL.out, ← hes, List.length_map]
      have HXS := Lib.hid hxs
      have HXO := Lib.hid hxo
      have HXCS := Lib.hid hxc
      have HES := Lib.hid hes
      have HEC := Lib.hid hec
      have hxc4 := (HXC.out V11 HB11.out).cell 4
      have hlt9 := (HXC.out V11 HB11.out).lt
      rw [hnk] at hkl hxc4
      have hpn := HNM.out
      rw [← hx.out] at hpn
      have hkn := ((ND.all_iff x.t).1 hpn).2.1
      have HCA : Hid (∀ V A3 c3 A4 c4 A5 c5, Below w1.heap.size w1 V → RdN NoB V A3 c3 x.t.kids → RdM V A4 c4 l → RdB V A5 c5 E → Calls Tryz.prog 10 #[.slice A3 nk c3, .slice A4 nl c4, .slice A5 ne c5] V (AllEnd V (allP x.t.kids l (vE E)))) := fun V A3 c3 A4 c4 A5 c5 hb hN hM hB => by
        have hW := below_step HB1.out hb
        have := mall_any (K := K) keys_ok sorted_ok V x.t.kids l (upE hW E) A3 A4 A5 c3 c4 c5 hN hM (hB.up hW) hkn HS5.out (upE_names hW HKE.out) HK1.out HK2.out
        rw [upE_len, vE_up, hnk, HNL.out, HNE.out] at this
        exact this
      have HRA : Hid (∀ V, Below w1.heap.size w1 V → Calls Tryz.prog 11 #[.slice x.A nk x.c, .slice (some ⟨b2, o2, none⟩) nl d, .slice D ne e] V (RAEnd V (allP x.t.kids l (vE E)))) := fun V hb => by
        have hW := below_step HB1.out hb
        have := rall_any HK2.out V x.t.kids x.A x.c l (some ⟨b2, o2, none⟩) d (upE hW E) D e (HO1.out.below hb).kids hkn (HL.out.below hW) ((HE.out.below hW).up hW) (by rw [vE_up]; exact HLM.out)
        rw [upE_len, vE_up, hnk, HNL.out, HNE.out] at this
        exact this
      have HKIDS := Lib.hid (show xs.map (·.t) = x.t.kids from hxs)
      obtain ⟨R2, hR2⟩ : ∃ R, allP x.t.kids l (vE E) = R := ⟨_, rfl⟩
      rw [hR2] at HCA HRA
      have HENL : Hid ((enL xs).length = nk * 7) := by unfold Hid; rw [← HXL.out]; exact flat_len (fun y => (rfl : (EN.cells y).length = 7)) xs
      have HCSL : Hid ((cellsL es).length = nl * 4) := by unfold Hid; rw [cellsL_len, HEL.out]
      have HBLL : Hid ((bL E).length = ne * 5) := by unfold Hid; rw [← HNE.out]; exact flat_len bc_len E
      have hxc1 := HO1.out.kids.1
      have hxc2 := HO1.out.kids.2.1
      rw [hnk] at hxc1
      clear hxs hxo hxc hes hec hR2 hpn hkn hnk
      have HWV := Lib.hid (below_step HB1.out HB11.out)
      go_upto_region 8 with (fail)
      go_upto_region 9 with (first
        | (at_builtin; (refine wpList_fresh nodeT (by first | rfl | simp [Region.wanted, yielded]) (.tmp 74) (.tmp 76) rfl rfl x.A nk x.c (enL xs) rfl HENL.out (csB_below HXCS.out HB11.out) (flat_one' EN.cells_one _) (by unfold maxLen; omega) (by omega) ?_); intro A3 c3 V3 ho3 hb3; have HO3 := Lib.hid ho3; have HB3 := Lib.hid hb3; clear ho3 hb3)
        | (at_builtin; (refine wpList_fresh termT (by first | rfl | simp [Region.wanted, yielded]) (.tmp 78) (.tmp 79) rfl rfl (some ⟨b2, o2, none⟩) nl d (cellsL es) rfl HCSL.out (csB_below HEC.out (below_step HWV.out HB3.out)) (cellsL_one' es) (by unfold maxLen; omega) (by omega) ?_); intro A4 c4 V4 ho4 hb4; have HO4 := Lib.hid ho4; have HB4 := Lib.hid hb4; clear ho4 hb4)
        | (at_builtin; (refine wpList_fresh bindT (by first | rfl | simp [Region.wanted, yielded]) (.tmp 81) (.tmp 82) rfl rfl D ne e (bL E) rfl HBLL.out (csB_below HE.out.cs (below_step (below_step HWV.out HB3.out) HB4.out)) (flat_one' bc_one _) (by unfold maxLen; omega) (by omega) ?_); intro A5 c5 V5 ho5 hb5; have HO5 := Lib.hid ho5; have HB5 := Lib.hid hb5; clear ho5 hb5)
        | (go_at_call 10; refine (HCA.out V5 A3 c3 A4 c4 A5 c5 (below_step (below_step (below_step HB11.out HB3.out) HB4.out) HB5.out) (by rw [← HKIDS.out]; exact rdn_ofX (own_keepB (own_keepB HO3.out HB4.out) HB5.out) HXL.out (fun y hy => (HXO.out y hy).below (below_step (below_step (below_step HB11.out HB3.out) HB4.out) HB5.out))) (by have := rdm_of_own (own_keepB HO4.out HB5.out) HEL.out (below_step (below_step (below_step HWV.out HB3.out) HB4.out) HB5.out); rw [HES.out] at this; exact this) (rdb_of_own HO5.out HNE.out)).mono ?_; rintro r V6 ⟨A6, c6, E6, rfl, h6, hR6, hb6⟩))
      have HB6 := Lib.hid (below_step (below_step (below_step (below_step HB11.out HB3.out) HB4.out) HB5.out) hb6)
      have HB116 := Lib.hid (below_step (below_step (below_step HB3.out HB4.out) HB5.out) hb6)
      have H6 := Lib.hid h6
      have HR6 := Lib.hid hR6
      clear hxc4 hlt9 h6 hR6 hb6 HO3 HO4 HO5 HB3 HB4 HB5 HCA HXCS HXO HEC HES HXS HKIDS HENL HCSL HBLL HXL HEL
      have x4 := (HXC.out V6 HB6.out).cell 4
      have hlt9 := (HXC.out V6 HB6.out).lt
      rw [hnk9.out] at x4
      go_upto_region 10 with (go_at_call 11; refine (HRA.out V6 HB6.out).mono ?_; rintro r V7 ⟨A7, c7, E7, rfl, h7, hR7, hb7⟩)
      have HSS2 : Hid (∀ V, Below V7.heap.size V7 V → Calls Tryz.prog 14 #[.slice A6 E6.length c6, .slice A7 E7.length c7] V fun e w' => e = .returned (.bool true) ∧ Below V.heap.size V w') := fun V hV => by
        have hb := below_step hb7 hV
        have := rsame_any V V (upE hb E6) (upE hV E7) A6 A7 c6 c7 (Below.refl _ _) ((HR6.out.below hb).up hb) ((hR7.below hV).up hV)
        rw [upE_len, upE_len, vE_up, vE_up, H6.out, h7, sameB_self] at this
        exact this
      have HB7 := Lib.hid (below_step HB6.out hb7)
      have HB117 := Lib.hid (below_step HB116.out hb7)
      clear x4 hlt9 h7 hR7 hb7 H6 HR6 HRA
      generalize E6.length = n6 at *
      generalize E7.length = n7 at *
      have HG1 : Hid (∀ V, Below w1.heap.size w1 V → Calls Tryz.prog 12 #[.string ⟨nm.toArray⟩, .slice D ne e] V (GetEnd V (getG nm (vE E)))) := fun V hb => by
        have hW := below_step HB1.out hb
        have := pget_any V nm (upE hW E) D e ((HE.out.below hW).up hW) (by rw [upE_len, HNE.out]; omega)
        rw [upE_len, vE_up, HNE.out] at this
        exact this
      have HG2 : Hid (∀ V, Below w1.heap.size w1 V → Calls Tryz.prog 13 #[.string ⟨nm.toArray⟩, .slice D ne e] V (GetEnd V (getG nm (vE E)))) := fun V hb => by
        have hW := below_step HB1.out hb
        have := rget_any V nm (upE hW E) D e ((HE.out.below hW).up hW) (by rw [upE_len, HNE.out]; omega)
        rw [upE_len, vE_up, HNE.out] at this
        exact this
      obtain ⟨R3, hR3⟩ : ∃ R, getG nm (vE E) = R := ⟨_, rfl⟩
      rw [hR3] at HG1 HG2
      clear hR3
      go_upto_region 11 with (go_at_call 12; refine (HG1.out V7 HB7.out).mono ?_; rintro r V12 ⟨u, hu, rfl, hb12⟩; replace hu := Lib.hid hu)
      have HU := Lib.hid hu.out
      have HB12 := Lib.hid (below_step HB7.out (below_step hb12 (below_alloc V12 (.cells #[.int .i64 u.t.kind, .int .i64 u.t.int, .string ⟨u.t.name.toArray⟩, .slice u.A u.t.items.length u.c] 35))))
      have HB7C := Lib.hid (below_step hb12 (below_alloc V12 (.cells #[.int .i64 u.t.kind, .int .i64 u.t.int, .string ⟨u.t.name.toArray⟩, .slice u.A u.t.items.length u.c] 35)))
      obtain ⟨g1, hg1⟩ : ∃ g, V12.heap.size = g := ⟨_, rfl⟩
      have HK1B : Hid (Blk (V12.alloc (.cells #[.int .i64 u.t.kind, .int .i64 u.t.int, .string ⟨u.t.name.toArray⟩, .slice u.A u.t.items.length u.c] 35)) g1 35 #[.int .i64 u.t.kind, .int .i64 u.t.int, .string ⟨u.t.name.toArray⟩, .slice u.A u.t.items.length u.c]) := by rw [← hg1]; exact Blk.new _ _ _
      rw [hg1]
      clear hu hb12 hg1
      refine wp_world (fun V => Below V7.heap.size V7 V ∧ Below V12.heap.size V12 V ∧ Blk V g1 35 #[.int .i64 u.t.kind, .int .i64 u.t.int, .string ⟨u.t.name.toArray⟩, .slice u.A u.t.items.length u.c]) ⟨HB7C.out, below_alloc _ _, HK1B.out⟩ ?_
      clear HB12 HB7C HK1B
      rintro V13 ⟨hb13, hb123, hk13⟩
      have HB13 := Lib.hid hb13
      have HB123 := Lib.hid hb123
      have HK13 := Lib.hid hk13
      clear hb13 hb123 hk13
      go_upto_region 12 with (go_at_call 13; refine (HG2.out V13 (below_step HB7.out HB13.out)).mono ?_; rintro r V14 ⟨v, hv, rfl, hb14⟩; replace hv := Lib.hid hv)
      have HV := Lib.hid hv.out
      obtain ⟨g2, hg2⟩ : ∃ g, V14.heap.size = g := ⟨_, rfl⟩
      have HK2B : Hid (Below V13.heap.size V13 (V14.alloc (.cells #[.int .i64 v.t.kind, .int .i64 v.t.int, .string ⟨v.t.name.toArray⟩, .slice v.A v.t.items.length v.c] 35)) ∧ Below V14.heap.size V14 (V14.alloc (.cells #[.int .i64 v.t.kind, .int .i64 v.t.int, .string ⟨v.t.name.toArray⟩, .slice v.A v.t.items.length v.c] 35)) ∧ Blk (V14.alloc (.cells #[.int .i64 v.t.kind, .int .i64 v.t.int, .string ⟨v.t.name.toArray⟩, .slice v.A v.t.items.length v.c] 35)) g2 35 #[.int .i64 v.t.kind, .int .i64 v.t.int, .string ⟨v.t.name.toArray⟩, .slice v.A v.t.items.length v.c]) := by rw [← hg2]; exact ⟨below_step hb14 (below_alloc _ _), below_alloc _ _, Blk.new _ _ _⟩
      rw [hg2]
      clear hv hb14 hg2
      refine wp_world (fun V => Below V13.heap.size V13 V ∧ Below V14.heap.size V14 V ∧ Blk V g2 35 #[.int .i64 v.t.kind, .int .i64 v.t.int, .string ⟨v.t.name.toArray⟩, .slice v.A v.t.items.length v.c]) HK2B.out ?_
      clear HK2B
      rintro V15 ⟨hb15, hb145, hk15⟩
      have HB15 := Lib.hid hb15
      have HB145 := Lib.hid hb145
      have HK15 := Lib.hid hk15
      clear hb15 hb145 hk15
      have hb715 := below_step HB13.out HB15.out
      have HSA1 := Lib.hid (HSS1.out V15 (below_step HB117.out hb715))
      have HSA2 := Lib.hid (fun V (h : Below V15.heap.size V15 V) => HSS2.out V (below_step hb715 h))
      have HTS : Hid (∀ V, Below V15.heap.size V15 V → Calls Tryz.prog 15 #[.agg #[.int .i64 u.t.kind, .int .i64 u.t.int, .string ⟨u.t.name.toArray⟩, .slice u.A u.t.items.length u.c], .agg #[.int .i64 v.t.kind, .int .i64 v.t.int, .string ⟨v.t.name.toArray⟩, .slice v.A v.t.items.length v.c]] V fun e w' => e = .returned (.bool true) ∧ Below V.heap.size V w') := fun V hV => by
        have := tsame_any u.t v.t u.A u.c v.A v.c V V (Below.refl _ _) (u.ok.below (below_step (below_step HB13.out HB15.out) hV)) (v.ok.below (below_step HB15.out hV))
        rw [show (u.t.cmp v.t == 0) = true by rw [HU.out, HV.out, (TV.cmp_zero _ _).2 rfl]; rfl] at this
        exact this
      have HCU : Hid (∀ V, Below V15.heap.size V15 V → Blk V g1 35 #[.int .i64 u.t.kind, .int .i64 u.t.int, .string ⟨u.t.name.toArray⟩, .slice u.A u.t.items.length u.c] ∧ Blk V g2 35 #[.int .i64 v.t.kind, .int .i64 v.t.int, .string ⟨v.t.name.toArray⟩, .slice v.A v.t.items.length v.c]) := fun V hV => ⟨HK13.out.keep (below_step HB15.out hV), HK15.out.keep hV⟩
      have HBF := Lib.hid (below_step (below_step HB1.out HB7.out) hb715)
      clear hb715 HSS1 HSS2 HU HV HK13 HK15 HB13 HB15 HB123 HB145
      generalize u.t.items.length = ul at *
      generalize v.t.items.length = vl at *
      generalize R1.isSome = k1 at *
      generalize R2.isSome = k2 at *
      generalize R3.isSome = k3 at *
      have z1 : (k1 == k1) = true := by simp
      have z2 : (k2 == k2) = true := by simp
      have z3 : (k3 == k3) = true := by simp
      clear HT0 HNM HFW HKE HKP HK1 HK2 HLM HS5 HG1 HG2 HO1 HX1 HRT HL HE
      go_wp2_with (first
        | (go_at_call 14; (with_reducible refine HSA1.out.mono ?_); rintro r V16 ⟨rfl, hb16⟩; have HB16 := Lib.hid hb16; clear hb16)
        | (go_at_call 14; (with_reducible refine (HSA2.out V16 HB16.out).mono ?_); rintro r V17 ⟨rfl, hb17⟩; have HB17 := Lib.hid (below_step HB16.out hb17); clear hb17; obtain ⟨hk1, hk2⟩ := HCU.out V17 HB17.out; have a0 := hk1.cell 0; have a1 := hk1.cell 1; have a2 := hk1.cell 2; have a3 := hk1.cell 3; have b0 := hk2.cell 0; have b1 := hk2.cell 1; have b2 := hk2.cell 2; have b3 := hk2.cell 3; clear hk1 hk2)
        | (go_at_call 15; refine (HTS.out V17 HB17.out).mono ?_; rintro r V18 ⟨rfl, hb18⟩; have HB18 := Lib.hid (below_step HB17.out hb18); clear hb18)
        | (go_at_call 6; refine (HLV.out _).mono ?_; rintro r V19 ⟨rfl, hb19⟩))
      go_ret
      exact ⟨rfl, below_step (below_step HBF.out HB18.out) hb19⟩
end
end Go.Proofs.YtmpknhdfglbocaaGreat
