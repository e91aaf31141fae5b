/- Layer 13: the walk of the program's scope.match at tuples and pairs; at every pattern. Written by magene.py. -/
import Derived.Test.YtmpknhdfglbocaaGreatMaD
import Derived.Test.YtmpknhdfglbocaaGreatIMap
import Derived.Test.YtmpknhdfglbocaaGreatPaU
namespace Go.Proofs.YtmpknhdfglbocaaGreat
open Go.RowKit
set_option linter.unusedVariables false

theorem iput4 : (idat []).put (.int .i64 4) (.lit (.int .i64 6)) = idat [(4, 6)] := by simp [idat, DataW.put, DataW.insert, Lit.sameKey]
theorem iput6 : (idat [(4, 6)]).put (.int .i64 6) (.lit (.int .i64 8)) = idat [(4, 6), (6, 8)] := by simp [idat, DataW.put, DataW.insert, Lit.sameKey, Lit.before]
theorem ilk4 : (idat [(4, 6), (6, 8)]).atKey (.int .i64 4) (.lit (.int .i64 0)) = .lit (.int .i64 6) := by simp [idat, DataW.atKey, Lit.sameKey]
theorem ilk6 : (idat [(4, 6), (6, 8)]).atKey (.int .i64 6) (.lit (.int .i64 0)) = .lit (.int .i64 8) := by simp [idat, DataW.atKey, Lit.sameKey]
theorem MX.turn {w0 W V V' : World} {b g : Nat} {E : List (BG (TE w0))} {x7 x4 : Array Value} (h : MX w0 W b E x7 x4 V) (hg : V.grownBy V' (some g)) (h1 : W.heap.size + 1 < g) (h2 : b < W.heap.size) : MX w0 W b E x7 x4 V' := by
  have hf : Fr (fun k => k = g) V V' := Fr.of_grown hg fun k hk _ => (Option.some.inj hk).symm
  refine ⟨hf.blk h.nb (by omega), hf.blk h.tb (by omega), h.sm.fr hf (by omega), ?_⟩
  refine h.fr.trans hf fun k hk hk2 => ?_
  omega
theorem MX.act {w0 W V V' : World} {b : Nat} {E E' : List (BG (TE w0))} {x7 x4 : Array Value} (h : MX w0 W b E x7 x4 V) (hs : SM V' b (risG E')) (hf : Fr (fun k => k = b) V V') (h2 : b < W.heap.size) : MX w0 W b E' x7 x4 V' :=
  ⟨hf.blk h.nb (by omega), hf.blk h.tb (by omega), hs, h.fr.same hf⟩
theorem negK_one : ∀ {l : List ND} (h : l.length = 1), negK l = IntKind.i64.wrap (-(l[0]'(by omega)).int)
  | [z], _ => rfl
/-- An item of a term, with its own items. -/
theorem te_item {w0 : World} {A : Option Addr} {c : Nat} {l : List TV} (h : RdM w0 A c l) {k : Nat} (hk : k < l.length) : ∃ b o, ∃ u : TE w0, A = some ⟨b, o, none⟩ ∧ u.t = l[k] ∧ w0.cell? ⟨b, o + k * 4, none⟩ = some (.int .i64 u.t.kind) ∧ w0.cell? ⟨b, o + k * 4 + 1, none⟩ = some (.int .i64 u.t.int) ∧ w0.cell? ⟨b, o + k * 4 + 2, none⟩ = some (.string ⟨u.t.name.toArray⟩) ∧ w0.cell? ⟨b, o + k * 4 + 3, none⟩ = some (.slice u.A u.t.items.length u.c) := by
  obtain ⟨b, o, A', c', hA, h0, h1, h2, h3, h4⟩ := h.item hk
  exact ⟨b, o, ⟨l[k], A', c', h4⟩, hA, rfl, h0, h1, h2, h3⟩
section
variable {w0 W V V' : World} {b : Nat} {E : List (BG (TE w0))} {K : List (List UInt8)}

set_option maxRecDepth 100000 in
set_option maxHeartbeats 4000000 in
theorem mm_k4 (hE : ∀ q ∈ E, q.1 ∈ K) (hs : SM W b (risG E)) (t : TE w0) (hW : Below w0.heap.size w0 W) (hb : w0.heap.size ≤ b) (n : Int) (s : List UInt8) (a : Int) (l : List ND) (A : Option Addr) (c : Nat) (v5 v6 : Value) (hR : RdN NoB w0 A c l)
    (IH : ∀ (k : Nat) (h : k < l.length) (h' : k < t.t.items.length) (x : EN) (u : TE w0) (V : World) (E : List (BG (TE w0))), x.t = l[k] → u.t = t.t.items[k] → x.Ok NoB w0 → (∀ q ∈ E, q.1 ∈ K) → SM V b (risG E) → Below w0.heap.size w0 V → Calls Tryz.prog 29 #[.map (some b), .agg #[.int .i64 x.t.kind, .int .i64 x.t.int, .string ⟨x.t.name.toArray⟩, .int .i64 x.t.at_, .slice x.A x.t.kids.length x.c, .slice x.B x.t.clauses.length x.d, .slice x.C x.t.body.length x.e], .agg #[.int .i64 u.t.kind, .int .i64 u.t.int, .string ⟨u.t.name.toArray⟩, .slice u.A u.t.items.length u.c]] V (MEnd w0 K b V (matchP x.t u.t (vE E)))) :
    Calls Tryz.prog 29 #[.map (some b), .agg #[.int .i64 4, .int .i64 n, .string ⟨s.toArray⟩, .int .i64 a, .slice A l.length c, v5, v6], .agg #[.int .i64 t.t.kind, .int .i64 t.t.int, .string ⟨t.t.name.toArray⟩, .slice t.A t.t.items.length t.c]] W (MEnd w0 K b W (if t.t.kind = 6 ∧ t.t.items.length = l.length then matchL l t.t.items (vE E) else (vE E, false))) := by
  have hlt := hs.lt
  have hlc : l.length ≤ 9223372036854775807 := by have := hR.1; have := hR.2.1; omega
  have htc : t.t.items.length ≤ 9223372036854775807 := by have := t.ok.1; have := t.ok.2.1; omega
  have htc2 := t.ok.1
  have hlc2 := hR.1
  have hcc2 := hR.2.1
  have htt2 := t.ok.2.1
  have HSM := Lib.hid hs
  have HE := Lib.hid hE
  have HIH := Lib.hid IH
  have HR := Lib.hid hR
  have HTI := Lib.hid t.ok
  clear IH hs hE hR
  generalize t.t.items = its at *
  obtain ⟨len, hlen⟩ : ∃ len, l.length = len := ⟨_, rfl⟩
  obtain ⟨tl, htl⟩ : ∃ tl, its.length = tl := ⟨_, rfl⟩
  have HLEN := Lib.hid hlen
  have HTL := Lib.hid htl
  obtain ⟨FIN, hFIN⟩ : ∃ FIN, (if t.t.kind = 6 ∧ its.length = l.length then matchL l its (vE E) else (vE E, false)) = FIN := ⟨_, rfl⟩
  rw [hFIN]
  have HFIN := Lib.hid hFIN
  rw [hlen] at hlc hlc2 ⊢
  rw [htl] at htc htc2 ⊢
  clear hlen htl hFIN
  generalize t.t.kind = tk at *
  generalize t.t.int = ti at *
  generalize t.t.name = tn at *
  generalize t.A = tA at *
  generalize t.c = tc at *
  go_enter Tryz.func29, Tryz.ntmps29
  go_upto_region 1 with (fail)
  refine wp_world (MX w0 W b E #[.int .i64 4, .int .i64 n, .string ⟨s.toArray⟩, .int .i64 a, .slice A len c, v5, v6] #[.int .i64 tk, .int .i64 ti, .string ⟨tn.toArray⟩, .slice tA tl tc]) (MX.new HSM.out _ _) ?_
  intro V hV
  have x0 := hV.nb.cell 0
  have hV2 := hV.fr.size
  have hV3 := hV.tb.lt
  obtain ⟨gb, hgb⟩ : ∃ gb, V.heap.size = gb := ⟨_, rfl⟩
  have HT : Hid (IT (V.alloc (.map #[] 0)) gb []) := by rw [← hgb]; exact IT.made V
  have HV := Lib.hid (hV.keep (below_alloc V (.map #[] 0)))
  have HGB : Hid (W.heap.size + 1 < gb ∧ b < W.heap.size) := ⟨by omega, hlt⟩
  clear hV hV2 hV3
  have hmm := @run_makeMap Tryz.prog
  go_upto_region 19 with (first
    | ((with_reducible refine wpList_insI 4 6 [(4, 6)] HT (by simp) ?_ (by decide) (by decide) iput4 (by simp) ?_); rfl; intro w1 HT2 HG2; clear HT; have HT := HT2; clear HT2; have HV := Lib.hid (HV.out.turn HG2.out HGB.out.1 HGB.out.2); clear HG2)
    | ((with_reducible refine wpList_insI 6 8 [(4, 6), (6, 8)] HT (by simp) ?_ (by decide) (by decide) iput6 (by simp) ?_); rfl; intro w1 HT2 HG2; clear HT; have HT := HT2; clear HT2; have HV := Lib.hid (HV.out.turn HG2.out HGB.out.1 HGB.out.2); clear HG2))
  refine wp_world (fun V => MX w0 W b E #[.int .i64 4, .int .i64 n, .string ⟨s.toArray⟩, .int .i64 a, .slice A len c, v5, v6] #[.int .i64 tk, .int .i64 ti, .string ⟨tn.toArray⟩, .slice tA tl tc] V ∧ IT V gb [(4, 6), (6, 8)]) ⟨HV.out, HT.out⟩ ?_
  clear HV HT HGB hgb x0 hmm
  rintro V ⟨hV, hT⟩
  have hlk := IT.look hT (k := 4) (by decide) (v := 6) ilk4
  have x0 := hV.nb.cell 0
  have x4 := hV.nb.cell 4
  have y0 := hV.tb.cell 0
  have y3 := hV.tb.cell 3
  have HV := Lib.hid hV
  clear hV hT
  by_cases h1 : tk = 6
  rotate_left
  · have d1 : (tk != 6) = true := by simpa using h1
    have HF2 := Lib.hid (show FIN = (vE E, false) from by rw [← HFIN.out, if_neg (fun h9 => h1 h9.1)])
    clear h1
    go_wp2
    go_ret
    rw [HF2.out]
    exact HV.out.back HE.out false
  by_cases h2 : tl = len
  rotate_left
  · have d1 : (tk != 6) = false := by simpa using h1
    have d2 : ((tl : Int) != (len : Int)) = true := by simp; omega
    have d3 : (tl != len) = true := by simp; omega
    have HF2 := Lib.hid (show FIN = (vE E, false) from by rw [← HFIN.out, if_neg (fun h9 => h2 (by have := h9.2; have := HLEN.out; have := HTL.out; omega))])
    clear h1 h2
    go_wp2
    go_ret
    rw [HF2.out]
    exact HV.out.back HE.out false
  subst h2
  have d1 : (tk != 6) = false := by simpa using h1
  have d2 : ((tl : Int) != (tl : Int)) = false := by simp
  have HF2 := Lib.hid (show FIN = matchL l its (vE E) from by rw [← HFIN.out, if_pos ⟨h1, by have := HLEN.out; have := HTL.out; omega⟩])
  subst h1
  clear HFIN d2
  have HV2 := Lib.hid HV.out
  go_upto_region 22 with (fail)
  clear hlk x0 x4 y0 y3 d1 HV
  go_loopw [85] (fun i wr => ∃ (k : Nat) (E' : List (BG (TE w0))), k ≤ tl ∧ i = .int .i64 k ∧ vE E' = (matchL (l.take k) (its.take k) (vE E)).1 ∧ (matchL (l.take k) (its.take k) (vE E)).2 = true ∧ (∀ q ∈ E', q.1 ∈ K) ∧ MX w0 W b E' #[.int .i64 4, .int .i64 n, .string ⟨s.toArray⟩, .int .i64 a, .slice A tl c, v5, v6] #[.int .i64 6, .int .i64 ti, .string ⟨tn.toArray⟩, .slice tA tl tc] wr) (fun i _ => tl - (intOf i).toNat)
  case atStart => exact ⟨0, E, Nat.zero_le _, rfl, by simp [matchL], by simp [matchL], HE.out, HV2.out⟩
  case round =>
    clear HV2
    obtain ⟨k, E', hk, rfl, hv, hm, hEK, hX⟩ := hrel
    have HV' := Lib.hid hv
    have HM' := Lib.hid hm
    clear hv hm
    by_cases hlt2 : k < tl
    · have hd : decide (k < tl) = true := by simp; omega
      have q1 : (0 : Int) ≤ (k : Int) := by omega
      have q2 : (k : Int) < (tl : Int) := by omega
      have hkl : k < l.length := by rw [HLEN.out]; exact hlt2
      have hkt : k < its.length := by rw [HTL.out]; exact hlt2
      obtain ⟨bx, ox, x, rfl, hx, hok, e0, e1, e2, e3, e4, e5, e6⟩ := rdn_item HR.out hkl
      obtain ⟨bi, oi, u, rfl, hu, f0, f1, f2, f3⟩ := te_item HTI.out hkt
      have HW0 := Lib.hid (hX.below hW hb)
      have p0 := (HW0.out.cell (World.block_lt_of_cell? w0 _ e0)).trans e0
      have p1 := (HW0.out.cell (World.block_lt_of_cell? w0 _ e1)).trans e1
      have p2 := (HW0.out.cell (World.block_lt_of_cell? w0 _ e2)).trans e2
      have p3 := (HW0.out.cell (World.block_lt_of_cell? w0 _ e3)).trans e3
      have p4 := (HW0.out.cell (World.block_lt_of_cell? w0 _ e4)).trans e4
      have p5 := (HW0.out.cell (World.block_lt_of_cell? w0 _ e5)).trans e5
      have p6 := (HW0.out.cell (World.block_lt_of_cell? w0 _ e6)).trans e6
      have HT9 : Hid (matchL (l.take (k + 1)) (its.take (k + 1)) (vE E) = matchP x.t u.t (vE E')) := by
        unfold Hid
        rw [matchL_take l its (vE E) k hkl hkt HM'.out, hx, hu, HV'.out]
      have HCL : Hid (∀ V, SM V b (risG E') → Below w0.heap.size w0 V → Calls Tryz.prog 29 #[.map (some b), .agg #[.int .i64 x.t.kind, .int .i64 x.t.int, .string ⟨x.t.name.toArray⟩, .int .i64 x.t.at_, .slice x.A x.t.kids.length x.c, .slice x.B x.t.clauses.length x.d, .slice x.C x.t.body.length x.e], .agg #[.int .i64 u.t.kind, .int .i64 u.t.int, .string ⟨u.t.name.toArray⟩, .slice u.A u.t.items.length u.c]] V (MEnd w0 K b V (matchP x.t u.t (vE E')))) := fun V h1 h2 => HIH.out k hkl hkt x u V E' hx hu hok hEK h1 h2
      obtain ⟨R, hR⟩ : ∃ R, matchP x.t u.t (vE E') = R := ⟨_, rfl⟩
      rw [hR] at HT9 HCL
      obtain ⟨R1, R2⟩ := R
      have HX := Lib.hid hX
      have HC : Hid (∀ V', Fr (fun k => k = b) wr V' → ((V'.cell? ⟨bi, oi + k * 4, none⟩ = some (.int .i64 u.t.kind) ∧ V'.cell? ⟨bi, oi + k * 4 + 1, none⟩ = some (.int .i64 u.t.int) ∧ V'.cell? ⟨bi, oi + k * 4 + 2, none⟩ = some (.string ⟨u.t.name.toArray⟩) ∧ V'.cell? ⟨bi, oi + k * 4 + 3, none⟩ = some (.slice u.A u.t.items.length u.c)) ∧ Below w0.heap.size w0 V')) := fun V' hf => by
        have hbw : Below w0.heap.size w0 V' := HW0.out.trans (hf.below HW0.out.size (fun k hk => by omega))
        exact ⟨⟨(hbw.cell (World.block_lt_of_cell? w0 _ f0)).trans f0, (hbw.cell (World.block_lt_of_cell? w0 _ f1)).trans f1, (hbw.cell (World.block_lt_of_cell? w0 _ f2)).trans f2, (hbw.cell (World.block_lt_of_cell? w0 _ f3)).trans f3⟩, hbw⟩
      have hbl : b < wr.heap.size := HX.out.sm.lt
      clear hx hu hok hkl hkt hX hR e0 e1 e2 e3 e4 e5 e6 f0 f1 f2 f3 HW0
      go_upto_region 24 with (fail)
      refine wp_world (fun V => Blk V wr.heap.size 29 #[.int .i64 x.t.kind, .int .i64 x.t.int, .string ⟨x.t.name.toArray⟩, .int .i64 x.t.at_, .slice x.A x.t.kids.length x.c, .slice x.B x.t.clauses.length x.d, .slice x.C x.t.body.length x.e] ∧ MX w0 W b E' #[.int .i64 4, .int .i64 n, .string ⟨s.toArray⟩, .int .i64 a, .slice (some ⟨bx, ox, none⟩) tl c, v5, v6] #[.int .i64 6, .int .i64 ti, .string ⟨tn.toArray⟩, .slice (some ⟨bi, oi, none⟩) tl tc] V ∧ Fr (fun k => k = b) wr V) ⟨Blk.new _ _ _, HX.out.keep (below_alloc _ _), Fr.alloc _ _ _⟩ ?_
      clear p0 p1 p2 p3 p4 p5 p6
      rintro Y ⟨hB, hX, hfY⟩
      have HS : Hid (∀ V', Fr (fun k => k = b) Y V' → ((V'.cell? ⟨wr.heap.size, 0, none⟩ = some (.int .i64 x.t.kind) ∧ V'.cell? ⟨wr.heap.size, 1, none⟩ = some (.int .i64 x.t.int) ∧ V'.cell? ⟨wr.heap.size, 2, none⟩ = some (.string ⟨x.t.name.toArray⟩) ∧ V'.cell? ⟨wr.heap.size, 3, none⟩ = some (.int .i64 x.t.at_) ∧ V'.cell? ⟨wr.heap.size, 4, none⟩ = some (.slice x.A x.t.kids.length x.c) ∧ V'.cell? ⟨wr.heap.size, 5, none⟩ = some (.slice x.B x.t.clauses.length x.d) ∧ V'.cell? ⟨wr.heap.size, 6, none⟩ = some (.slice x.C x.t.body.length x.e)) ∧ V'.cell? ⟨W.heap.size + 1, 3, none⟩ = some (.slice (some ⟨bi, oi, none⟩) tl tc)) ∧ (V'.cell? ⟨bi, oi + k * 4, none⟩ = some (.int .i64 u.t.kind) ∧ V'.cell? ⟨bi, oi + k * 4 + 1, none⟩ = some (.int .i64 u.t.int) ∧ V'.cell? ⟨bi, oi + k * 4 + 2, none⟩ = some (.string ⟨u.t.name.toArray⟩) ∧ V'.cell? ⟨bi, oi + k * 4 + 3, none⟩ = some (.slice u.A u.t.items.length u.c))) := fun V' hf => by
        have hb9 := hf.blk hB (by omega)
        have hx9 := hf.blk hX.tb (by omega)
        exact ⟨⟨⟨hb9.cell 0, hb9.cell 1, hb9.cell 2, hb9.cell 3, hb9.cell 4, hb9.cell 5, hb9.cell 6⟩, hx9.cell 3⟩, (HC.out V' (hfY.same hf)).1⟩
      have HCL2 : Hid (∀ V', Below Y.heap.size Y V' → Calls Tryz.prog 29 #[.map (some b), .agg #[.int .i64 x.t.kind, .int .i64 x.t.int, .string ⟨x.t.name.toArray⟩, .int .i64 x.t.at_, .slice x.A x.t.kids.length x.c, .slice x.B x.t.clauses.length x.d, .slice x.C x.t.body.length x.e], .agg #[.int .i64 u.t.kind, .int .i64 u.t.int, .string ⟨u.t.name.toArray⟩, .slice u.A u.t.items.length u.c]] V' fun e w' => ∃ E2 : List (BG (TE w0)), e = .returned (.bool R2) ∧ vE E2 = R1 ∧ (∀ q ∈ E2, q.1 ∈ K) ∧ SM w' b (risG E2) ∧ Fr (fun k => k = b) Y w') := fun V' hb9 => (HCL.out V' (hX.sm.keep hb9) (HC.out V' (hfY.same (Fr.of_below hb9 _))).2).mono fun e w' ⟨E2, h1, h2, h3, h4, h5⟩ => ⟨E2, h3, h1, h2, h4, (Fr.of_below hb9 _).same h5⟩
      have HXA := Lib.hid (fun V' E2 h1 h2 => MX.act (V' := V') (E' := E2) hX h1 h2 hlt)
      clear hX hB hfY HC HCL HX
      cases R2 with
      | true =>
        go_region_held3 (fun V' => ((V'.cell? ⟨wr.heap.size, 0, none⟩ = some (.int .i64 x.t.kind) ∧ V'.cell? ⟨wr.heap.size, 1, none⟩ = some (.int .i64 x.t.int) ∧ V'.cell? ⟨wr.heap.size, 2, none⟩ = some (.string ⟨x.t.name.toArray⟩) ∧ V'.cell? ⟨wr.heap.size, 3, none⟩ = some (.int .i64 x.t.at_) ∧ V'.cell? ⟨wr.heap.size, 4, none⟩ = some (.slice x.A x.t.kids.length x.c) ∧ V'.cell? ⟨wr.heap.size, 5, none⟩ = some (.slice x.B x.t.clauses.length x.d) ∧ V'.cell? ⟨wr.heap.size, 6, none⟩ = some (.slice x.C x.t.body.length x.e)) ∧ V'.cell? ⟨W.heap.size + 1, 3, none⟩ = some (.slice (some ⟨bi, oi, none⟩) tl tc)) ∧ (V'.cell? ⟨bi, oi + k * 4, none⟩ = some (.int .i64 u.t.kind) ∧ V'.cell? ⟨bi, oi + k * 4 + 1, none⟩ = some (.int .i64 u.t.int) ∧ V'.cell? ⟨bi, oi + k * 4 + 2, none⟩ = some (.string ⟨u.t.name.toArray⟩) ∧ V'.cell? ⟨bi, oi + k * 4 + 3, none⟩ = some (.slice u.A u.t.items.length u.c))) (first | exact HS.out _ hf9 | exact HS.out _ (Fr.refl _ _).drew | exact HS.out _ (Fr.refl _ _)) ((go_at_call 29; refine (HCL2.out _ (by first | exact Below.refl _ _ | exact (Below.refl _ _).drew)).mono ?_; rintro e w' ⟨E2, rfl, h1, h2, hs9, hf9⟩))
        all_goals
          go_wp2
          go_roundw
          case rel => exact ⟨k + 1, E2, by omega, by go_num, by rw [HT9.out]; exact h1, by rw [HT9.out], h2, HXA.out _ _ hs9 hf9⟩
          case measure => simp [intOf]; omega
      | false =>
        go_region_held3 (fun V' => ((V'.cell? ⟨wr.heap.size, 0, none⟩ = some (.int .i64 x.t.kind) ∧ V'.cell? ⟨wr.heap.size, 1, none⟩ = some (.int .i64 x.t.int) ∧ V'.cell? ⟨wr.heap.size, 2, none⟩ = some (.string ⟨x.t.name.toArray⟩) ∧ V'.cell? ⟨wr.heap.size, 3, none⟩ = some (.int .i64 x.t.at_) ∧ V'.cell? ⟨wr.heap.size, 4, none⟩ = some (.slice x.A x.t.kids.length x.c) ∧ V'.cell? ⟨wr.heap.size, 5, none⟩ = some (.slice x.B x.t.clauses.length x.d) ∧ V'.cell? ⟨wr.heap.size, 6, none⟩ = some (.slice x.C x.t.body.length x.e)) ∧ V'.cell? ⟨W.heap.size + 1, 3, none⟩ = some (.slice (some ⟨bi, oi, none⟩) tl tc)) ∧ (V'.cell? ⟨bi, oi + k * 4, none⟩ = some (.int .i64 u.t.kind) ∧ V'.cell? ⟨bi, oi + k * 4 + 1, none⟩ = some (.int .i64 u.t.int) ∧ V'.cell? ⟨bi, oi + k * 4 + 2, none⟩ = some (.string ⟨u.t.name.toArray⟩) ∧ V'.cell? ⟨bi, oi + k * 4 + 3, none⟩ = some (.slice u.A u.t.items.length u.c))) (first | exact HS.out _ hf9 | exact HS.out _ (Fr.refl _ _).drew | exact HS.out _ (Fr.refl _ _)) ((go_at_call 29; refine (HCL2.out _ (by first | exact Below.refl _ _ | exact (Below.refl _ _).drew)).mono ?_; rintro e w' ⟨E2, rfl, h1, h2, hs9, hf9⟩))
        all_goals
          go_wp2
          go_ret
          have h8 := matchL_early l its (vE E) (k + 1) (by rw [HT9.out])
          rw [HF2.out, h8, HT9.out]
          exact ⟨E2, h1, h2, rfl, hs9, (HXA.out _ _ hs9 hf9).fr⟩
    · obtain rfl : k = tl := by omega
      have hd : decide (k < k) = false := by simp
      go_wp2_with (fail)
      go_ret
      have h8 := HV'.out
      have h9 := HM'.out
      rw [List.take_of_length_le (by rw [HLEN.out]; exact Nat.le_refl _), List.take_of_length_le (by rw [HTL.out]; exact Nat.le_refl _)] at h8 h9
      rw [HF2.out]
      exact ⟨E', h8, hEK, by rw [h9]; rfl, hX.sm, hX.fr⟩

set_option maxRecDepth 100000 in
set_option maxHeartbeats 4000000 in
theorem mm_k6 (hE : ∀ q ∈ E, q.1 ∈ K) (hs : SM W b (risG E)) (t : TE w0) (hW : Below w0.heap.size w0 W) (hb : w0.heap.size ≤ b) (n : Int) (s : List UInt8) (a : Int) (l : List ND) (A : Option Addr) (c : Nat) (v5 v6 : Value) (hR : RdN NoB w0 A c l)
    (IH : ∀ (k : Nat) (h : k < l.length) (h' : k < t.t.items.length) (x : EN) (u : TE w0) (V : World) (E : List (BG (TE w0))), x.t = l[k] → u.t = t.t.items[k] → x.Ok NoB w0 → (∀ q ∈ E, q.1 ∈ K) → SM V b (risG E) → Below w0.heap.size w0 V → Calls Tryz.prog 29 #[.map (some b), .agg #[.int .i64 x.t.kind, .int .i64 x.t.int, .string ⟨x.t.name.toArray⟩, .int .i64 x.t.at_, .slice x.A x.t.kids.length x.c, .slice x.B x.t.clauses.length x.d, .slice x.C x.t.body.length x.e], .agg #[.int .i64 u.t.kind, .int .i64 u.t.int, .string ⟨u.t.name.toArray⟩, .slice u.A u.t.items.length u.c]] V (MEnd w0 K b V (matchP x.t u.t (vE E)))) :
    Calls Tryz.prog 29 #[.map (some b), .agg #[.int .i64 6, .int .i64 n, .string ⟨s.toArray⟩, .int .i64 a, .slice A l.length c, v5, v6], .agg #[.int .i64 t.t.kind, .int .i64 t.t.int, .string ⟨t.t.name.toArray⟩, .slice t.A t.t.items.length t.c]] W (MEnd w0 K b W (if t.t.kind = 8 ∧ t.t.items.length = l.length then matchL l t.t.items (vE E) else (vE E, false))) := by
  have hlt := hs.lt
  have hlc : l.length ≤ 9223372036854775807 := by have := hR.1; have := hR.2.1; omega
  have htc : t.t.items.length ≤ 9223372036854775807 := by have := t.ok.1; have := t.ok.2.1; omega
  have htc2 := t.ok.1
  have hlc2 := hR.1
  have hcc2 := hR.2.1
  have htt2 := t.ok.2.1
  have HSM := Lib.hid hs
  have HE := Lib.hid hE
  have HIH := Lib.hid IH
  have HR := Lib.hid hR
  have HTI := Lib.hid t.ok
  clear IH hs hE hR
  generalize t.t.items = its at *
  obtain ⟨len, hlen⟩ : ∃ len, l.length = len := ⟨_, rfl⟩
  obtain ⟨tl, htl⟩ : ∃ tl, its.length = tl := ⟨_, rfl⟩
  have HLEN := Lib.hid hlen
  have HTL := Lib.hid htl
  obtain ⟨FIN, hFIN⟩ : ∃ FIN, (if t.t.kind = 8 ∧ its.length = l.length then matchL l its (vE E) else (vE E, false)) = FIN := ⟨_, rfl⟩
  rw [hFIN]
  have HFIN := Lib.hid hFIN
  rw [hlen] at hlc hlc2 ⊢
  rw [htl] at htc htc2 ⊢
  clear hlen htl hFIN
  generalize t.t.kind = tk at *
  generalize t.t.int = ti at *
  generalize t.t.name = tn at *
  generalize t.A = tA at *
  generalize t.c = tc at *
  go_enter Tryz.func29, Tryz.ntmps29
  go_upto_region 1 with (fail)
  refine wp_world (MX w0 W b E #[.int .i64 6, .int .i64 n, .string ⟨s.toArray⟩, .int .i64 a, .slice A len c, v5, v6] #[.int .i64 tk, .int .i64 ti, .string ⟨tn.toArray⟩, .slice tA tl tc]) (MX.new HSM.out _ _) ?_
  intro V hV
  have x0 := hV.nb.cell 0
  have hV2 := hV.fr.size
  have hV3 := hV.tb.lt
  obtain ⟨gb, hgb⟩ : ∃ gb, V.heap.size = gb := ⟨_, rfl⟩
  have HT : Hid (IT (V.alloc (.map #[] 0)) gb []) := by rw [← hgb]; exact IT.made V
  have HV := Lib.hid (hV.keep (below_alloc V (.map #[] 0)))
  have HGB : Hid (W.heap.size + 1 < gb ∧ b < W.heap.size) := ⟨by omega, hlt⟩
  clear hV hV2 hV3
  have hmm := @run_makeMap Tryz.prog
  go_upto_region 19 with (first
    | ((with_reducible refine wpList_insI 4 6 [(4, 6)] HT (by simp) ?_ (by decide) (by decide) iput4 (by simp) ?_); rfl; intro w1 HT2 HG2; clear HT; have HT := HT2; clear HT2; have HV := Lib.hid (HV.out.turn HG2.out HGB.out.1 HGB.out.2); clear HG2)
    | ((with_reducible refine wpList_insI 6 8 [(4, 6), (6, 8)] HT (by simp) ?_ (by decide) (by decide) iput6 (by simp) ?_); rfl; intro w1 HT2 HG2; clear HT; have HT := HT2; clear HT2; have HV := Lib.hid (HV.out.turn HG2.out HGB.out.1 HGB.out.2); clear HG2))
  refine wp_world (fun V => MX w0 W b E #[.int .i64 6, .int .i64 n, .string ⟨s.toArray⟩, .int .i64 a, .slice A len c, v5, v6] #[.int .i64 tk, .int .i64 ti, .string ⟨tn.toArray⟩, .slice tA tl tc] V ∧ IT V gb [(4, 6), (6, 8)]) ⟨HV.out, HT.out⟩ ?_
  clear HV HT HGB hgb x0 hmm
  rintro V ⟨hV, hT⟩
  have hlk := IT.look hT (k := 6) (by decide) (v := 8) ilk6
  have x0 := hV.nb.cell 0
  have x4 := hV.nb.cell 4
  have y0 := hV.tb.cell 0
  have y3 := hV.tb.cell 3
  have HV := Lib.hid hV
  clear hV hT
  by_cases h1 : tk = 8
  rotate_left
  · have d1 : (tk != 8) = true := by simpa using h1
    have HF2 := Lib.hid (show FIN = (vE E, false) from by rw [← HFIN.out, if_neg (fun h9 => h1 h9.1)])
    clear h1
    go_wp2
    go_ret
    rw [HF2.out]
    exact HV.out.back HE.out false
  by_cases h2 : tl = len
  rotate_left
  · have d1 : (tk != 8) = false := by simpa using h1
    have d2 : ((tl : Int) != (len : Int)) = true := by simp; omega
    have d3 : (tl != len) = true := by simp; omega
    have HF2 := Lib.hid (show FIN = (vE E, false) from by rw [← HFIN.out, if_neg (fun h9 => h2 (by have := h9.2; have := HLEN.out; have := HTL.out; omega))])
    clear h1 h2
    go_wp2
    go_ret
    rw [HF2.out]
    exact HV.out.back HE.out false
  subst h2
  have d1 : (tk != 8) = false := by simpa using h1
  have d2 : ((tl : Int) != (tl : Int)) = false := by simp
  have HF2 := Lib.hid (show FIN = matchL l its (vE E) from by rw [← HFIN.out, if_pos ⟨h1, by have := HLEN.out; have := HTL.out; omega⟩])
  subst h1
  clear HFIN d2
  have HV2 := Lib.hid HV.out
  go_upto_region 22 with (fail)
  clear hlk x0 x4 y0 y3 d1 HV
  go_loopw [85] (fun i wr => ∃ (k : Nat) (E' : List (BG (TE w0))), k ≤ tl ∧ i = .int .i64 k ∧ vE E' = (matchL (l.take k) (its.take k) (vE E)).1 ∧ (matchL (l.take k) (its.take k) (vE E)).2 = true ∧ (∀ q ∈ E', q.1 ∈ K) ∧ MX w0 W b E' #[.int .i64 6, .int .i64 n, .string ⟨s.toArray⟩, .int .i64 a, .slice A tl c, v5, v6] #[.int .i64 8, .int .i64 ti, .string ⟨tn.toArray⟩, .slice tA tl tc] wr) (fun i _ => tl - (intOf i).toNat)
  case atStart => exact ⟨0, E, Nat.zero_le _, rfl, by simp [matchL], by simp [matchL], HE.out, HV2.out⟩
  case round =>
    clear HV2
    obtain ⟨k, E', hk, rfl, hv, hm, hEK, hX⟩ := hrel
    have HV' := Lib.hid hv
    have HM' := Lib.hid hm
    clear hv hm
    by_cases hlt2 : k < tl
    · have hd : decide (k < tl) = true := by simp; omega
      have q1 : (0 : Int) ≤ (k : Int) := by omega
      have q2 : (k : Int) < (tl : Int) := by omega
      have hkl : k < l.length := by rw [HLEN.out]; exact hlt2
      have hkt : k < its.length := by rw [HTL.out]; exact hlt2
      obtain ⟨bx, ox, x, rfl, hx, hok, e0, e1, e2, e3, e4, e5, e6⟩ := rdn_item HR.out hkl
      obtain ⟨bi, oi, u, rfl, hu, f0, f1, f2, f3⟩ := te_item HTI.out hkt
      have HW0 := Lib.hid (hX.below hW hb)
      have p0 := (HW0.out.cell (World.block_lt_of_cell? w0 _ e0)).trans e0
      have p1 := (HW0.out.cell (World.block_lt_of_cell? w0 _ e1)).trans e1
      have p2 := (HW0.out.cell (World.block_lt_of_cell? w0 _ e2)).trans e2
      have p3 := (HW0.out.cell (World.block_lt_of_cell? w0 _ e3)).trans e3
      have p4 := (HW0.out.cell (World.block_lt_of_cell? w0 _ e4)).trans e4
      have p5 := (HW0.out.cell (World.block_lt_of_cell? w0 _ e5)).trans e5
      have p6 := (HW0.out.cell (World.block_lt_of_cell? w0 _ e6)).trans e6
      have HT9 : Hid (matchL (l.take (k + 1)) (its.take (k + 1)) (vE E) = matchP x.t u.t (vE E')) := by
        unfold Hid
        rw [matchL_take l its (vE E) k hkl hkt HM'.out, hx, hu, HV'.out]
      have HCL : Hid (∀ V, SM V b (risG E') → Below w0.heap.size w0 V → Calls Tryz.prog 29 #[.map (some b), .agg #[.int .i64 x.t.kind, .int .i64 x.t.int, .string ⟨x.t.name.toArray⟩, .int .i64 x.t.at_, .slice x.A x.t.kids.length x.c, .slice x.B x.t.clauses.length x.d, .slice x.C x.t.body.length x.e], .agg #[.int .i64 u.t.kind, .int .i64 u.t.int, .string ⟨u.t.name.toArray⟩, .slice u.A u.t.items.length u.c]] V (MEnd w0 K b V (matchP x.t u.t (vE E')))) := fun V h1 h2 => HIH.out k hkl hkt x u V E' hx hu hok hEK h1 h2
      obtain ⟨R, hR⟩ : ∃ R, matchP x.t u.t (vE E') = R := ⟨_, rfl⟩
      rw [hR] at HT9 HCL
      obtain ⟨R1, R2⟩ := R
      have HX := Lib.hid hX
      have HC : Hid (∀ V', Fr (fun k => k = b) wr V' → ((V'.cell? ⟨bi, oi + k * 4, none⟩ = some (.int .i64 u.t.kind) ∧ V'.cell? ⟨bi, oi + k * 4 + 1, none⟩ = some (.int .i64 u.t.int) ∧ V'.cell? ⟨bi, oi + k * 4 + 2, none⟩ = some (.string ⟨u.t.name.toArray⟩) ∧ V'.cell? ⟨bi, oi + k * 4 + 3, none⟩ = some (.slice u.A u.t.items.length u.c)) ∧ Below w0.heap.size w0 V')) := fun V' hf => by
        have hbw : Below w0.heap.size w0 V' := HW0.out.trans (hf.below HW0.out.size (fun k hk => by omega))
        exact ⟨⟨(hbw.cell (World.block_lt_of_cell? w0 _ f0)).trans f0, (hbw.cell (World.block_lt_of_cell? w0 _ f1)).trans f1, (hbw.cell (World.block_lt_of_cell? w0 _ f2)).trans f2, (hbw.cell (World.block_lt_of_cell? w0 _ f3)).trans f3⟩, hbw⟩
      have hbl : b < wr.heap.size := HX.out.sm.lt
      clear hx hu hok hkl hkt hX hR e0 e1 e2 e3 e4 e5 e6 f0 f1 f2 f3 HW0
      go_upto_region 24 with (fail)
      refine wp_world (fun V => Blk V wr.heap.size 29 #[.int .i64 x.t.kind, .int .i64 x.t.int, .string ⟨x.t.name.toArray⟩, .int .i64 x.t.at_, .slice x.A x.t.kids.length x.c, .slice x.B x.t.clauses.length x.d, .slice x.C x.t.body.length x.e] ∧ MX w0 W b E' #[.int .i64 6, .int .i64 n, .string ⟨s.toArray⟩, .int .i64 a, .slice (some ⟨bx, ox, none⟩) tl c, v5, v6] #[.int .i64 8, .int .i64 ti, .string ⟨tn.toArray⟩, .slice (some ⟨bi, oi, none⟩) tl tc] V ∧ Fr (fun k => k = b) wr V) ⟨Blk.new _ _ _, HX.out.keep (below_alloc _ _), Fr.alloc _ _ _⟩ ?_
      clear p0 p1 p2 p3 p4 p5 p6
      rintro Y ⟨hB, hX, hfY⟩
      have HS : Hid (∀ V', Fr (fun k => k = b) Y V' → ((V'.cell? ⟨wr.heap.size, 0, none⟩ = some (.int .i64 x.t.kind) ∧ V'.cell? ⟨wr.heap.size, 1, none⟩ = some (.int .i64 x.t.int) ∧ V'.cell? ⟨wr.heap.size, 2, none⟩ = some (.string ⟨x.t.name.toArray⟩) ∧ V'.cell? ⟨wr.heap.size, 3, none⟩ = some (.int .i64 x.t.at_) ∧ V'.cell? ⟨wr.heap.size, 4, none⟩ = some (.slice x.A x.t.kids.length x.c) ∧ V'.cell? ⟨wr.heap.size, 5, none⟩ = some (.slice x.B x.t.clauses.length x.d) ∧ V'.cell? ⟨wr.heap.size, 6, none⟩ = some (.slice x.C x.t.body.length x.e)) ∧ V'.cell? ⟨W.heap.size + 1, 3, none⟩ = some (.slice (some ⟨bi, oi, none⟩) tl tc)) ∧ (V'.cell? ⟨bi, oi + k * 4, none⟩ = some (.int .i64 u.t.kind) ∧ V'.cell? ⟨bi, oi + k * 4 + 1, none⟩ = some (.int .i64 u.t.int) ∧ V'.cell? ⟨bi, oi + k * 4 + 2, none⟩ = some (.string ⟨u.t.name.toArray⟩) ∧ V'.cell? ⟨bi, oi + k * 4 + 3, none⟩ = some (.slice u.A u.t.items.length u.c))) := fun V' hf => by
        have hb9 := hf.blk hB (by omega)
        have hx9 := hf.blk hX.tb (by omega)
        exact ⟨⟨⟨hb9.cell 0, hb9.cell 1, hb9.cell 2, hb9.cell 3, hb9.cell 4, hb9.cell 5, hb9.cell 6⟩, hx9.cell 3⟩, (HC.out V' (hfY.same hf)).1⟩
      have HCL2 : Hid (∀ V', Below Y.heap.size Y V' → Calls Tryz.prog 29 #[.map (some b), .agg #[.int .i64 x.t.kind, .int .i64 x.t.int, .string ⟨x.t.name.toArray⟩, .int .i64 x.t.at_, .slice x.A x.t.kids.length x.c, .slice x.B x.t.clauses.length x.d, .slice x.C x.t.body.length x.e], .agg #[.int .i64 u.t.kind, .int .i64 u.t.int, .string ⟨u.t.name.toArray⟩, .slice u.A u.t.items.length u.c]] V' fun e w' => ∃ E2 : List (BG (TE w0)), e = .returned (.bool R2) ∧ vE E2 = R1 ∧ (∀ q ∈ E2, q.1 ∈ K) ∧ SM w' b (risG E2) ∧ Fr (fun k => k = b) Y w') := fun V' hb9 => (HCL.out V' (hX.sm.keep hb9) (HC.out V' (hfY.same (Fr.of_below hb9 _))).2).mono fun e w' ⟨E2, h1, h2, h3, h4, h5⟩ => ⟨E2, h3, h1, h2, h4, (Fr.of_below hb9 _).same h5⟩
      have HXA := Lib.hid (fun V' E2 h1 h2 => MX.act (V' := V') (E' := E2) hX h1 h2 hlt)
      clear hX hB hfY HC HCL HX
      cases R2 with
      | true =>
        go_region_held3 (fun V' => ((V'.cell? ⟨wr.heap.size, 0, none⟩ = some (.int .i64 x.t.kind) ∧ V'.cell? ⟨wr.heap.size, 1, none⟩ = some (.int .i64 x.t.int) ∧ V'.cell? ⟨wr.heap.size, 2, none⟩ = some (.string ⟨x.t.name.toArray⟩) ∧ V'.cell? ⟨wr.heap.size, 3, none⟩ = some (.int .i64 x.t.at_) ∧ V'.cell? ⟨wr.heap.size, 4, none⟩ = some (.slice x.A x.t.kids.length x.c) ∧ V'.cell? ⟨wr.heap.size, 5, none⟩ = some (.slice x.B x.t.clauses.length x.d) ∧ V'.cell? ⟨wr.heap.size, 6, none⟩ = some (.slice x.C x.t.body.length x.e)) ∧ V'.cell? ⟨W.heap.size + 1, 3, none⟩ = some (.slice (some ⟨bi, oi, none⟩) tl tc)) ∧ (V'.cell? ⟨bi, oi + k * 4, none⟩ = some (.int .i64 u.t.kind) ∧ V'.cell? ⟨bi, oi + k * 4 + 1, none⟩ = some (.int .i64 u.t.int) ∧ V'.cell? ⟨bi, oi + k * 4 + 2, none⟩ = some (.string ⟨u.t.name.toArray⟩) ∧ V'.cell? ⟨bi, oi + k * 4 + 3, none⟩ = some (.slice u.A u.t.items.length u.c))) (first | exact HS.out _ hf9 | exact HS.out _ (Fr.refl _ _).drew | exact HS.out _ (Fr.refl _ _)) ((go_at_call 29; refine (HCL2.out _ (by first | exact Below.refl _ _ | exact (Below.refl _ _).drew)).mono ?_; rintro e w' ⟨E2, rfl, h1, h2, hs9, hf9⟩))
        all_goals
          go_wp2
          go_roundw
          case rel => exact ⟨k + 1, E2, by omega, by go_num, by rw [HT9.out]; exact h1, by rw [HT9.out], h2, HXA.out _ _ hs9 hf9⟩
          case measure => simp [intOf]; omega
      | false =>
        go_region_held3 (fun V' => ((V'.cell? ⟨wr.heap.size, 0, none⟩ = some (.int .i64 x.t.kind) ∧ V'.cell? ⟨wr.heap.size, 1, none⟩ = some (.int .i64 x.t.int) ∧ V'.cell? ⟨wr.heap.size, 2, none⟩ = some (.string ⟨x.t.name.toArray⟩) ∧ V'.cell? ⟨wr.heap.size, 3, none⟩ = some (.int .i64 x.t.at_) ∧ V'.cell? ⟨wr.heap.size, 4, none⟩ = some (.slice x.A x.t.kids.length x.c) ∧ V'.cell? ⟨wr.heap.size, 5, none⟩ = some (.slice x.B x.t.clauses.length x.d) ∧ V'.cell? ⟨wr.heap.size, 6, none⟩ = some (.slice x.C x.t.body.length x.e)) ∧ V'.cell? ⟨W.heap.size + 1, 3, none⟩ = some (.slice (some ⟨bi, oi, none⟩) tl tc)) ∧ (V'.cell? ⟨bi, oi + k * 4, none⟩ = some (.int .i64 u.t.kind) ∧ V'.cell? ⟨bi, oi + k * 4 + 1, none⟩ = some (.int .i64 u.t.int) ∧ V'.cell? ⟨bi, oi + k * 4 + 2, none⟩ = some (.string ⟨u.t.name.toArray⟩) ∧ V'.cell? ⟨bi, oi + k * 4 + 3, none⟩ = some (.slice u.A u.t.items.length u.c))) (first | exact HS.out _ hf9 | exact HS.out _ (Fr.refl _ _).drew | exact HS.out _ (Fr.refl _ _)) ((go_at_call 29; refine (HCL2.out _ (by first | exact Below.refl _ _ | exact (Below.refl _ _).drew)).mono ?_; rintro e w' ⟨E2, rfl, h1, h2, hs9, hf9⟩))
        all_goals
          go_wp2
          go_ret
          have h8 := matchL_early l its (vE E) (k + 1) (by rw [HT9.out])
          rw [HF2.out, h8, HT9.out]
          exact ⟨E2, h1, h2, rfl, hs9, (HXA.out _ _ hs9 hf9).fr⟩
    · obtain rfl : k = tl := by omega
      have hd : decide (k < k) = false := by simp
      go_wp2_with (fail)
      go_ret
      have h8 := HV'.out
      have h9 := HM'.out
      rw [List.take_of_length_le (by rw [HLEN.out]; exact Nat.le_refl _), List.take_of_length_le (by rw [HTL.out]; exact Nat.le_refl _)] at h8 h9
      rw [HF2.out]
      exact ⟨E', h8, hEK, by rw [h9]; rfl, hX.sm, hX.fr⟩

/-- scope.match: at every pattern. -/
theorem mmatch_any (hK1 : ∀ s ∈ K, s.length ≤ 1000000) (hK2 : K.length ≤ 1000000) (hb : w0.heap.size ≤ b) (N : Nat) : ∀ (x : EN) (t : TE w0) (W : World) (E : List (BG (TE w0))), x.t.parts ≤ N → x.Ok NoB w0 → patB x.t = true → x.t.all (fun s => s ∈ K) → t.t.isT = true → (∀ q ∈ E, q.1 ∈ K) → SM W b (risG E) → Below w0.heap.size w0 W →
    Calls Tryz.prog 29 #[.map (some b), .agg #[.int .i64 x.t.kind, .int .i64 x.t.int, .string ⟨x.t.name.toArray⟩, .int .i64 x.t.at_, .slice x.A x.t.kids.length x.c, .slice x.B x.t.clauses.length x.d, .slice x.C x.t.body.length x.e], .agg #[.int .i64 t.t.kind, .int .i64 t.t.int, .string ⟨t.t.name.toArray⟩, .slice t.A t.t.items.length t.c]] W (MEnd w0 K b W (matchP x.t t.t (vE E))) := by
  induction N with
  | zero => intro x t W E hx; have := x.t.parts_pos; omega
  | succ N ih =>
    intro x t W E hN hok hpat hnm ht hE hs hW
    obtain ⟨hq, hql, _, _⟩ := (ND.all_iff x.t).1 hnm
    have hL := Nat.le_trans (risG_le hE) hK2
    have hR := hok.kids
    have hpe := x.t.parts_eq
    rw [patB_eq] at hpat
    rw [matchP_eq]
    obtain ⟨kd, hkd⟩ : ∃ kd, x.t.kind = kd := ⟨_, rfl⟩
    rw [hkd] at hpat ⊢
    have HIT : patL x.t.kids = true → ∀ (k : Nat) (h : k < x.t.kids.length) (h' : k < t.t.items.length) (y : EN) (u : TE w0) (V : World) (E : List (BG (TE w0))), y.t = x.t.kids[k] → u.t = t.t.items[k] → y.Ok NoB w0 → (∀ q ∈ E, q.1 ∈ K) → SM V b (risG E) → Below w0.heap.size w0 V → Calls Tryz.prog 29 #[.map (some b), .agg #[.int .i64 y.t.kind, .int .i64 y.t.int, .string ⟨y.t.name.toArray⟩, .int .i64 y.t.at_, .slice y.A y.t.kids.length y.c, .slice y.B y.t.clauses.length y.d, .slice y.C y.t.body.length y.e], .agg #[.int .i64 u.t.kind, .int .i64 u.t.int, .string ⟨u.t.name.toArray⟩, .slice u.A u.t.items.length u.c]] V (MEnd w0 K b V (matchP y.t u.t (vE E))) := fun hpl k h h' y u V E2 hy hu hyo hE2 hs2 hW2 => by
      refine ih y u V E2 ?_ hyo ?_ ?_ ?_ hE2 hs2 hW2
      · rw [hy]; have := ndparts_item x.t.kids k h; omega
      · rw [hy]; exact patL_at hpl h
      · rw [hy]; exact ndall_at hql h
      · rw [hu]
        have h9 := ht
        rw [TV.isT_eq, Bool.and_eq_true] at h9
        cases hi : t.t.items[k].isT with
        | true => rfl
        | false => have := isL_no t.t.items k h' hi; rw [this] at h9; cases h9.2
    by_cases h1 : kd = 1
    · subst h1; rw [if_pos rfl]; exact mm_k1 hE hs t hW hb _ _ _ _ _ _ ht
    rw [if_neg h1] at hpat ⊢
    by_cases h2 : kd = 2
    · subst h2; rw [if_pos rfl]; exact mm_k2 hE hs t hW hb _ _ _ _ _ _ ht
    rw [if_neg h2] at hpat ⊢
    by_cases h5 : kd = 5
    · subst h5; rw [if_pos rfl]; exact mm_k5 hE hs t hW hb _ _ _ _ _ _
    rw [if_neg h5] at ⊢
    by_cases h10 : kd = 10
    · subst h10
      simp only [Int.reduceEq, if_false, if_true, Bool.and_eq_true, beq_iff_eq] at hpat
      rw [if_pos rfl]
      obtain ⟨_, hl1, hk1⟩ := hpat
      obtain ⟨ba, oa, y, hA, hy, _, _, e1, _⟩ := rdn_item hR (k := 0) (by omega)
      have hneg : negK x.t.kids = IntKind.i64.wrap (-y.t.int) := by
        rw [hy]
        exact negK_one hl1
      rw [hneg, hA, hl1]
      simp only [Nat.zero_mul, Nat.add_zero] at e1
      have hc1 := hR.1
      exact mm_k10 hE hs t hW hb _ _ _ _ _ ht ba oa x.c y.t.int _ e1 rfl (by omega) hR.2.1
    rw [if_neg h10] at hpat ⊢
    by_cases h3 : kd = 3
    · subst h3
      rw [if_pos rfl]
      unfold varP
      cases hus : (x.t.name == [95]) with
      | true =>
        rw [if_pos (by simpa using hus)]
        exact mm_k3a hE hs t hW hb _ _ _ _ _ _ hus
      | false =>
        rw [if_neg (by simpa using hus), vE_get]
        cases hg : getG x.t.name E with
        | none => exact mm_k3c hE hs t hW hb _ _ _ _ _ _ hus (hK1 _ hq) hq hL hg
        | some e => exact mm_k3b hE hs t hW hb _ _ _ _ _ _ hus (hK1 _ hq) e hg
    rw [if_neg h3] at hpat ⊢
    rw [if_neg h5] at hpat
    by_cases h4 : kd = 4
    · subst h4
      rw [if_pos rfl] at hpat ⊢
      exact mm_k4 hE hs t hW hb _ _ _ _ _ _ _ _ hR (HIT hpat)
    rw [if_neg h4] at hpat ⊢
    by_cases h6 : kd = 6
    · subst h6
      rw [if_pos rfl, Bool.and_eq_true] at hpat
      rw [if_pos rfl]
      exact mm_k6 hE hs t hW hb _ _ _ _ _ _ _ _ hR (HIT hpat.2)
    rw [if_neg h6] at hpat
    cases hpat
end
end Go.Proofs.YtmpknhdfglbocaaGreat
