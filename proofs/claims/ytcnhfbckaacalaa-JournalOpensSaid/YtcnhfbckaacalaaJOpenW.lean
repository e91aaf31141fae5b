/- The walk of the statement JournalOpens. -/
import Derived.Test.YtcnhfbckaacalaaJRoomW
import Derived.Test.YtcnhfbckaacalaaJouV
namespace Go.Proofs.Ytcnhfbckaacalaa
open Go.RowKit
set_option linter.unusedVariables false

/-- The records are those asked for, if none was refused. -/
theorem all_step {all l : List (List UInt8)} {t : Nat} (ht : t < l.length) (h1 : all.length ≤ t) (h2 : all.length = t → all = l.take t) {all' : List (List UInt8)} (h : all' = all ∨ all' = all ++ [l[t]]) : all'.length ≤ t + 1 ∧ (all'.length = t + 1 → all' = l.take (t + 1)) := by
  rcases h with rfl | rfl
  · exact ⟨by omega, fun h => by omega⟩
  · rw [List.length_append]
    refine ⟨by simp; omega, fun h => ?_⟩
    have h3 : all.length = t := by simp at h; omega
    rw [h2 h3, ← List.take_succ_eq_append_getElem ht]
/-- append, where it is guarded. -/
theorem wpList_appG {P : Program} {w : World} {ops : Array Oper} {rest : List Oper} {o : Oper} {a : Act} {Q : Exit → Act → World → Prop} {t e : TypeId} {z : Value} {size bytes : Nat} (T : ElT P t e z size bytes) (hgd : Region.wanted o (yielded ops a.tmps) = true) (s x : Operand)
    (ho : o.op = .call { callee := .builtin .append, args := #[s, x], argTypes := #[t, t] }) (base : Nat)
    (v : Value) (n : Nat) (xs : List Value) (hs : a.eval s = v) (hown : w.ownsRow base e size v n xs) (A : Option Addr) (m c : Nat) (news : List Value) (hx : a.eval x = .slice A m c) (hl : news.length = m * size) (hnews : Cs w A news)
    (h1 : ∀ u ∈ news, u.oneCell' = true) (h63 : n + m ≤ maxLen) (hbytes : (n + m) * bytes ≤ 140737488355328) (hbase : base ≤ w.heap.size)
    (h : ∀ v' w', w'.ownsRow base e size v' (n + m) (xs ++ news) → w.grownBy w' v.ownBlock → (v'.ownBlock = v.ownBlock ∨ v'.ownBlock = some w.heap.size) → wpList P ops Q rest (a.put o.dst v') w') :
    wpList P ops Q (o :: rest) a w := by
  refine wpList_step fun K hK => ?_
  rw [if_pos hgd]
  obtain ⟨v', w', hr, h2, h3, h4⟩ := run_append_cs (P := P) w T o.type base v n xs hown A m c news hl hnews h1 h63 hbytes hbase
  unfold Oper.wp execOp
  simp only [ho, resolve, invoke, builtin, Sem.run_bind, Sem.run_pure, Result.andThen_ok, List.map_toArray, List.map_cons, List.map_nil, hs, hx, hr]
  exact hK _ _ (h v' w' h2 h3 h4)
theorem opens_end {w V V' : World} {B0 B1 nw : Nat} {u u' : Value} {rs ws : List (List UInt8)} {more : List UInt8} {A : Option Addr} {c : Nat} {vals : List Value} (ho : V'.ownsRow B0 9 1 u' (rs.length + 1) (rs.map tv ++ [tv more])) (hg : V.grownBy V' u.ownBlock) (hown : V.ownsRow B0 9 1 u rs.length (rs.map tv)) (hRc : Recs B1 V (.slice A nw c) ws vals) (hb : Below w.heap.size w V)
    (hu : ∀ g, u.ownBlock = some g → B0 ≤ g ∧ g < B1) (hws : rs ++ [more] = ws) (hnw : ws.length = nw) (hw : w.heap.size ≤ B0) (hn : nw ≤ 1300) :
    Hid (Below w.heap.size w V') ∧ ∃ Au cu, u' = .slice Au (rs.length + 1) cu ∧ Hid (Calls Try.prog 21 #[.slice A nw c, .slice Au (rs.length + 1) cu] V' fun e w' => e = .returned (.bool true) ∧ ∃ q, w' = V'.drewN q) := by
  have hf : Fr (fun k => u.ownBlock = some k) V V' := Fr.of_grown hg (fun k e _ => e)
  have hR2 := hRc.far hf (fun k e => (hu k e).2)
  have ho2 : V'.ownsRow B0 9 1 u' (rs.length + 1) (ws.map tv) := by rw [← hws, List.map_append]; exact ho
  obtain ⟨Au, cu, he, hrt, hl⟩ := own_rdt ho2
  refine ⟨hb.trans (hf.below hb.size (fun k e => Nat.le_trans hw (hu k e).1)), Au, cu, he, ?_⟩
  have h9 := same_any A Au nw c (rs.length + 1) cu ws ws V' hnw hl hR2.rdl hrt (by omega)
  rw [decide_eq_true (rfl : ws = ws)] at h9
  exact h9
theorem Recs.below_far {base B : Nat} {w w' : World} {v : Value} {rs : List (List UInt8)} {vals : List Value} (h : Recs base w v rs vals) (hb : Below w.heap.size w w') : Recs base w' v rs vals := h.keep hb

set_option maxRecDepth 100000 in
set_option maxHeartbeats 4000000 in
theorem opens_any (A : Option Addr) (n c : Nat) (l : List (List UInt8)) (B : Option Addr) (m c' : Nat) (more : List UInt8) (w : World) (hl : l.length = n) (hnc : n ≤ c) (hc : c ≤ 9223372036854775807) (hr : RdL w A l) (ho : ∀ s ∈ l, s.length ≤ 140737488351232)
    (hl' : more.length = m) (hmc : m ≤ 140737488351232) (hr' : Rd w B more) :
    Calls Try.prog 4 #[.slice A n c, .slice B m c'] w (Yes w) := by
  have HL := Lib.hid hl
  have HO := Lib.hid ho
  have HR := Lib.hid hr
  have HL' := Lib.hid hl'
  have HR' := Lib.hid hr'
  clear hl ho hr hl' hr'
  by_cases hn : 120 < n
  · have d9 : decide ((120 : Int) < (n : Int)) = true := by simp; omega
    go_enter Try.func4, Try.ntmps4
    go_wp2
    go_loop [5, 6] (fun s i => ∃ k sm : Nat, k ≤ 121 ∧ sm ≤ (k + 1) * 140737488351232 ∧ i = .int .i64 (k : Int) ∧ s = .int .i64 (sm : Int)) (fun _ i => 121 - (intOf i).toNat)
    case atStart => exact ⟨0, m, by omega, by omega, rfl, rfl⟩
    case round =>
      obtain ⟨k, s0, hk2, hs0, rfl, rfl⟩ := hrel
      by_cases h120 : k ≤ 120
      · have d1 : decide (k < n) = true := by simp; omega
        have d2 : decide ((k : Int) ≤ 120) = true := by simp; omega
        have hkl : k < l.length := by rw [HL.out]; omega
        obtain ⟨b, off, B9, cB9, rfl, hcell, hrb⟩ := HR.out.at_ hkl
        have hbd := HO.out _ (List.getElem_mem hkl)
        generalize l[k].length = ln at *
        have q1 : IntKind.i64.wrap ((s0 : Int) + (ln : Int)) = (s0 : Int) + (ln : Int) := IntWalk.i64_in _ (by omega)
        have d0 : decide ((0 : Int) ≤ (k : Int)) = true := by simp
        clear hrb
        go_wp2
        go_round
        case rel => exact ⟨k + 1, s0 + ln, by omega, by omega, by go_num, by go_num⟩
        case measure => simp [intOf]; omega
      · by_cases hlt0 : k < n
        · have d1 : decide (k < n) = true := by simpa using hlt0
          have d2 : decide ((k : Int) ≤ 120) = false := by simp; omega
          go_wp2_with (go_at_call 9; refine (live_any _).mono ?_; rintro r w1 ⟨rfl, hb9⟩)
          go_ret
          exact ⟨rfl, hb9⟩
        · have d1 : decide (k < n) = false := by simpa using hlt0
          go_wp2_with (go_at_call 9; refine (live_any _).mono ?_; rintro r w1 ⟨rfl, hb9⟩)
          go_ret
          exact ⟨rfl, hb9⟩
  have d9 : decide ((120 : Int) < (n : Int)) = false := by simp; omega
  go_enter Try.func4, Try.ntmps4
  go_wp2
  go_loop [5, 6] (fun s i => ∃ k : Nat, k ≤ n ∧ i = .int .i64 (k : Int) ∧ s = .int .i64 ((m + sumB (l.take k) : Nat) : Int)) (fun _ i => 121 - (intOf i).toNat)
  case atStart => exact ⟨0, Nat.zero_le _, rfl, rfl⟩
  case round =>
    obtain ⟨k, hk, rfl, rfl⟩ := hrel
    by_cases hlt : k < n
    · have d1 : decide (k < n) = true := by simpa using hlt
      have d2 : decide ((k : Int) ≤ 120) = true := by simp; omega
      have hkl : k < l.length := by rw [HL.out]; exact hlt
      obtain ⟨b, off, B9, cB, rfl, hcell, hrb⟩ := HR.out.at_ hkl
      have HS := Lib.hid (show sumB (l.take (k + 1)) = sumB (l.take k) + l[k].length by rw [List.take_succ_eq_append_getElem hkl, sumB_snoc])
      have hbd := HO.out _ (List.getElem_mem hkl)
      have hsb := take_bound (k := k) HO.out (by omega)
      obtain ⟨ln, hln⟩ : ∃ ln, l[k].length = ln := ⟨_, rfl⟩
      rw [hln] at hcell HS hbd
      obtain ⟨sm, hsm⟩ : ∃ sm, m + sumB (l.take k) = sm := ⟨_, rfl⟩
      have HS2 := Lib.hid (show m + sumB (l.take (k + 1)) = sm + ln by rw [HS.out]; omega)
      have hsm2 : sm ≤ 122 * 140737488351232 := by omega
      rw [hsm] at ⊢
      have q1 : IntKind.i64.wrap ((sm : Int) + (ln : Int)) = (sm : Int) + (ln : Int) := IntWalk.i64_in _ (by omega)
      have d0 : decide ((0 : Int) ≤ (k : Int)) = true := by simp
      clear hln hsm hrb HS
      go_wp2
      go_round
      case rel => exact ⟨k + 1, by omega, by go_num, by rw [HS2.out]; rfl⟩
      case measure => simp [intOf]; omega
    obtain rfl : k = n := by omega
    have d1 : decide (k < k) = false := by simp
    rw [List.take_of_length_le (by rw [HL.out]; exact Nat.le_refl _)]
    obtain ⟨sm, hsm⟩ : ∃ sm, m + sumB l = sm := ⟨_, rfl⟩
    rw [hsm]
    by_cases b2 : 20000 < sm
    · have d4 : decide ((20000 : Int) < (sm : Int)) = true := by simp; omega
      go_wp2_with (go_at_call 9; refine (live_any _).mono ?_; rintro r w1 ⟨rfl, hb9⟩)
      go_ret
      exact ⟨rfl, hb9⟩
    have d4 : decide ((20000 : Int) < (sm : Int)) = false := by simp; omega
    have HSM : Hid (∀ s ∈ l, s.length ≤ 20000) := fun s hs => by have := sumB_mem hs; omega
    have hm9 : m ≤ 20000 := by omega
    have hn1 : k ≤ 120 := by omega
    go_upto_region 8 with (fail)
    clear d1 d4 d9 hsm b2
    have HN := Lib.hid (new_ok 12 64 w (by omega) (by omega) (by omega) (by omega))
    obtain ⟨r0, r1, h0⟩ := jon_fresh 2 10 0 12 (by omega) (by omega)
    have HD0 := Lib.hid (DS.fresh_ok (nb := 12) (size := 64) (by omega) (by omega) (by omega) (by omega))
    obtain ⟨D0, hD0⟩ : ∃ D0, DS.fresh 12 64 = D0 := ⟨_, rfl⟩
    rw [hD0] at HN r0 h0 HD0
    have HR0 := Lib.hid r0
    have HR1 := Lib.hid r1
    have H0 := Lib.hid h0
    have HLG := Lib.hid (show D0.log.length = 0 by rw [← hD0]; rfl)
    clear hD0 r0 r1 h0
    go_upto_region 9 with (go_at_call 10; refine HN.out.mono ?_; rintro e w1 ⟨pd, p, rfl, hD1, hb1, hF1⟩)
    obtain ⟨pa, hpa⟩ : ∃ pa, w1.heap.size = pa := ⟨_, rfl⟩
    have hA2 : Blk (w1.alloc (.cells #[.int .i64 2, .int .i64 10] 34)) pa 34 #[.int .i64 2, .int .i64 10] := by rw [← hpa]; exact Blk.new _ _ _
    have hF2 : ∀ k, p.F pd k → w.heap.size ≤ k ∧ k < pa := fun k hk => ⟨hF1 k hk, by rw [← hpa]; exact hD1.lt k hk⟩
    have hpaw : w.heap.size ≤ pa := by rw [← hpa]; exact hb1.size
    go_upto_region 10 with (fail)
    refine wp_world (fun V => (DiskAt pd p D0 V ∧ Below w.heap.size w V) ∧ Blk V pa 34 #[.int .i64 2, .int .i64 10]) ⟨⟨hD1.keep (below_alloc _ _), below_step hb1 (below_alloc _ _)⟩, hA2⟩ ?_
    clear HN hA2 hF1 hD1 hb1 hpa
    rintro w2 ⟨⟨hD2, hb2⟩, hA2⟩
    have e0 : w2.cell? ⟨pa, 0, none⟩ = some (.int .i64 2) := hA2.cell 0
    have e1 : w2.cell? ⟨pa, 1, none⟩ = some (.int .i64 10) := hA2.cell 1
    have hpa2 := hA2.lt
    have HOP := Lib.hid (zopen_any hD2 HD0.out hb2 10 0 hA2 (fun k hk => ⟨(hF2 k hk).1, by have := (hF2 k hk).2; omega⟩) (by rw [H0.out.nb_]; omega) (by omega) (by omega) (by omega) H0.out.off HR0.out (by omega) HR1.out)
    clear hD2 hb2 hA2 hF2
    go_upto_region 11 with (go_at_call 12; refine HOP.out.mono ?_; rintro e w3 ⟨hb3, pj, v, A2, cA, vals, rfl, hZ3, hRc3⟩)
    have HZ3 := Lib.hid hZ3
    clear HOP hb3 hZ3 hRc3 e0 e1
    go_upto_region 14 with (go_at_call 11; refine (num_any _ _).mono ?_; rintro e w' ⟨rfl, rfl⟩)
    go_loopw [13] (fun i wr => ∃ (t : Nat) (v' : Value) (p' : Pl) (J : JV) (D : DS) (all : List (List UInt8)), t ≤ k ∧ i = .int .i64 (t : Int) ∧ JZ w pa 10 pj v' J pd p' D wr ∧ JOn 2 10 0 1 12 D J all 0 ∧ D.log.length ≤ t * 10 ∧ all.length ≤ t ∧ (all.length = t → all = l.take t)) (fun i _ => k - (intOf i).toNat)
    case atStart => exact ⟨0, v, p, _, D0, [], Nat.zero_le _, rfl, HZ3.out, H0.out, by rw [HLG.out]; omega, Nat.le_refl _, fun _ => rfl⟩
    case round =>
      obtain ⟨t, v', p', J, D, all, ht, rfl, hZ, hO, hlg, hal, hal2⟩ := hrel
      clear HZ3
      by_cases hlt2 : t < k
      · have d1 : decide (t < k) = true := by simpa using hlt2
        have hkl : t < l.length := by rw [HL.out]; exact hlt2
        obtain ⟨b, off, C, cC, rfl, hcell, hrc⟩ := (HR.out.below hZ.jd.bel).at_ hkl
        have hsl := HSM.out _ (List.getElem_mem hkl)
        have d0 : decide ((0 : Int) ≤ (t : Int)) = true := by simp
        obtain ⟨e, J', D', all', hap, hO', hlg', he9, ha1, ha2⟩ := hO.appAny hZ.jd.jok hZ.jd.ok (s := l[t]) (by omega) (by omega)
        have HAL := Lib.hid (all_step hkl hal hal2 (all' := all') (by
          rcases he9 with h9 | h9
          · exact .inr (ha1 h9)
          · exact .inl (ha2 (by omega))))
        obtain ⟨s, hs⟩ : ∃ s, l[t] = s := ⟨_, rfl⟩
        rw [hs] at hcell hrc hsl hap
        have HAP : Hid (Calls Try.prog 17 #[.pointer (some ⟨pj, 0, none⟩), .slice C s.length cC] wr fun r w' => r = .returned (.int .i64 (e : Int)) ∧ ∃ v'' p'', JZ w pa 10 pj v'' J' pd p'' D' w') := by
          have h9 := jappend_any hZ.jd.anew s C s.length cC rfl (by omega) hrc (by rw [hO.len_]; omega)
          rw [hap] at h9
          exact h9.mono fun r w' ⟨h1, v'', p'', h2⟩ => ⟨h1, v'', p'', hZ.act h2⟩
        obtain ⟨sl, hsle⟩ : ∃ sl, s.length = sl := ⟨_, rfl⟩
        rw [hsle] at hcell HAP
        have HO' := Lib.hid (And.intro hO' (show D'.log.length ≤ (t + 1) * 10 by omega))
        clear hap hZ hO hO' hrc hlg' hsle hs ha1 ha2 hal hal2
        go_wp2_with (go_at_call 17; refine HAP.out.mono ?_; rintro r w9 ⟨rfl, v9, p9, hZ9⟩; (have HZ9 := Lib.hid hZ9); clear hZ9 HAP)
        go_roundw
        case rel => exact ⟨t + 1, v9, p9, J', D', all', by omega, by go_num, HZ9.out, HO'.out.1, HO'.out.2, HAL.out.1, HAL.out.2⟩
        case measure => simp [intOf]; omega
      obtain rfl : t = k := by omega
      have d1 : decide (t < t) = false := by simp
      have HAL : Hid (all.length = t → all = l) := fun h => by
        have h9 := hal2 h
        rw [List.take_of_length_le (by rw [HL.out]; exact Nat.le_refl _)] at h9
        exact h9
      obtain ⟨lg, hlgl⟩ : ∃ lg, D.log.length = lg := ⟨_, rfl⟩
      have HLOG : Hid (∀ V, JZ w pa 10 pj v' J pd p' D V → Calls Try.prog 16 #[.pointer (some ⟨pd, 0, none⟩)] V fun e w' => ∃ B c, e = .returned (.slice B lg c) ∧ Below V.heap.size V w') := fun V hV => by
        refine (log_any hV.jd.disk hV.jd.ok).mono ?_
        rintro e w' ⟨v9, rfl, ho9, hb9⟩
        obtain ⟨B9, c9, rfl, _⟩ := own_rdi ho9
        rw [hlgl]
        exact ⟨B9, c9, rfl, hb9⟩
      rw [hlgl] at hlg
      obtain ⟨RS, lf, kk, o1, o2, o3, o4, o5, o6⟩ := hO.opened hZ.jd.jok
      have hoff := hO.off
      have hnb := hO.nb_
      have HOK := Lib.hid hZ.jd.ok
      have HREC := Lib.hid hO.st.recs
      obtain ⟨rs, hrs⟩ : ∃ rs, all.take kk = rs := ⟨_, rfl⟩
      obtain ⟨sf, hsf⟩ : ∃ sf, (laidSs rs).length = sf := ⟨_, rfl⟩
      have hkk : rs.length = kk := by rw [← hrs, List.length_take]; omega
      rw [hrs, hsf] at o3 o6
      have HOP : Hid (∀ V, JZ w pa 10 pj v' J pd p' D V → Calls Try.prog 12 #[.pointer (some ⟨pd, 0, none⟩), .agg #[.int .i64 2, .int .i64 10], .int .i64 0] V (ZOpened w pa 10 V pd p' D ⟨2, 10, 0, lf + 1, RS.take sf, sf, rs.length, false⟩ rs)) := fun V hV => zopen_any hV.jd.disk hV.jd.ok hV.jd.bel 10 0 hV.area hV.fresh (by rw [hnb]; omega) (by omega) (by omega) (by omega) hoff o1 (by omega) o3
      have HO6 := Lib.hid o6
      have HLE := Lib.hid hlgl
      have HRS := Lib.hid hrs
      have HSF := Lib.hid hsf
      clear o1 o3 o6 hO hlgl hrs hsf hal2
      go_upto_region 18 with (go_at_call 16; refine (HLOG.out _ hZ).mono ?_; rintro e w9 ⟨B9, c9, rfl, hb9⟩)
      have hZ9 := hZ.keep hb9
      obtain ⟨e0, e1⟩ := hZ9.cells
      have HZ9 := Lib.hid hZ9
      clear hZ hZ9 hb9
      go_upto_region 19 with (go_at_call 12; refine (HOP.out _ HZ9.out).mono ?_; rintro r w10 ⟨hb10, pq, vq, Aa, ca, valsa, rfl, hZq, hRa⟩)
      have HZ10 := Lib.hid (And.intro (HZ9.out.keep hb10) hRa)
      obtain ⟨e0, e1⟩ := HZ10.out.1.cells
      clear hZq hRa hb10 HZ9
      go_upto_region 20 with (go_at_call 12; refine (HOP.out _ HZ10.out.1).mono ?_; rintro r w11 ⟨hb11, pk, vk, Ab, cb, valsb, rfl, hZk, hRb⟩)
      have HZ11 := Lib.hid (And.intro (And.intro (HZ10.out.1.keep hb11) hZk) (And.intro (HZ10.out.2.keep hb11) hRb))
      clear hZk hRb hb11 HZ10 HOP
      have HLOG2 := Lib.hid (HLOG.out _ HZ11.out.1.1)
      have hus : (RS.take sf).length = sf := by
        have h9 : RS.take sf = laidSs rs := HO6.out.st.strm
        rw [h9, HSF.out]
      have HREK : Hid (∀ V, JZ w pa 10 pk vk ⟨2, 10, 0, lf + 1, RS.take sf, sf, rs.length, false⟩ pd p' D V → Calls Try.prog 20 #[.pointer (some ⟨pk, 0, none⟩)] V fun e w' => e = .returned (.int .i64 (kk : Int)) ∧ V = w') := fun V hV => by rw [← hkk]; exact jrecords_any hV.jd
      have HSAK : Hid (∀ V, JZ w pa 10 pk vk ⟨2, 10, 0, lf + 1, RS.take sf, sf, rs.length, false⟩ pd p' D V → Calls Try.prog 18 #[.pointer (some ⟨pk, 0, none⟩)] V fun e w' => e = .returned (.int .i64 (sf : Int)) ∧ V = w') := fun V hV => jsafe_any hV.jd
      have HUSK : Hid (∀ V, JZ w pa 10 pk vk ⟨2, 10, 0, lf + 1, RS.take sf, sf, rs.length, false⟩ pd p' D V → Calls Try.prog 15 #[.pointer (some ⟨pk, 0, none⟩)] V fun e w' => e = .returned (.int .i64 (sf : Int)) ∧ V = w') := fun V hV => by
        have h9 := jused_any hV.jd
        rw [show (⟨2, 10, 0, lf + 1, RS.take sf, sf, rs.length, false⟩ : JV).stream.length = sf from hus] at h9
        exact h9
      clear hus
      go_upto_region 24 with (first
        | (go_at_call 11; refine (num_any _ _).mono ?_; rintro e w' ⟨rfl, rfl⟩)
        | (go_at_call 16; refine HLOG2.out.mono ?_; rintro e w12 ⟨B12, c12, rfl, hb12⟩; (have HZ12 := Lib.hid (And.intro (And.intro (HZ11.out.1.1.keep hb12) (HZ11.out.1.2.keep hb12)) (And.intro (HZ11.out.2.1.keep hb12) (HZ11.out.2.2.keep hb12)))); clear hb12)
        | (go_at_call 20; refine (HREK.out _ HZ12.out.1.2).mono ?_; rintro e w' ⟨rfl, rfl⟩)
        | (go_at_call 18; refine (HSAK.out _ HZ12.out.1.2).mono ?_; rintro e w' ⟨rfl, rfl⟩)
        | (go_at_call 15; refine (HUSK.out _ HZ12.out.1.2).mono ?_; rintro e w' ⟨rfl, rfl⟩))
      clear HREK HSAK HUSK HLOG2 HZ11 HLOG
      have hpa12 := HZ12.out.1.1.area.lt
      go_loopw [21, 22] (fun u i wr => ∃ (q : Nat), q ≤ kk ∧ i = .int .i64 (q : Int) ∧ Below w12.heap.size w12 wr ∧ Want w12.heap.size wr u (rs.take q) pd p' pk vk) (fun _ i _ => kk - (intOf i).toNat)
      case atStart => exact ⟨0, Nat.zero_le _, rfl, Below.refl _ _, Want.nil_ _ _ _ _ _ _⟩
      case round =>
        obtain ⟨q, hq, rfl, hbw, hW⟩ := hrel
        by_cases hlt3 : q < kk
        · have d1 : decide (q < kk) = true := by simpa using hlt3
          have hqr : q < rs.length := by rw [hkk]; exact hlt3
          have hql : q < l.length := by rw [HL.out]; omega
          have hqa : q < all.length := by omega
          obtain ⟨ga, Ba, cBa, hAa, hcA, hrA⟩ := (HZ12.out.2.1.keep hbw).at_ q hqr
          obtain ⟨gb, Bb, cBb, hAb, hcB, hrB⟩ := (HZ12.out.2.2.keep hbw).at_ q hqr
          subst hAa hAb
          obtain ⟨b, off, C, cC, hAl, hcL, hrL⟩ := (HR.out.below (below_step HZ12.out.1.1.jd.bel hbw)).at_ hql
          subst hAl
          have HTK := Lib.hid (show rs.take (q + 1) = rs.take q ++ [rs[q]] from List.take_succ_eq_append_getElem hqr)
          have HAT : Hid (∀ V, Below w12.heap.size w12 V → ∃ C' cC', V.cell? ⟨ga, q, none⟩ = some (.slice C' (rs[q]).length cC') ∧ Rd V C' rs[q]) := fun V hV => by
            obtain ⟨g9, C', cC', e9, h1, h2⟩ := (HZ12.out.2.1.keep hV).at_ q hqr
            injection e9 with e9
            injection e9 with e9
            subst e9
            exact ⟨C', cC', h1, h2⟩
          have hne : rs[q] ≠ l[q] → ¬ t = all.length := fun h e => by
            apply h
            have h9 := HAL.out e.symm
            have h8 : rs = l.take kk := by rw [← HRS.out, h9]
            simp only [h8, List.getElem_take]
          generalize rs[q] = x at *
          generalize l[q] = y at *
          have hstA : ∀ z, (convert 23 9 (.slice Ba x.length cBa)).run Try.prog (wr.drewN z) = .ok (.string ⟨x.toArray⟩) (wr.drewN z) := fun z => run_str (P := Try.prog) Try.underlying23 Try.underlying5 Try.underlying9 (wr.drewN z) Ba x.length cBa x rfl (hrA.below (below_drewN (Below.refl _ _) z))
          have hstB : ∀ z, (convert 23 9 (.slice Bb x.length cBb)).run Try.prog (wr.drewN z) = .ok (.string ⟨x.toArray⟩) (wr.drewN z) := fun z => run_str (P := Try.prog) Try.underlying23 Try.underlying5 Try.underlying9 (wr.drewN z) Bb x.length cBb x rfl (hrB.below (below_drewN (Below.refl _ _) z))
          have hstL : ∀ z, (convert 23 9 (.slice C y.length cC)).run Try.prog (wr.drewN z) = .ok (.string ⟨y.toArray⟩) (wr.drewN z) := fun z => run_str (P := Try.prog) Try.underlying23 Try.underlying5 Try.underlying9 (wr.drewN z) C y.length cC y rfl (hrL.below (below_drewN (Below.refl _ _) z))
          obtain ⟨al, hale⟩ : ∃ al, all.length = al := ⟨_, rfl⟩
          rw [hale] at hne
          have HRJ : Hid (∀ z, Calls Try.prog 20 #[.pointer (some ⟨pj, 0, none⟩)] (wr.drewN z) fun e w' => e = .returned (.int .i64 (al : Int)) ∧ (wr.drewN z) = w') := fun z => by
            have h9 := jrecords_any ((HZ12.out.1.1.keep hbw).drewN z).jd
            rw [HREC.out, hale] at h9
            exact h9
          have d0 : decide ((0 : Int) ≤ (q : Int)) = true := by simp
          have hxx : (x == x) = true := by simp
          have HBW := Lib.hid (And.intro hbw hW)
          clear hrA hrB hrL hale hbw hW
          have hways : ((x == y) = true) ∨ ((x == y) = false ∧ (t == al) = false) := by
            by_cases he : x = y
            · left; simpa using he
            · right; exact ⟨by simpa using he, by simpa using hne he⟩
          clear hne
          rcases hways with hE | ⟨hE, hE2⟩
          all_goals
            go_upto_region 26 with (fail)
            go_quiet ((go_at_call 20; exact Calls.quiet_of_same ((HRJ.out _).mono fun e w' ⟨he, hw⟩ => ⟨he, hw.symm⟩)))
            go_upto_region 28 with (fail)
            refine wp_world (fun V => Below w12.heap.size w12 V ∧ Want w12.heap.size V u21 (rs.take q) pd p' pk vk) ⟨below_drewN HBW.out.1 _, HBW.out.2.keep (below_drewN (Below.refl _ _) _)⟩ ?_
            clear HBW hcA hcB hcL hstA hstB hstL HRJ hE
            rintro w13 ⟨hbw, hW⟩
            obtain ⟨C9, c9, hcell9, hrc9⟩ := HAT.out w13 hbw
            obtain ⟨sl, hsl⟩ : ∃ sl, x.length = sl := ⟨_, rfl⟩
            have hst := run_str (P := Try.prog) Try.underlying23 Try.underlying5 Try.underlying9 w13 C9 sl c9 x hsl hrc9
            rw [hsl] at hcell9
            have hbA := below_alloc w13 (.cells #[.string ⟨x.toArray⟩] 9)
            obtain ⟨rq, hrq⟩ : ∃ rq, rs.take q = rq := ⟨_, rfl⟩
            have hrql : rq.length = q := by rw [← hrq, List.length_take]; omega
            rw [hrq] at hW
            have HA : Hid (Below w12.heap.size w12 (w13.alloc (.cells #[.string ⟨x.toArray⟩] 9)) ∧ Want w12.heap.size (w13.alloc (.cells #[.string ⟨x.toArray⟩] 9)) u21 rq pd p' pk vk) := ⟨below_step hbw hbA, hW.keep hbA⟩
            have hbs : w12.heap.size ≤ (w13.alloc (.cells #[.string ⟨x.toArray⟩] 9)).heap.size := HA.out.1.size
            have hone := one_cell_t x
            have hmx : rq.length + 1 ≤ maxLen := by simp only [maxLen]; omega
            have hbx : (rq.length + 1) * 16 ≤ 140737488355328 := by omega
            have hcs : Cs (w13.alloc (.cells #[.string ⟨x.toArray⟩] 9)) (some ⟨w13.heap.size, 0, none⟩) [tv x] := cs_tv w13 x
            have HRQ := Lib.hid hrq
            clear hbw hW hrc9 hbA hrq hrql
            go_wp2_with (at_builtin; (with_reducible refine wpList_app textsT rfl (.tmp 180) (.tmp 186) rfl w12.heap.size u21 rq.length (rq.map tv) rfl HA.out.2.own (some ⟨w13.heap.size, 0, none⟩) 1 1 [tv x] rfl rfl hcs hone hmx hbx hbs ?_); intro v14 w14 ho14 hg14 hw14)
            have HE : Hid (Below w12.heap.size w12 w14 ∧ Want w12.heap.size w14 v14 (rs.take (q + 1)) pd p' pk vk) := by
              refine ⟨HA.out.1.trans ((Fr.of_grown (F := fun z => u21.ownBlock = some z) hg14 (fun z e _ => e)).below HA.out.1.size (fun z hz => (World.ownsRow.lt HA.out.2.own z hz).1)), ?_⟩
              rw [HTK.out, HRQ.out]
              exact HA.out.2.app ((HZ12.out.1.2.keep HA.out.1).jd) hg14 ho14 hw14
            clear ho14 hg14 hw14 hcs hone
            go_roundw
            case rel => exact ⟨q + 1, by omega, by go_num, HE.out.1, HE.out.2⟩
            case measure => simp [intOf]; omega
        obtain rfl : q = kk := by omega
        have d1 : decide (q < q) = false := by simp
        rw [List.take_of_length_le (by omega)] at hW
        have hZ := HZ12.out.1.2.keep hbw
        have hrM := HR'.out.below hZ.jd.bel
        have hlg9 : D.log.length + 10 ≤ 1000000 := by rw [HLE.out]; omega
        rcases HO6.out.app hZ.jd.jok hZ.jd.ok (p := more) (by rw [HL'.out]; omega) hlg9 with ⟨_, hap⟩ | ⟨_, J5, D5, hap, hO5, _, hg5, _⟩
        · have HAP : Hid (Calls Try.prog 17 #[.pointer (some ⟨pk, 0, none⟩), .slice B m c'] wr fun r w' => r = .returned (.int .i64 60) ∧ Below w.heap.size w w') := by
            have h9 := jappend_any hZ.jd more B m c' HL'.out (by omega) hrM (by rw [HLE.out]; show lg + 10 + 1 ≤ _; omega)
            rw [hap] at h9
            exact h9.mono fun r w' ⟨h1, v'', p'', h2⟩ => ⟨h1, h2.bel⟩
          clear hap hZ hrM hW hbw
          go_wp2_with (first
            | (go_at_call 11; refine (num_any _ _).mono ?_; rintro e w' ⟨rfl, rfl⟩)
            | (go_at_call 17; refine HAP.out.mono ?_; rintro r w15 ⟨rfl, hb15⟩)
            | (go_at_call 9; refine (live_from hb15).mono ?_; rintro r w1 ⟨rfl, hb9⟩))
          go_ret
          exact ⟨rfl, hb9⟩
        · have HAP : Hid (Calls Try.prog 17 #[.pointer (some ⟨pk, 0, none⟩), .slice B m c'] wr fun r w' => r = .returned (.int .i64 0) ∧ ∃ v'' p'', JZ w pa 10 pk v'' J5 pd p'' D5 w' ∧ Want w12.heap.size w' u21 rs pd p'' pk v'' ∧ w12.heap.size ≤ w'.heap.size) := by
            have h9 := jappend_any hZ.jd.anew more B m c' HL'.out (by omega) hrM (by rw [HLE.out]; show lg + 10 + 1 ≤ _; omega)
            rw [hap] at h9
            exact h9.mono fun r w' ⟨h1, v'', p'', h2⟩ => ⟨h1, v'', p'', hZ.act h2, hW.act h2, Nat.le_trans hbw.size h2.belx.size⟩
          have hg6 : D5.log.length + 1 ≤ 1000000 := by rw [HLE.out] at hg5; omega
          have HO5 := Lib.hid hO5
          have hbig : w12.heap.size ≤ wr.heap.size := hbw.size
          clear hap hZ hrM hW hbw hO5 hlg9
          go_upto_region 31 with (first
            | (go_at_call 11; refine (num_any _ _).mono ?_; rintro e w' ⟨rfl, rfl⟩)
            | (go_at_call 17; refine HAP.out.mono ?_; rintro r w15 ⟨rfl, v15, p15, hZ15, hW15, hs15⟩))
          obtain ⟨J7, D7, hF, hO7, -, -, hg7⟩ := HO5.out.flush hZ15.jd.jok hZ15.jd.ok hg6
          have HF : Hid (Calls Try.prog 19 #[.pointer (some ⟨pk, 0, none⟩)] w15 fun r w' => r = .returned (.int .i64 0) ∧ ∃ v'' p'', JZ w pa 10 pk v'' J7 pd p'' D7 w' ∧ Want w12.heap.size w' u21 rs pd p'' pk v'' ∧ w12.heap.size ≤ w'.heap.size) := by
            have h9 := jflush_any hZ15.jd.anew hg6
            rw [hF] at h9
            exact h9.mono fun r w' ⟨h1, v'', p'', h2⟩ => ⟨h1, v'', p'', hZ15.act h2, hW15.act h2, Nat.le_trans hs15 h2.belx.size⟩
          have HO7 := Lib.hid hO7
          clear hF hO7 hZ15 hW15 HAP
          go_upto_region 32 with (go_at_call 19; refine HF.out.mono ?_; rintro r w16 ⟨rfl, v16, p16, hZ16, hW16, hs16⟩)
          obtain ⟨RS7, lf7, k7, x1, x2, x3, x4, x5, x6⟩ := HO7.out.opened hZ16.jd.jok
          obtain rfl : k7 = (rs ++ [more]).length := by omega
          rw [List.take_of_length_le (Nat.le_refl _)] at x3
          obtain ⟨ws, hws⟩ : ∃ ws, rs ++ [more] = ws := ⟨_, rfl⟩
          rw [hws] at x3
          have hnw : ws.length = rs.length + 1 := by rw [← hws, List.length_append]; rfl
          obtain ⟨nw, hnw3⟩ : ∃ nw, ws.length = nw := ⟨_, rfl⟩
          have HOP : Hid (Calls Try.prog 12 #[.pointer (some ⟨pd, 0, none⟩), .agg #[.int .i64 2, .int .i64 10], .int .i64 0] w16 (ZOpened w pa 10 w16 pd p16 D7 ⟨2, 10, 0, lf7 + 1, RS7.take (laidSs ws).length, (laidSs ws).length, ws.length, false⟩ ws)) := zopen_any hZ16.jd.disk hZ16.jd.ok hZ16.jd.bel 10 0 hZ16.area hZ16.fresh (by rw [HO7.out.nb_]; omega) (by omega) (by omega) (by omega) HO7.out.off x1 (by omega) x3
          obtain ⟨e0, e1⟩ := hZ16.cells
          have HW16 := Lib.hid (And.intro hW16 hZ16.jd.bel)
          have HWS := Lib.hid (And.intro hws hnw3)
          have hnw4 : nw = rs.length + 1 := by omega
          have HNW := Lib.hid hnw4
          have hnb2 : nw ≤ 1300 := by omega
          clear x1 x2 x3 x4 x5 x6 hZ16 hW16 HF hws hnw hnw3 hnw4
          go_upto_region 33 with (go_at_call 12; refine HOP.out.mono ?_; rintro r w17 ⟨hb17, pc, v17, A17, c17, vals17, rfl, hZ17, hRc17⟩)
          rw [HWS.out.2] at hRc17 ⊢
          have hst := run_str (P := Try.prog) Try.underlying23 Try.underlying5 Try.underlying9 w17 B m c' more HL'.out (HR'.out.below hZ17.jd.bel)
          have hbA := below_alloc w17 (.cells #[.string ⟨more.toArray⟩] 9)
          have HA : Hid ((w17.alloc (.cells #[.string ⟨more.toArray⟩] 9)).ownsRow w12.heap.size 9 1 u21 rs.length (rs.map tv) ∧ Recs w16.heap.size (w17.alloc (.cells #[.string ⟨more.toArray⟩] 9)) (.slice A17 nw c17) ws vals17 ∧ Below w.heap.size w (w17.alloc (.cells #[.string ⟨more.toArray⟩] 9))) := ⟨((HW16.out.1.keep hb17).keep hbA).own, hRc17.keep hbA, below_step hZ17.jd.bel hbA⟩
          have HWB : Hid (∀ g, u21.ownBlock = some g → w12.heap.size ≤ g ∧ g < w16.heap.size) := fun g hg => World.ownsRow.lt HW16.out.1.own g hg
          have hbs : w12.heap.size ≤ (w17.alloc (.cells #[.string ⟨more.toArray⟩] 9)).heap.size := by
            have h9 := hb17.size
            have h8 := hbA.size
            omega
          have hone := one_cell_t more
          have hmx : rs.length + 1 ≤ maxLen := by simp only [maxLen]; omega
          have hbx : (rs.length + 1) * 16 ≤ 140737488355328 := by omega
          have hcs : Cs (w17.alloc (.cells #[.string ⟨more.toArray⟩] 9)) (some ⟨w17.heap.size, 0, none⟩) [tv more] := cs_tv w17 more
          have hwle := HZ12.out.1.1.jd.bel.size
          clear hZ17 hRc17 hb17 hbA HOP HW16 hkk
          go_wp2_with (first
            | (go_at_call 11; refine (num_any _ _).mono ?_; rintro e w' ⟨rfl, rfl⟩)
            | (at_builtin; (refine wpList_appG textsT (by first | rfl | simp [Region.wanted, yielded]) (.tmp 211) (.tmp 214) rfl w12.heap.size u21 rs.length (rs.map tv) rfl HA.out.1 (some ⟨w17.heap.size, 0, none⟩) 1 1 [tv more] rfl rfl hcs hone hmx hbx hbs ?_); intro v18 w18 ho18 hg18 hw18; (obtain ⟨HB18, HSA⟩ := opens_end ho18 hg18 HA.out.1 HA.out.2.1 HA.out.2.2 HWB.out HWS.out.1 HWS.out.2 hwle hnb2); (obtain ⟨Au, cu, hv18, HSA⟩ := HSA); subst hv18; clear ho18 hg18 hw18)
            | (go_at_call 21; refine HSA.out.mono ?_; rintro r w19 ⟨rfl, q19, rfl⟩)
            | (go_at_call 9; refine (live_from (below_drewN HB18.out _)).mono ?_; rintro r w1 ⟨rfl, hb9⟩))
          go_ret
          exact ⟨rfl, hb9⟩
end Go.Proofs.Ytcnhfbckaacalaa
