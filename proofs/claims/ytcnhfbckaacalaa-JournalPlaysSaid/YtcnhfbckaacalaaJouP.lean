/- A text that is read takes bytes. No function of the program is named here. The walk of Open of layer 6, where it opens. -/
import Derived.Test.YtcnhfbckaacalaaTapeC
import Derived.Test.YtcnhfbckaacalaaJouO
import Derived.Test.YtcnhfbckaacalaaTapeD
namespace Go.Proofs.Ytcnhfbckaacalaa
section
open Go.RowKit
set_option linter.unusedVariables false
theorem rest_pos {t : TS} {wd : Nat} {b : Bool} (hp : t.pos < t.bytes.length) (h0 : t.fault = 0) (h : (t.rest wd b).2.fault = 0) : t.pos < (t.rest wd b).2.pos ∧ (t.rest wd b).2.pos ≤ t.bytes.length ∧ (t.rest wd b).2.bytes = t.bytes := by
  unfold TS.rest at h ⊢
  split at h
  · simp [TS.stops] at h
  · split at h
    · simp [TS.stops] at h
    · split at h
      · simp [TS.stops] at h
      · rename_i h1 h2 h3
        rw [if_neg h1, if_neg h2, if_neg h3]
        refine ⟨by simp only; omega, by simp only; omega, rfl⟩
theorem number_pos {t : TS} (h0 : t.fault = 0) (h : (t.number false).2.fault = 0) : t.pos < (t.number false).2.pos ∧ (t.number false).2.pos ≤ t.bytes.length ∧ (t.number false).2.bytes = t.bytes := by
  unfold TS.number at h ⊢
  rw [if_pos h0] at h ⊢
  cases hg : t.bytes[t.pos]? with
  | none =>
    rw [hg] at h
    simp [TS.stops] at h
  | some x =>
    rw [hg] at h
    have hp : t.pos < t.bytes.length := (List.getElem?_eq_some_iff.1 hg).1
    simp only at h ⊢
    rw [if_neg (by simp)] at h ⊢
    exact rest_pos hp h0 h
theorem str_pos {t : TS} {most : Int} (h0 : t.fault = 0) (h : (t.str most).2.fault = 0) : t.pos < (t.str most).2.pos ∧ (t.str most).2.pos ≤ t.bytes.length ∧ (t.str most).2.bytes = t.bytes := by
  unfold TS.str at h ⊢
  by_cases hf : (t.number false).2.fault ≠ 0
  · rw [if_pos hf] at h
    exact absurd h hf
  · have hf0 : (t.number false).2.fault = 0 := by omega
    obtain ⟨h1, h2, h3⟩ := number_pos h0 hf0
    rw [if_neg hf] at h ⊢
    split at h
    · simp [TS.stops] at h
    · split at h
      · simp [TS.stops] at h
      · rename_i h5 h6
        rw [if_neg h5, if_neg h6]
        refine ⟨by simp only; omega, ?_, h3⟩
        simp only
        rw [h3] at h6
        omega
theorem str_len {t : TS} {most : Int} (h0 : t.fault = 0) (h : (t.str most).2.fault = 0) : (t.str most).1.length ≤ t.bytes.length := by
  unfold TS.str at h ⊢
  by_cases hf : (t.number false).2.fault ≠ 0
  · rw [if_pos hf] at h
    exact absurd h hf
  · have hf0 : (t.number false).2.fault = 0 := by omega
    obtain ⟨h1, h2, h3⟩ := number_pos h0 hf0
    rw [if_neg hf] at h ⊢
    split at h
    · simp [TS.stops] at h
    · split at h
      · simp [TS.stops] at h
      · rename_i h5 h6
        rw [if_neg h5, if_neg h6]
        simp only
        rw [List.length_take, List.length_drop, h3]
        omega
end
section
open Go.RowKit
set_option linter.unusedVariables false

theorem jrun_len {st : Nat → Nat → Option (Bool × Nat × List UInt8)} {rm : Nat} (h : ∀ i life b lf load, st i life = some (b, lf, load) → load.length ≤ rm) : ∀ (k i life : Nat) (acc : List UInt8), acc.length ≤ i * rm → (jrun st k i life acc).1.length ≤ (i + k) * rm
  | 0, i, life, acc, ha => by rw [jrun_zero]; simpa using ha
  | k + 1, i, life, acc, ha => by
    have hm : i * rm ≤ (i + (k + 1)) * rm := Nat.mul_le_mul_right _ (by omega)
    have hm1 : (i + 1) * rm ≤ (i + (k + 1)) * rm := Nat.mul_le_mul_right _ (by omega)
    have hs : (i + 1) * rm = i * rm + rm := Nat.succ_mul _ _
    cases hst : st i life with
    | none => rw [jrun_none hst]; show acc.length ≤ _; omega
    | some x =>
      obtain ⟨b, lf, load⟩ := x
      have hl := h _ _ _ _ _ hst
      cases b with
      | true => rw [jrun_last hst]; show (acc ++ load).length ≤ _; rw [List.length_append]; omega
      | false =>
        rw [jrun_more hst]
        have := jrun_len h k (i + 1) lf (acc ++ load) (by rw [List.length_append]; omega)
        rw [show i + 1 + k = i + (k + 1) by omega] at this
        exact this
theorem room_le {n : Int} (h : ¬ room n = 0) : room n = n - 15 := by
  unfold room at h ⊢
  by_cases a : n < 64
  · rw [if_pos a] at h; exact absurd rfl h
  · rw [if_neg a] at h ⊢
    by_cases b : 4096 < n
    · rw [if_pos b] at h; exact absurd rfl h
    · rw [if_neg b]
theorem jrun_life {st : Nat → Nat → Option (Bool × Nat × List UInt8)} {m : Nat} (h : ∀ i life b lf load, st i life = some (b, lf, load) → lf ≤ m) : ∀ (k i life : Nat) (acc : List UInt8), life ≤ m → (jrun st k i life acc).2 ≤ m
  | 0, i, life, acc, ha => by rw [jrun_zero]; exact ha
  | k + 1, i, life, acc, ha => by
    cases hst : st i life with
    | none => rw [jrun_none hst]; exact ha
    | some x =>
      obtain ⟨b, lf, load⟩ := x
      have hl := h _ _ _ _ _ hst
      cases b with
      | true => rw [jrun_last hst]; exact hl
      | false => rw [jrun_more hst]; exact jrun_life h k (i + 1) lf _ hl
theorem jread_life (D : DS) (fr ep ln : Nat) : (jread D fr ep ln 0 0 []).2 ≤ 1048575 := jrun_life (st := jst D fr ep) (m := 1048575) (fun i life b lf load h => by
  unfold jst at h
  cases hg : getP (D.blockB (fr + i)) with
  | none => rw [hg, jstep_none] at h; cases h
  | some x =>
    obtain ⟨kd, num, ld⟩ := x
    rw [hg] at h
    by_cases hb : kd ≠ 74 ∨ num ≠ jnum ep (lifeOf num) i ∨ lifeOf num < life
    · rw [jstep_bad hb] at h; cases h
    · rw [jstep_good hb] at h
      injection h with h
      injection h with _ h
      injection h with h _
      rw [← h]; unfold lifeOf; omega) ln 0 0 [] (Nat.zero_le _)
theorem jst_len {D : DS} (ok : D.Ok) {fr ep i life lf : Nat} {b : Bool} {load : List UInt8} (h : jst D fr ep i life = some (b, lf, load)) : load.length ≤ D.size - 15 := by
  unfold jst at h
  cases hg : getP (D.blockB (fr + i)) with
  | none => rw [hg, jstep_none] at h; cases h
  | some x =>
    obtain ⟨kd, num, ld⟩ := x
    rw [hg] at h
    by_cases hb : kd ≠ 74 ∨ num ≠ jnum ep (lifeOf num) i ∨ lifeOf num < life
    · rw [jstep_bad hb] at h; cases h
    · rw [jstep_good hb] at h
      injection h with h
      injection h with _ h
      injection h with _ h
      subst h
      have hbl : (D.blockB (fr + i)).length ≤ D.size := by unfold DS.blockB; rw [List.length_take]; omega
      unfold getP at hg
      split at hg
      · cases hg
      · split at hg
        · cases hg
        · split at hg
          · rename_i hr1 hr2 hp
            injection hg with hg
            injection hg with _ hg
            injection hg with _ hg
            rw [← hg, List.length_take]
            have h7 := room_le hr1
            omega
          · cases hg
theorem jread_len {D : DS} (ok : D.Ok) (fr ep ln : Nat) : (jread D fr ep ln 0 0 []).1.length ≤ ln * (D.size - 15) := by
  have := jrun_len (st := jst D fr ep) (rm := D.size - 15) (fun i life b lf load h => jst_len ok h) ln 0 0 [] (by simp)
  rw [Nat.zero_add] at this
  exact this
theorem slicesT : ElT Try.prog 22 23 (.slice none 0 0) 1 24 := ⟨Try.underlying22, by kernel_rfl, rfl, by omega⟩
def tgap (pt n : Nat) (w : World) : Nat := match w.cell? ⟨pt, 1, none⟩ with
  | .some (.int _ z) => n - z.toNat
  | _ => 0
theorem tgap_eq {pt : Nat} {A : Option Addr} {c : Nat} {t : TS} {w : World} (h : TapeAt pt A c t w) (n : Nat) : tgap pt n w = n - t.pos := by
  have h1 := h.cells.2.1
  unfold tgap
  rw [h1]
  simp
theorem recs_form {W : World} {base e n : Nat} {v : Value} {xs : List Value} (h : W.ownsRow base e 1 v n xs) : ∃ A cap, v = .slice A n cap := by
  rcases h.2 with ⟨hv, hz⟩ | ⟨g, cap, cur, hv, _⟩
  · subst hz; exact ⟨none, 0, hv⟩
  · exact ⟨some ⟨g, 0, none⟩, cap, hv⟩
theorem Recs.lower {base b2 : Nat} {w : World} {v : Value} {rs : List (List UInt8)} {vals : List Value} (h : Recs base w v rs vals) (hb : b2 ≤ base) : Recs b2 w v rs vals := by
  refine ⟨⟨h.own.1, ?_⟩, fun j hj => ?_⟩
  · rcases h.own.2 with hn | ⟨g, cap', cur, hv, hb', rest⟩
    · exact .inl hn
    · exact .inr ⟨g, cap', cur, hv, Nat.le_trans hb hb', rest⟩
  · obtain ⟨B, c, h1, h2, h3⟩ := h.each j hj
    exact ⟨B, c, h1, h2, fun b off e => ⟨Nat.le_trans hb (h3 b off e).1, (h3 b off e).2⟩⟩
theorem Rd.first {V : World} {A : Option Addr} {l : List UInt8} (h : Rd V A l) (k : Nat) : Rd V A (l.take k) := by
  rcases h with h | ⟨b, off, h1, h2⟩
  · left; simp [h]
  · right
    refine ⟨b, off, h1, fun j hj => ?_⟩
    rw [List.length_take] at hj
    rw [List.getElem_take]
    exact h2 j (by omega)
section
variable {w0 : Bas} {w w' : World} {pd pj : Nat} {p : Pl} {D : DS}
theorem jopen_fin {V : World} {A : Option Addr} {sp n fr ln ep lf : Nat} {st : List UInt8} (hX : JX w pj (.slice A sp sp) ⟨fr, ln, ep, lf + 1, st.take sp, sp, n, false⟩ pd p D V) (hr : Rd V A st) (hbel : Fr w0.X w0.w w) (hlo : ∀ k, p.F pd k → w0.Q k) (ok : D.Ok)
    (hfl : fr + ln ≤ D.nb) (h1 : 1 ≤ ln) (h2 : ln ≤ 16384) (hep : ep ≤ 16777215) (hlf : lf + 1 ≤ 1048575) (hsp : sp ≤ st.length) (hroom : sp ≤ ln * (D.size - 15)) (hn : n ≤ sp) (hA : A = none ∨ ∃ b, A = some ⟨b, 0, none⟩)
    (hA2 : ∀ b, A = some ⟨b, 0, none⟩ → w0.w.heap.size ≤ b ∧ ¬ p.F pd b ∧ b ≠ pj ∧ b < V.heap.size) :
    JD w0 pj (.slice A sp sp) ⟨fr, ln, ep, lf + 1, st.take sp, sp, n, false⟩ pd p D V := by
  have hl : (st.take sp).length = sp := by rw [List.length_take]; omega
  have hob : ∀ k, (Value.slice A sp sp).ownBlock = some k → w0.w.heap.size ≤ k ∧ ¬ p.F pd k ∧ k ≠ pj ∧ k < V.heap.size := fun k hk => by
    rcases hA with h | ⟨b, h⟩
    · rw [h] at hk; cases hk
    · have h9 := hA2 b h
      rw [h] at hk
      injection hk with hk
      rw [← hk]
      exact h9
  refine ⟨hX.disk, hX.obj, .inr ⟨A, ?_, hr.first _, fun k hk => (hob k hk).2.2.2⟩, hbel.step hX.bel, .inl (Nat.le_trans hbel.size hX.lo), fun k hk => .inl (hob k hk).1, hlo, hX.sep, fun k hk => ⟨(hob k hk).2.1, (hob k hk).2.2.1⟩, ok, ⟨hfl, h1, h2, hep, by show 1 ≤ lf + 1; omega, hlf, ?_, ?_, ?_⟩⟩
  · show Value.slice A sp sp = .slice A (st.take sp).length (st.take sp).length
    rw [hl]
  · show sp ≤ (st.take sp).length
    rw [hl]; exact Nat.le_refl _
  · show (st.take sp).length ≤ ln * (D.size - 15)
    rw [hl]; exact hroom
  · show n ≤ (st.take sp).length
    rw [hl]; exact hn
end
section
variable {w0 : Bas} {w w' : World} {pd : Nat} {p : Pl} {D : DS}
def JOpenYes (w0 : Bas) (pd : Nat) (p : Pl) (D : DS) (fr ln ep lf : Nat) (st : List UInt8) (w : World) (r : Ending) (w' : World) : Prop :=
  Below w.heap.size w w' ∧ ((1048575 < lf + 1 ∧ r = .returned (.tuple #[.pointer none, .slice none 0 0, .int .i64 6])) ∨
    (¬ 1048575 < lf + 1 ∧ ∃ pj v v7 vals, r = .returned (.tuple #[.pointer (some ⟨pj, 0, none⟩), v7, .int .i64 0]) ∧ w.heap.size ≤ pj ∧ JD w0 pj v ⟨fr, ln, ep, lf + 1, st.take (jopenRecs st).2, (jopenRecs st).2, (jopenRecs st).1.length, false⟩ pd p D w' ∧ Recs w.heap.size w' v7 (jopenRecs st).1 vals))
set_option maxRecDepth 100000 in
set_option maxHeartbeats 4000000 in
theorem jopen_main (h : DiskAt pd p D w) (ok : D.Ok) (hbel : Fr w0.X w0.w w) (hlo : ∀ k, p.F pd k → w0.Q k) (fr ln ep : Nat) (hfl : fr + ln ≤ D.nb) (h1 : 1 ≤ ln) (h2 : ln ≤ 16384) (hep : ep ≤ 16777215) (hoff : D.off = false) (st : List UInt8) (lf : Nat) (hR : jread D fr ep ln 0 0 [] = (st, lf)) :
    Calls Try.prog 12 #[.pointer (some ⟨pd, 0, none⟩), .agg #[.int .i64 (fr : Int), .int .i64 (ln : Int)], .int .i64 (ep : Int)] w (JOpenYes w0 pd p D fr ln ep lf st w) := by
  have HF := Lib.hid (jfits_any (h.keep (below_alloc w (.cells #[.int .i64 (fr : Int), .int .i64 (ln : Int)] 34))) ok fr ln)
  rw [show fitsB D.nb (fr : Int) (ln : Int) = true by unfold fitsB; rw [decide_eq_true_iff]; omega] at HF
  have HDE : Hid (∀ V, Below w.heap.size w V → Calls Try.prog 39 #[.pointer (some ⟨pd, 0, none⟩)] V fun e w' => e = .returned (.bool false) ∧ V = w') := fun V hV => by
    have h9 := dead_any (h.keep hV)
    rw [hoff] at h9
    exact h9
  have hB : Blk (w.alloc (.cells #[.int .i64 (fr : Int), .int .i64 (ln : Int)] 34)) w.heap.size 34 #[.int .i64 (fr : Int), .int .i64 (ln : Int)] := Blk.new _ _ _
  have e0 : (w.alloc (.cells #[.int .i64 (fr : Int), .int .i64 (ln : Int)] 34)).cell? ⟨w.heap.size, 0, none⟩ = some (.int .i64 (fr : Int)) := hB.cell 0
  have e1 : (w.alloc (.cells #[.int .i64 (fr : Int), .int .i64 (ln : Int)] 34)).cell? ⟨w.heap.size, 1, none⟩ = some (.int .i64 (ln : Int)) := hB.cell 1
  have HE : Hid (∀ V, Below (w.alloc (.cells #[.int .i64 (fr : Int), .int .i64 (ln : Int)] 34)).heap.size (w.alloc (.cells #[.int .i64 (fr : Int), .int .i64 (ln : Int)] 34)) V → V.cell? ⟨w.heap.size, 0, none⟩ = some (.int .i64 (fr : Int)) ∧ V.cell? ⟨w.heap.size, 1, none⟩ = some (.int .i64 (ln : Int))) := fun V hV => ⟨(hB.keep hV).cell 0, (hB.keep hV).cell 1⟩
  have HBL := Lib.hid (below_alloc w (.cells #[.int .i64 (fr : Int), .int .i64 (ln : Int)] 34))
  have HLN := Lib.hid (jread_len ok fr ep ln)
  have HLT := Lib.hid (fun k hk => h.lt k hk)
  have hlf : lf ≤ 1048575 := by
    have h9 := jread_life D fr ep ln
    rw [hR] at h9
    exact h9
  have hnb := ok.n2
  have hs1 := ok.s1
  have hs2 := ok.s2
  have d1 : decide ((ep : Int) < 0) = false := by simp
  have d2 : decide (16777215 < (ep : Int)) = false := by simp; omega
  have HJR : Hid (∀ V, Below w.heap.size w V → JR w V.heap.size pd p D fr ln ep 0 (V.alloc (.cells #[.pointer (some ⟨pd, 0, none⟩), .int .i64 (fr : Int), .int .i64 (ln : Int), .int .i64 (ep : Int), .int .i64 0, .slice none 0 0, .int .i64 0, .int .i64 0, .bool false] 74))) := fun V hV => ⟨(h.keep hV).keep (below_alloc _ _), Blk.new _ _ _, below_step hV (below_alloc _ _), hV.size, fun hk => by have := h.lt _ hk; have := hV.size; omega⟩
  have HREAD : Hid (∀ pj V, JR w pj pd p D fr ln ep 0 V → Calls Try.prog 40 #[.pointer (some ⟨pj, 0, none⟩)] V fun r w' => ∃ v, r = .returned v ∧ w'.ownsRow V.heap.size 5 1 v st.length (st.map bv) ∧ JR w pj pd p D fr ln ep lf w') := fun pj V hV => by
    have h9 := jread_any hV ok hoff hfl hep
    rw [hR] at h9
    exact h9
  rw [hR] at HLN
  have HOK := Lib.hid ok
  have HBEL := Lib.hid (And.intro hbel hlo)
  clear h ok hB hR hoff hbel hlo
  go_enter Try.func12, Try.ntmps12
  go_upto_region 8 with (first
    | (go_at_call 38; refine HF.out.mono ?_; rintro r w1 ⟨rfl, hb1⟩; obtain ⟨g0, g1⟩ := HE.out _ hb1; have hbw := below_step HBL.out hb1)
    | (go_at_call 39; refine (HDE.out _ hbw).mono ?_; rintro r w2 ⟨rfl, rfl⟩))
  have hJ1 := HJR.out _ hbw
  have hb2 := below_step hbw (below_alloc w1 (.cells #[.pointer (some ⟨pd, 0, none⟩), .int .i64 (fr : Int), .int .i64 (ln : Int), .int .i64 (ep : Int), .int .i64 0, .slice none 0 0, .int .i64 0, .int .i64 0, .bool false] 74))
  obtain ⟨pj, hpj⟩ : ∃ pj, w1.heap.size = pj := ⟨_, rfl⟩
  have hpw : w.heap.size ≤ pj := by have := hbw.size; omega
  refine wp_world (fun V => JR w w1.heap.size pd p D fr ln ep 0 V ∧ Below w.heap.size w V) ⟨hJ1, hb2⟩ ?_
  rw [hpj]
  clear hJ1 hb2 hbw hb1 g0 g1 hpj HJR HE HF HDE e0 e1
  rintro V2 ⟨hJ2, hb2⟩
  have HRD := Lib.hid (HREAD.out pj V2 hJ2)
  have hj2 := hJ2.obj.lt
  clear hJ2 HREAD
  go_upto_region 9 with (go_at_call 40; refine HRD.out.mono ?_; rintro r V3 ⟨v3, rfl, ho3, hJ3⟩)
  have c4 : V3.cell? ⟨pj, 4, none⟩ = some (.int .i64 (lf : Int)) := hJ3.obj.cell 4
  have cf := hJ3.obj.frozen 4
  have hX3 := hJ3.jx.set_ (J' := ⟨fr, ln, ep, lf + 1, [], 0, 0, false⟩) 4 (.int .i64 ((lf + 1 : Nat) : Int)) (.slice none 0 0) rfl
  rw [show ((lf + 1 : Nat) : Int) = (lf : Int) + 1 by push_cast; rfl] at hX3
  have hwr : IntKind.i64.wrap ((lf : Int) + 1) = (lf : Int) + 1 := IntWalk.i64_in _ (by omega)
  have hb3 : Below w.heap.size w V3 := hJ3.bel
  obtain ⟨A3, c3, rfl, hr3, -, hc3⟩ := own_rd ho3
  have hst9 : st.length ≤ 67108864 := by
    have := HLN.out
    have h9 : ln * (D.size - 15) ≤ 16384 * 4096 := Nat.mul_le_mul h2 (by omega)
    omega
  have hlt3 : ∀ b off, A3 = some ⟨b, off, none⟩ → V2.heap.size ≤ b ∧ b < V3.heap.size := fun b off e => by
    subst e
    exact World.ownsRow.lt ho3 b rfl
  have hA0 : ∀ b off, A3 = some ⟨b, off, none⟩ → off = 0 := fun b off e => by
    subst e
    rcases ho3.2 with ⟨hv, _⟩ | ⟨g, cap, cur, hv, _⟩
    · cases hv
    · have := (Value.slice.inj hv).1
      injection this with this
      injection this
  have hAf : A3 = none ∨ ∃ b, A3 = some ⟨b, 0, none⟩ := by
    rcases ho3.2 with ⟨hv, _⟩ | ⟨g, cap, cur, hv, _⟩
    · exact .inl (Value.slice.inj hv).1
    · exact .inr ⟨g, (Value.slice.inj hv).1⟩
  have hr9 : Rd (V3.setCell ⟨pj, 4, none⟩ (.int .i64 ((lf : Int) + 1))) A3 st := (Fr.setCell (fun k => k = pj) V3 (p := ⟨pj, 4, none⟩) (fun _ => rfl) _).rd hr3 (fun b off e _ e2 => by have := (hlt3 b off e).1; omega)
  go_upto_region 10 with (fail)
  refine wp_world (fun V => (JX w pj (.slice none 0 0) ⟨fr, ln, ep, lf + 1, [], 0, 0, false⟩ pd p D V ∧ Rd V A3 st) ∧ V3.heap.size ≤ V.heap.size) ⟨⟨hX3, hr9⟩, by simp⟩ ?_
  clear hX3 hr9 c4 cf hJ3 ho3 hr3 HRD
  rintro V4 ⟨⟨hX4, hr4⟩, hs4⟩
  have c4 : V4.cell? ⟨pj, 4, none⟩ = some (.int .i64 ((lf : Int) + 1)) := by
    have h9 : V4.cell? ⟨pj, 4, none⟩ = some (.int .i64 ((lf + 1 : Nat) : Int)) := hX4.obj.cell 4
    rw [h9]; push_cast; rfl
  by_cases hbig : 1048575 < lf + 1
  · have hd : decide ((1048575 : Int) < (lf : Int) + 1) = true := by simp; omega
    have HB4 := Lib.hid hX4.bel
    clear hX4 hr4 hwr
    go_wp2
    refine bodyPost_ret (v := .tuple #[.pointer none, .slice none 0 0, .int .i64 6]) (by simp [results, Try.results12, go_sem]) rfl ⟨HB4.out, .inl ⟨hbig, rfl⟩⟩
  have hd : decide ((1048575 : Int) < (lf : Int) + 1) = false := by simp; omega
  have HOP := Lib.hid (open_any A3 st st.length c3 V4 rfl (by omega) hr4)
  have HX4 := Lib.hid (And.intro hX4 hr4)
  have hj4 := hX4.obj.lt
  clear hX4 hr4 hwr
  go_upto_region 13 with (fail)
  have HX5 := HX4
  go_wp2_with (go_at_call 41; refine HOP.out.mono ?_; rintro r V5 ⟨pt, B, cB, rfl, hT5, hB5, hp5⟩)
  have hptj : pj < pt := by have := hT5.own; omega
  have hptw : w.heap.size ≤ pt := by omega
  have HS0 : Hid (Recs V5.heap.size V5 (.slice none 0 0) [] [] ∧ JX w pj (.slice none 0 0) ⟨fr, ln, ep, lf + 1, [], 0, 0, false⟩ pd p D V5 ∧ TapeAt pt B cB ⟨st, 0, 0, 0⟩ V5 ∧ Rd V5 A3 st) := ⟨Recs.nil_ _ _, HX4.out.1.keep hT5.bel, hT5.tape, HX4.out.2.below hT5.bel⟩
  obtain ⟨Bs, hBs⟩ : ∃ Bs, V5.heap.size = Bs := ⟨_, rfl⟩
  have hptB : pt < Bs := by omega
  have hA3 : ∀ b off, A3 = some ⟨b, off, none⟩ → b ≠ pj ∧ b ≠ pt ∧ b < Bs ∧ V2.heap.size ≤ b := fun b off e => by have := hlt3 b off e; have := hT5.own; omega
  have HA3 := Lib.hid hA3
  have HB5 := Lib.hid hB5
  rw [hBs] at HS0
  have hsz5 : Bs ≤ V5.heap.size := by omega
  have HRE : Hid (jrecs (fun t => t.str (st.length : Int)) (st.length + 1) ⟨st, 0, 0, 0⟩ [] 0 = jopenRecs st) := rfl
  have hV2w := hb2.size
  clear hT5 hB5 hp5 HX4 HX5 HOP c4 hd hA3 hBs hlt3
  go_loopw [11, 13, 14, 15] (fun v11 _ _ _ wr => ∃ (t : TS) (out : List (List UInt8)) (k : Nat) (vals : List Value), Recs Bs wr v11 out vals ∧ JX w pj (.slice none 0 0) ⟨fr, ln, ep, lf + 1, [], t.pos, 0, false⟩ pd p D wr ∧ TapeAt pt B cB t wr ∧ t.bytes = st ∧ t.fault = 0 ∧ Rd wr A3 st ∧ jrecs (fun t => t.str (st.length : Int)) k t out t.pos = jopenRecs st ∧ st.length - t.pos < k ∧ out.length ≤ t.pos ∧ Bs ≤ wr.heap.size) (fun _ _ _ _ wr => tgap pt st.length wr)
  case atStart => exact ⟨⟨st, 0, 0, 0⟩, [], st.length + 1, [], HS0.out.1, HS0.out.2.1, HS0.out.2.2.1, rfl, rfl, HS0.out.2.2.2, HRE.out, by simp, Nat.le_refl _, hsz5⟩
  case round =>
    obtain ⟨t, out, k, vals, hRc, hX, hT, hby, hft, hr, hrec, hk, hol, hsz⟩ := hrel
    obtain ⟨rr, hrr⟩ : ∃ rr, t.bytes.length - t.pos = rr := ⟨_, rfl⟩
    have HREC := Lib.hid hrec
    have HREST := Lib.hid (rest_any hT)
    rw [hrr] at HREST
    have htp := hT.pos
    have HHS := Lib.hid (fun q => And.intro (hRc.keep (below_drewN (Below.refl wr.heap.size wr) q)) (And.intro (hX.keep (below_drewN (Below.refl wr.heap.size wr) q)) (And.intro (hT.keep (below_drewN (Below.refl wr.heap.size wr) q)) (hr.below (below_drewN (Below.refl wr.heap.size wr) q)))))
    have HFT := Lib.hid hft
    have HG0 := Lib.hid (tgap_eq hT st.length)
    clear hRc hX hT hr hrec hft
    by_cases h0 : rr = 0
    · have hd : decide ((0 : Int) < (rr : Int)) = false := by simp; omega
      have HEND : Hid (∀ q, (Recs Bs (wr.drewN q) u11 out vals ∧ JX w pj (.slice none 0 0) ⟨fr, ln, ep, lf + 1, [], t.pos, 0, false⟩ pd p D (wr.drewN q) ∧ Rd (wr.drewN q) A3 st) ∧ Bs ≤ (wr.drewN q).heap.size) := fun q => ⟨⟨(HHS.out q).1, (HHS.out q).2.1, (HHS.out q).2.2.2⟩, by have := (below_drewN (Below.refl wr.heap.size wr) q).size; omega⟩
      have HJE : Hid ((out, t.pos) = jopenRecs st) := by
        obtain ⟨k', rfl⟩ : ∃ k', k = k' + 1 := ⟨k - 1, by omega⟩
        show _ = _
        rw [← HREC.out]
        exact (jrecs_end (.inl (by omega))).symm
      clear HHS hrr
      go_upto_region 20 with (go_at_call 42; refine HREST.out.mono ?_; rintro r w9 ⟨rfl, q9, rfl⟩)
      refine wp_world (fun V => (Recs Bs V u11 out vals ∧ JX w pj (.slice none 0 0) ⟨fr, ln, ep, lf + 1, [], t.pos, 0, false⟩ pd p D V ∧ Rd V A3 st) ∧ Bs ≤ V.heap.size) (HEND.out _) ?_
      clear HEND
      rintro V9 ⟨⟨hRc9, hX9, hr9⟩, hs9⟩
      have c6 : V9.cell? ⟨pj, 6, none⟩ = some (.int .i64 (t.pos : Int)) := hX9.obj.cell 6
      have c5 : V9.cell? ⟨pj, 5, none⟩ = some (.slice none 0 0) := hX9.obj.cell 5
      have c5f := hX9.obj.frozen 5
      have HE9 := Lib.hid (And.intro hX9 (And.intro hRc9 hr9))
      have hpc : t.pos ≤ c3 := by rw [hby] at htp; omega
      clear hX9 hRc9 hr9
      have HSET : Hid (JX w pj (.slice A3 t.pos t.pos) ⟨fr, ln, ep, lf + 1, st.take t.pos, t.pos, 0, false⟩ pd p D ((V9.setCell ⟨pj, 5, none⟩ (.slice A3 t.pos t.pos)).drew) ∧ Recs Bs ((V9.setCell ⟨pj, 5, none⟩ (.slice A3 t.pos t.pos)).drew) u11 out vals ∧ Rd ((V9.setCell ⟨pj, 5, none⟩ (.slice A3 t.pos t.pos)).drew) A3 st ∧ Bs ≤ ((V9.setCell ⟨pj, 5, none⟩ (.slice A3 t.pos t.pos)).drew).heap.size) := by
        have hf := Fr.setCell (fun k => k = pj) V9 (p := ⟨pj, 5, none⟩) (fun _ => rfl) (.slice A3 t.pos t.pos)
        have hb := (Below.refl (V9.setCell ⟨pj, 5, none⟩ (.slice A3 t.pos t.pos)).heap.size (V9.setCell ⟨pj, 5, none⟩ (.slice A3 t.pos t.pos))).drew
        exact ⟨(HE9.out.1.set_ (J' := ⟨fr, ln, ep, lf + 1, st.take t.pos, t.pos, 0, false⟩) 5 (.slice A3 t.pos t.pos) (.slice A3 t.pos t.pos) rfl).keep hb, (HE9.out.2.1.far hf (fun k e => by omega)).keep hb, (hf.rd HE9.out.2.2 (fun b off e _ => (HA3.out b off e).1)).below hb, by have := hf.size; have := hb.size; omega⟩
      go_region
      refine Exit.then_world (fun V => JX w pj (.slice A3 t.pos t.pos) ⟨fr, ln, ep, lf + 1, st.take t.pos, t.pos, 0, false⟩ pd p D V ∧ Recs Bs V u11 out vals ∧ Rd V A3 st ∧ Bs ≤ V.heap.size) HSET.out ?_
      clear HSET c6 c5 c5f HE9
      rintro V10 ⟨hX, hRc, hr, hs10⟩
      obtain ⟨Au, cu, rfl⟩ := recs_form hRc.own
      have c7 : V10.cell? ⟨pj, 7, none⟩ = some (.int .i64 0) := hX.obj.cell 7
      have c7f := hX.obj.frozen 7
      have HX10 := hX.set_ (J' := ⟨fr, ln, ep, lf + 1, st.take t.pos, t.pos, out.length, false⟩) 7 (.int .i64 (out.length : Int)) (.slice A3 t.pos t.pos) rfl
      have hf10 := Fr.setCell (fun k => k = pj) V10 (p := ⟨pj, 7, none⟩) (fun _ => rfl) (.int .i64 (out.length : Int))
      have HF10 := Lib.hid (And.intro HX10 (And.intro (hRc.far hf10 (fun k e => by omega)) (hf10.rd hr (fun b off e _ => (HA3.out b off e).1))))
      have hs11 : Bs ≤ (V10.setCell ⟨pj, 7, none⟩ (.int .i64 (out.length : Int))).heap.size := by have := hf10.size; omega
      clear hX hRc hr HX10 hf10
      go_wp2
      rw [hby] at htp
      have e1 : (jopenRecs st).1 = out := by rw [← HJE.out]
      have e2 : (jopenRecs st).2 = t.pos := by rw [← HJE.out]
      refine bodyPost_ret (v := .tuple #[.pointer (some ⟨pj, 0, none⟩), .slice Au out.length cu, .int .i64 0]) (by simp [results, Try.results12, go_sem]) rfl ⟨HF10.out.1.bel, .inr ⟨hbig, pj, .slice A3 t.pos t.pos, .slice Au out.length cu, vals, rfl, hpw, ?_, ?_⟩⟩
      · rw [e1, e2]
        exact jopen_fin HF10.out.1 HF10.out.2.2 HBEL.out.1 HBEL.out.2 HOK.out hfl h1 h2 hep (by omega) htp (by have := HLN.out; omega) hol hAf (fun b e => by have h9 := HA3.out b 0 e; have := HF10.out.1.obj.lt; have := HF10.out.1.bel.size; exact ⟨by have := HBEL.out.1.size; omega, fun hk => by have := HLT.out b hk; omega, h9.1, by omega⟩)
      · rw [e1]
        exact HF10.out.2.1.lower (by omega)
    · have hd : decide ((0 : Int) < (rr : Int)) = true := by simp; omega
      go_upto_region 15 with (go_at_call 42; refine HREST.out.mono ?_; rintro r w9 ⟨rfl, q9, rfl⟩)
      refine wp_world (fun V => (Recs Bs V u11 out vals ∧ JX w pj (.slice none 0 0) ⟨fr, ln, ep, lf + 1, [], t.pos, 0, false⟩ pd p D V ∧ TapeAt pt B cB t V ∧ Rd V A3 st) ∧ Bs ≤ V.heap.size) ⟨HHS.out _, by have := (below_drewN (Below.refl wr.heap.size wr) q9).size; omega⟩ ?_
      clear HHS HREST hd hrr
      rintro V6 ⟨⟨hRc6, hX6, hT6, hr6⟩, hs6⟩
      obtain ⟨x, hx⟩ : ∃ x, t.str (st.length : Int) = x := ⟨_, rfl⟩
      have HX := Lib.hid hx
      have HPOS : Hid (x.2.fault = 0 → t.pos < x.2.pos ∧ x.2.pos ≤ t.bytes.length ∧ x.2.bytes = t.bytes) := fun h9 => by
        rw [← hx] at h9 ⊢
        exact str_pos HFT.out h9
      have HSTR := Lib.hid (tstr_any hT6 (st.length : Int) (by omega))
      rw [hx] at HSTR
      have HFAR : Hid (∀ V, TAct V6 pt B cB x.2 V → (Recs Bs V u11 out vals ∧ JX w pj (.slice none 0 0) ⟨fr, ln, ep, lf + 1, [], t.pos, 0, false⟩ pd p D V ∧ Rd V A3 st) ∧ TapeAt pt B cB x.2 V ∧ Bs ≤ V.heap.size) := fun V hV => by
        refine ⟨⟨hRc6.far hV.fr (fun k e => by omega), hX6.far hV.fr (by omega) (fun k hk e => by have := HLT.out k hk; omega) (fun k e => by omega), hV.fr.rd hr6 (fun b off e _ => (HA3.out b off e).2.1)⟩, hV.tape, by have := hV.fr.size; omega⟩
      clear hRc6 hX6 hT6 hr6 hx
      obtain ⟨xs, t'⟩ := x
      simp only at HPOS HSTR HFAR
      go_upto_region 16 with (go_at_call 43; refine HSTR.out.mono ?_; rintro r V7 ⟨rfl, hT7⟩)
      have HS7 := HFAR.out _ hT7
      clear HFAR hT7 HSTR
      refine wp_world (fun V => ((Recs Bs V u11 out vals ∧ JX w pj (.slice none 0 0) ⟨fr, ln, ep, lf + 1, [], t.pos, 0, false⟩ pd p D V ∧ Rd V A3 st) ∧ TapeAt pt B cB t' V ∧ Bs ≤ V.heap.size)) HS7 ?_
      clear HS7
      rintro V8 ⟨⟨hRc8, hX8, hr8⟩, hT8, hs8⟩
      have HFL := Lib.hid (fault_any hT8)
      have HS8 := Lib.hid (fun q => And.intro (And.intro (hRc8.keep (below_drewN (Below.refl V8.heap.size V8) q)) (And.intro (hX8.keep (below_drewN (Below.refl V8.heap.size V8) q)) (hr8.below (below_drewN (Below.refl V8.heap.size V8) q)))) (hT8.keep (below_drewN (Below.refl V8.heap.size V8) q)))
      clear hRc8 hX8 hr8 hT8
      obtain ⟨ft, hft⟩ : ∃ ft, t'.fault = ft := ⟨_, rfl⟩
      rw [hft] at HFL HPOS
      by_cases hf0 : ft = 0
      · have hd2 : ((ft : Int) != 0) = false := by simp; omega
        have hxl : xs.length ≤ 1000000000 := by
            have h9 := str_len (t := t) (most := (st.length : Int)) HFT.out (by rw [HX.out]; show t'.fault = 0; omega)
            rw [HX.out, hby] at h9
            exact Nat.le_trans h9 (by omega)
        go_upto_region 18 with (go_at_call 44; refine HFL.out.mono ?_; rintro r w9 ⟨rfl, q9, rfl⟩)
        refine wp_world (fun V => ((Recs Bs V u11 out vals ∧ JX w pj (.slice none 0 0) ⟨fr, ln, ep, lf + 1, [], t.pos, 0, false⟩ pd p D V ∧ Rd V A3 st) ∧ TapeAt pt B cB t' V) ∧ Bs ≤ V.heap.size) ⟨HS8.out _, by have := (below_drewN (Below.refl V8.heap.size V8) q9).size; omega⟩ ?_
        clear HS8 HFL hd2
        rintro V10 ⟨⟨⟨hRc, hX, hr⟩, hT⟩, hs10⟩
        obtain ⟨cX, V11, hcv, hrX, hcX, hbX, hltX⟩ := jbytes_of V10 xs hxl
        obtain ⟨xl, hxle⟩ : ∃ xl, xs.length = xl := ⟨_, rfl⟩
        rw [hxle] at hcv
        have hbA := below_step hbX (below_alloc V11 (.cells #[.slice (some ⟨V10.heap.size, 0, none⟩) xl cX] 23))
        have hownA : (V11.alloc (.cells #[.slice (some ⟨V10.heap.size, 0, none⟩) xl cX] 23)).ownsRow Bs 23 1 u11 out.length vals := (hRc.keep hbA).own
        have hcs : Cs (V11.alloc (.cells #[.slice (some ⟨V10.heap.size, 0, none⟩) xl cX] 23)) (some ⟨V11.heap.size, 0, none⟩) [.slice (some ⟨V10.heap.size, 0, none⟩) xl cX] := .inr ⟨_, rfl, cell_one_new V11 (.slice (some ⟨V10.heap.size, 0, none⟩) xl cX) 23⟩
        have hone : ∀ u ∈ [Value.slice (some ⟨V10.heap.size, 0, none⟩) xl cX], u.oneCell' = true := by intro u hu; simp at hu; subst hu; rfl
        have hmx : out.length + 1 ≤ maxLen := by have := hby ▸ htp; simp only [maxLen]; omega
        have hbx : (out.length + 1) * 24 ≤ 140737488355328 := by have := hby ▸ htp; omega
        have hbs : Bs ≤ (V11.alloc (.cells #[.slice (some ⟨V10.heap.size, 0, none⟩) xl cX] 23)).heap.size := Nat.le_trans hs10 hbA.size
        have HSTEP : Hid (∀ v' w', w'.ownsRow Bs 23 1 v' (out.length + 1) (vals ++ [.slice (some ⟨V10.heap.size, 0, none⟩) xl cX]) → (V11.alloc (.cells #[.slice (some ⟨V10.heap.size, 0, none⟩) xl cX] 23)).grownBy w' u11.ownBlock → (v'.ownBlock = u11.ownBlock ∨ v'.ownBlock = some (V11.alloc (.cells #[.slice (some ⟨V10.heap.size, 0, none⟩) xl cX] 23)).heap.size) → ((Recs Bs w' v' (out ++ [xs]) (vals ++ [.slice (some ⟨V10.heap.size, 0, none⟩) xl cX]) ∧ JX w pj (.slice none 0 0) ⟨fr, ln, ep, lf + 1, [], t.pos, 0, false⟩ pd p D w' ∧ Rd w' A3 st) ∧ TapeAt pt B cB t' w') ∧ Bs ≤ w'.heap.size) := fun v' w' h1 h2 h3 => by
          have hf : Fr (fun k => u11.ownBlock = some k) (V11.alloc (.cells #[.slice (some ⟨V10.heap.size, 0, none⟩) xl cX] 23)) w' := Fr.of_grown h2 (fun k e _ => e)
          have hlo : ∀ k, u11.ownBlock = some k → Bs ≤ k := fun k e => (World.ownsRow.lt hRc.own k e).1
          have hu : ∀ b, u11.ownBlock = some b → ∀ off, A3 = some ⟨b, off, none⟩ → False := fun b e off e2 => by have := hlo b e; have := HA3.out b off e2; omega
          refine ⟨⟨⟨?_, (hX.keep hbA).far hf (fun e => by have := hlo _ e; omega) (fun k hk e => by have := HLT.out k hk; have := hlo _ e; omega) (fun k e => by have := hlo _ e; omega), hf.rd (hr.below hbA) (fun b off e _ e2 => hu b e2 off e)⟩, (hT.keep hbA).far hf (fun e => by have := hlo _ e; omega) (fun b off e e2 => by have := hlo _ e2; have := HB5.out b off e; omega)⟩, by have := hf.size; omega⟩
          rw [← hxle] at h1 h2 h3 ⊢
          exact hRc.step hs10 hbX hltX hrX h1 h2 h3
        have HO := Lib.hid (And.intro hownA hcs)
        clear hRc hX hr hT hrX hcX hownA hcs
        go_upto_region 19 with (at_builtin; (with_reducible refine wpList_app slicesT rfl (.tmp 70) (.tmp 73) rfl Bs u11 out.length vals rfl HO.out.1 (some ⟨V11.heap.size, 0, none⟩) 1 1 [.slice (some ⟨V10.heap.size, 0, none⟩) xl cX] rfl rfl HO.out.2 hone hmx hbx hbs ?_); intro v12 V12 ho12 hg12 hw12)
        have HS12 := HSTEP.out _ _ ho12 hg12 hw12
        obtain ⟨vals', hvals⟩ : ∃ vals', vals ++ [.slice (some ⟨V10.heap.size, 0, none⟩) xl cX] = vals' := ⟨_, rfl⟩
        rw [hvals] at HS12
        refine wp_world (fun V => ((Recs Bs V v12 (out ++ [xs]) vals' ∧ JX w pj (.slice none 0 0) ⟨fr, ln, ep, lf + 1, [], t.pos, 0, false⟩ pd p D V ∧ Rd V A3 st) ∧ TapeAt pt B cB t' V) ∧ Bs ≤ V.heap.size) HS12 ?_
        clear HS12 ho12 hg12 hw12 HSTEP HO hcv hbX hltX hbA hone hbs hvals
        rintro V13 ⟨⟨⟨hRc, hX, hr⟩, hT⟩, hs13⟩
        have HP := Lib.hid (pos_any hT)
        have cf := hX.obj.frozen 6
        have c6 : V13.cell? ⟨pj, 6, none⟩ = some (.int .i64 (t.pos : Int)) := hX.obj.cell 6
        have HS14 : Hid (((Recs Bs (V13.setCell ⟨pj, 6, none⟩ (.int .i64 (t'.pos : Int))) v12 (out ++ [xs]) vals' ∧ JX w pj (.slice none 0 0) ⟨fr, ln, ep, lf + 1, [], t'.pos, 0, false⟩ pd p D (V13.setCell ⟨pj, 6, none⟩ (.int .i64 (t'.pos : Int))) ∧ Rd (V13.setCell ⟨pj, 6, none⟩ (.int .i64 (t'.pos : Int))) A3 st) ∧ TapeAt pt B cB t' (V13.setCell ⟨pj, 6, none⟩ (.int .i64 (t'.pos : Int)))) ∧ Bs ≤ (V13.setCell ⟨pj, 6, none⟩ (.int .i64 (t'.pos : Int))).heap.size) := by
          have hf := Fr.setCell (fun k => k = pj) V13 (p := ⟨pj, 6, none⟩) (fun _ => rfl) (.int .i64 (t'.pos : Int))
          refine ⟨⟨⟨hRc.far hf (fun k e => by omega), hX.set_ 6 (.int .i64 (t'.pos : Int)) (.slice none 0 0) rfl, hf.rd hr (fun b off e _ => (HA3.out b off e).1)⟩, hT.far hf (by omega) (fun b off e => by have := HB5.out b off e; omega)⟩, by have := hf.size; omega⟩
        have hpp := HPOS.out hf0
        rw [hby] at hpp
        clear hRc hX hr hT
        go_wp2_with (go_at_call 45; refine HP.out.mono ?_; rintro r w14 ⟨rfl, rfl⟩)
        go_roundw
        case rel =>
          obtain ⟨k', rfl⟩ : ∃ k', k = k' + 1 := ⟨k - 1, by omega⟩
          refine ⟨t', out ++ [xs], k', vals', HS14.out.1.1.1, HS14.out.1.1.2.1, HS14.out.1.2, hpp.2.2, by omega, HS14.out.1.1.2.2, ?_, by rw [hby] at htp; omega, by rw [List.length_append]; simp only [List.length_cons, List.length_nil]; omega, HS14.out.2⟩
          rw [← HREC.out, jrecs_more (by rw [hby]; omega) (by show (t.str (st.length : Int)).2.fault = 0; rw [HX.out]; show t'.fault = 0; omega)]
          show _ = jrecs _ _ (t.str (st.length : Int)).2 (out ++ [(t.str (st.length : Int)).1]) (t.str (st.length : Int)).2.pos
          rw [HX.out]
        case measure =>
          rw [tgap_eq HS14.out.1.2, HG0.out]
          omega
      · have hd2 : ((ft : Int) != 0) = true := by rw [bne_iff_ne]; omega
        have HEND : Hid (∀ q, (Recs Bs (V8.drewN q) u11 out vals ∧ JX w pj (.slice none 0 0) ⟨fr, ln, ep, lf + 1, [], t.pos, 0, false⟩ pd p D (V8.drewN q) ∧ Rd (V8.drewN q) A3 st) ∧ Bs ≤ (V8.drewN q).heap.size) := fun q => ⟨(HS8.out q).1, by have := (below_drewN (Below.refl V8.heap.size V8) q).size; omega⟩
        have HJE : Hid ((out, t.pos) = jopenRecs st) := by
          obtain ⟨k', rfl⟩ : ∃ k', k = k' + 1 := ⟨k - 1, by omega⟩
          show _ = _
          rw [← HREC.out]
          exact (jrecs_end (.inr (by show (t.str (st.length : Int)).2.fault ≠ 0; rw [HX.out]; show t'.fault ≠ 0; omega))).symm
        clear HS8 hft HPOS HX
        go_upto_region 20 with (go_at_call 44; refine HFL.out.mono ?_; rintro r w9 ⟨rfl, q9, rfl⟩)
        refine wp_world (fun V => (Recs Bs V u11 out vals ∧ JX w pj (.slice none 0 0) ⟨fr, ln, ep, lf + 1, [], t.pos, 0, false⟩ pd p D V ∧ Rd V A3 st) ∧ Bs ≤ V.heap.size) (HEND.out _) ?_
        clear HEND
        rintro V9 ⟨⟨hRc9, hX9, hr9⟩, hs9⟩
        have c6 : V9.cell? ⟨pj, 6, none⟩ = some (.int .i64 (t.pos : Int)) := hX9.obj.cell 6
        have c5 : V9.cell? ⟨pj, 5, none⟩ = some (.slice none 0 0) := hX9.obj.cell 5
        have c5f := hX9.obj.frozen 5
        have HE9 := Lib.hid (And.intro hX9 (And.intro hRc9 hr9))
        have hpc : t.pos ≤ c3 := by rw [hby] at htp; omega
        clear hX9 hRc9 hr9
        have HSET : Hid (JX w pj (.slice A3 t.pos t.pos) ⟨fr, ln, ep, lf + 1, st.take t.pos, t.pos, 0, false⟩ pd p D ((V9.setCell ⟨pj, 5, none⟩ (.slice A3 t.pos t.pos)).drew) ∧ Recs Bs ((V9.setCell ⟨pj, 5, none⟩ (.slice A3 t.pos t.pos)).drew) u11 out vals ∧ Rd ((V9.setCell ⟨pj, 5, none⟩ (.slice A3 t.pos t.pos)).drew) A3 st ∧ Bs ≤ ((V9.setCell ⟨pj, 5, none⟩ (.slice A3 t.pos t.pos)).drew).heap.size) := by
          have hf := Fr.setCell (fun k => k = pj) V9 (p := ⟨pj, 5, none⟩) (fun _ => rfl) (.slice A3 t.pos t.pos)
          have hb := (Below.refl (V9.setCell ⟨pj, 5, none⟩ (.slice A3 t.pos t.pos)).heap.size (V9.setCell ⟨pj, 5, none⟩ (.slice A3 t.pos t.pos))).drew
          exact ⟨(HE9.out.1.set_ (J' := ⟨fr, ln, ep, lf + 1, st.take t.pos, t.pos, 0, false⟩) 5 (.slice A3 t.pos t.pos) (.slice A3 t.pos t.pos) rfl).keep hb, (HE9.out.2.1.far hf (fun k e => by omega)).keep hb, (hf.rd HE9.out.2.2 (fun b off e _ => (HA3.out b off e).1)).below hb, by have := hf.size; have := hb.size; omega⟩
        go_region
        refine Exit.then_world (fun V => JX w pj (.slice A3 t.pos t.pos) ⟨fr, ln, ep, lf + 1, st.take t.pos, t.pos, 0, false⟩ pd p D V ∧ Recs Bs V u11 out vals ∧ Rd V A3 st ∧ Bs ≤ V.heap.size) HSET.out ?_
        clear HSET c6 c5 c5f HE9
        rintro V10 ⟨hX, hRc, hr, hs10⟩
        obtain ⟨Au, cu, rfl⟩ := recs_form hRc.own
        have c7 : V10.cell? ⟨pj, 7, none⟩ = some (.int .i64 0) := hX.obj.cell 7
        have c7f := hX.obj.frozen 7
        have HX10 := hX.set_ (J' := ⟨fr, ln, ep, lf + 1, st.take t.pos, t.pos, out.length, false⟩) 7 (.int .i64 (out.length : Int)) (.slice A3 t.pos t.pos) rfl
        have hf10 := Fr.setCell (fun k => k = pj) V10 (p := ⟨pj, 7, none⟩) (fun _ => rfl) (.int .i64 (out.length : Int))
        have HF10 := Lib.hid (And.intro HX10 (And.intro (hRc.far hf10 (fun k e => by omega)) (hf10.rd hr (fun b off e _ => (HA3.out b off e).1))))
        have hs11 : Bs ≤ (V10.setCell ⟨pj, 7, none⟩ (.int .i64 (out.length : Int))).heap.size := by have := hf10.size; omega
        clear hX hRc hr HX10 hf10
        go_wp2
        rw [hby] at htp
        have e1 : (jopenRecs st).1 = out := by rw [← HJE.out]
        have e2 : (jopenRecs st).2 = t.pos := by rw [← HJE.out]
        refine bodyPost_ret (v := .tuple #[.pointer (some ⟨pj, 0, none⟩), .slice Au out.length cu, .int .i64 0]) (by simp [results, Try.results12, go_sem]) rfl ⟨HF10.out.1.bel, .inr ⟨hbig, pj, .slice A3 t.pos t.pos, .slice Au out.length cu, vals, rfl, hpw, ?_, ?_⟩⟩
        · rw [e1, e2]
          exact jopen_fin HF10.out.1 HF10.out.2.2 HBEL.out.1 HBEL.out.2 HOK.out hfl h1 h2 hep (by omega) htp (by have := HLN.out; omega) hol hAf (fun b e => by have h9 := HA3.out b 0 e; have := HF10.out.1.obj.lt; have := HF10.out.1.bel.size; exact ⟨by have := HBEL.out.1.size; omega, fun hk => by have := HLT.out b hk; omega, h9.1, by omega⟩)
        · rw [e1]
          exact HF10.out.2.1.lower (by omega)
end
end
end Go.Proofs.Ytcnhfbckaacalaa
