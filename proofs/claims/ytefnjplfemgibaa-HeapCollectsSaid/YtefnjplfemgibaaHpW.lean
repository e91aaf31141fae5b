/- Heap (layer 9): what is read is a row of terms; Collect. Written by hpgenw.py. -/
import Derived.Test.YtefnjplfemgibaaHpO
namespace Go.Proofs.Ytefnjplfemgibaa
open Go.RowKit
set_option linter.unusedVariables false

/-! ### what is read is a row of terms -/
theorem leafP_isT {nm : List (List UInt8)} {n tag : Nat} {t : TV} (hn : n < 2305843009213693952) (h : leafP nm n tag = some t) : t.isT = true ∧ t.parts = 1 := by
  unfold leafP at h
  repeat' split at h
  all_goals first
    | (cases h; done)
    | (simp only [Option.some.injEq] at h; subst h; refine ⟨?_, rfl⟩; simp [tI, tA, tN, TV.isT, TV.isL, headB]; try omega)
    | skip
  all_goals try (simp_all [tI, tA, tN, TV.isT, TV.isL, headB, TV.parts, TV.partsL]; try omega)
theorem cellP_head {ws : List Nat} {a tag : Nat} {k i : Int} {items : List Nat} (h : cellP ws a tag = some (k, i, items)) : headB k i [] items.length = true := by
  unfold cellP at h
  repeat' split at h
  all_goals first
    | (cases h; done)
    | (simp only [Option.some.injEq, Prod.mk.injEq] at h; obtain ⟨rfl, rfl, rfl⟩ := h; simp only [List.length_drop] at *; simp [headB]; try omega)
    | (simp only [Option.some.injEq, Prod.mk.injEq] at h; obtain ⟨rfl, rfl, rfl⟩ := h; simp [headB]; try omega)
theorem rdL_isL {f : Nat → Nat → Except Nat (TV × Nat)} {S : Nat → Prop} (hf : ∀ y l t l', S y → f y l = .ok (t, l') → t.isT = true ∧ t.parts + l' ≤ l) : ∀ (items : List Nat) (l : Nat) (ts : List TV) (l' : Nat), (∀ y ∈ items, S y) → rdL f items l = .ok (ts, l') → TV.isL ts = true ∧ TV.partsL ts + l' ≤ l
  | [], l, ts, l', hS, h => by
    simp only [rdL, Except.ok.injEq, Prod.mk.injEq] at h
    obtain ⟨rfl, rfl⟩ := h
    exact ⟨rfl, by simp [TV.partsL]⟩
  | y :: r, l, ts, l', hS, h => by
    simp only [rdL] at h
    cases hy : f y l with
    | error e => rw [hy] at h; cases h
    | ok q =>
      obtain ⟨t, k1⟩ := q
      rw [hy] at h
      simp only at h
      obtain ⟨h1, h2⟩ := hf y l t k1 (hS y (by simp)) hy
      cases hr : rdL f r k1 with
      | error e => rw [hr] at h; cases h
      | ok q2 =>
        obtain ⟨ts2, k2⟩ := q2
        rw [hr] at h
        simp only [Except.ok.injEq, Prod.mk.injEq] at h
        obtain ⟨rfl, rfl⟩ := h
        obtain ⟨h3, h4⟩ := rdL_isL hf r k1 ts2 k2 (fun z hz => hS z (by simp [hz])) hr
        refine ⟨by simp only [TV.isL, h1, h3, Bool.and_self], by simp only [TV.partsL]; omega⟩
theorem rdT_isT {ws : List Nat} {nm : List (List UInt8)} (hw : W64 ws) (ahead : Nat) : ∀ x left t l, x < 18446744073709551616 → rdT ws nm ahead x left = .ok (t, l) → t.isT = true ∧ t.parts + l ≤ left := by
  induction ahead using Nat.strongRecOn with
  | _ ahead ih =>
    intro x left t l hx h
    rw [rdT] at h
    split at h
    · cases h
    · split at h
      · split at h
        · cases h
        · rename_i t' hl
          simp only [Except.ok.injEq, Prod.mk.injEq] at h
          obtain ⟨rfl, rfl⟩ := h
          obtain ⟨h1, h2⟩ := leafP_isT (by omega) hl
          exact ⟨h1, by omega⟩
      · split at h
        · rename_i hlt
          split at h
          · cases h
          · rename_i k i items hc
            split at h
            · cases h
            · rename_i ts l1 hr
              simp only [Except.ok.injEq, Prod.mk.injEq] at h
              obtain ⟨rfl, rfl⟩ := h
              obtain ⟨h1, h2⟩ := rdL_isL (f := fun y l => rdT ws nm (x / 8) y l) (S := fun y => y < 18446744073709551616) (fun y l t l' => ih (x / 8) hlt y l t l') items (left - 1) ts l1 (fun y hy => hw y ((cellP_sub hc).2 y hy)) hr
              have h3 := cellP_head hc
              have h4 := rdL_len hr
              refine ⟨?_, ?_⟩
              · rw [TV.isT_eq, Bool.and_eq_true]
                exact ⟨by simp only [TV.kind, TV.int, TV.name, TV.items]; rw [h4]; exact h3, h1⟩
              · rw [TV.parts_eq]
                simp only [TV.items]
                omega
        · cases h
theorem readP_isL {ws rs : List Nat} {nm : List (List UInt8)} {ts : List TV} (hw : W64 ws) (hr9 : W64 rs) (h : readP ws nm rs = .ok ts) : TV.isL ts = true ∧ TV.partsL ts ≤ 4096 ∧ ts.length = rs.length := by
  unfold readP at h
  split at h
  · cases h
  · split at h
    · cases h
    · rename_i ts' l hr
      simp only [Except.ok.injEq] at h
      subst h
      obtain ⟨h1, h2⟩ := rdL_isL (f := fun y l => rdT ws nm ws.length y l) (S := fun y => y < 18446744073709551616) (fun y l t l' => rdT_isT hw ws.length y l t l') rs 4096 ts' l hr9 hr
      exact ⟨h1, by omega, rdL_len hr⟩
mutual
theorem isT_named : ∀ t : TV, t.isT = true → t.named
  | .mk k n s l, h => by
    rw [TV.isT_eq, Bool.and_eq_true] at h
    obtain ⟨h1, h2⟩ := h
    simp only [TV.kind, TV.int, TV.name, TV.items] at h1 h2
    refine (TV.named_iff _).2 ⟨?_, isL_named l h2⟩
    simp only [TV.name]
    unfold headB at h1
    repeat' split at h1
    all_goals try simp only [Bool.and_eq_true, decide_eq_true_eq] at h1
    all_goals first
      | (rw [h1.2]; simp; done)
      | omega
      | (cases h1)
theorem isL_named : ∀ l : List TV, TV.isL l = true → TV.namedL l
  | [], _ => by simp [TV.namedL]
  | t :: r, h => by
    simp only [TV.isL, Bool.and_eq_true] at h
    simp only [TV.namedL]
    exact ⟨isT_named t h.1, isL_named r h.2⟩
end
theorem isL_of_all : ∀ {l : List TV}, (∀ t ∈ l, t.isT = true) → TV.isL l = true
  | [], _ => rfl
  | t :: r, h => by simp only [TV.isL, h t (by simp), isL_of_all (l := r) (fun y hy => h y (by simp [hy])), Bool.and_self]
theorem isL_mem : ∀ {l : List TV}, TV.isL l = true → ∀ t ∈ l, t.isT = true
  | [], _, t, h => by cases h
  | a :: r, h, t, ht => by
    simp only [TV.isL, Bool.and_eq_true] at h
    rcases List.mem_cons.1 ht with rfl | ht
    · exact h.1
    · exact isL_mem h.2 t ht

/-- A term by its number. -/
def pk (ts : List TV) (i : Int) : TV := (ts[i.toNat]?).getD tN
/-- Collect. -/
def collectP (ws : List Nat) (nm : List (List UInt8)) (rs : List Nat) (roots : List Int) : Except Nat (HSt × List Nat) :=
  match readP ws nm rs with
  | .error e => .error e
  | .ok ts => if ∀ i ∈ roots, 0 ≤ i ∧ i < (ts.length : Int) then (if checkP (roots.map (pk ts)) = 0 then .ok (layS (roots.map (pk ts))) else .error (checkP (roots.map (pk ts)))) else .error 2
theorem pk_isL {ts : List TV} (h : TV.isL ts = true) (roots : List Int) : TV.isL (roots.map (pk ts)) = true := isL_of_all fun t ht => by
  obtain ⟨i, _, rfl⟩ := List.mem_map.1 ht
  unfold pk
  cases e : ts[i.toNat]? with
  | none => rfl
  | some t => exact isL_mem h t (List.mem_of_getElem? e)
def ColEnds (W : World) (r : Except Nat (HSt × List Nat)) (e : Ending) (W' : World) : Prop :=
  Below W.heap.size W W' ∧ (∀ er, r = .error er → er ≠ 0 ∧ e = .returned (.tuple #[.agg #[.slice none 0 0, .slice none 0 0, .slice none 0 0], .int .i64 (er : Int)])) ∧
    (∀ st, r = .ok st → ∃ vw va vr, e = .returned (.tuple #[.agg #[vw, va, vr], .int .i64 0]) ∧ HOwn W.heap.size W' vw va vr st.1.ws st.1.nm st.2)
section
variable {w W V V' : World} {Aw Aa Ar : Option Addr} {lw cw la ca lr cr : Nat} {ws rs : List Nat} {nm : List (List UInt8)}
theorem col_lval {B n : Nat} {v : Value} {cs : List Value} {l : List TV} (ho : V.ownsRow B 37 4 v n cs) (hs : Std V cs l) : LVal V v l :=
  (lex_own (X := fun _ => False) ho (fun _ h => h.elim) (hs.kept (kept_all V))).1.val
theorem HOwn.up {B B' : Nat} {W : World} {vw va vr : Value} {ws rs : List Nat} {nm : List (List UInt8)} (h : HOwn B W vw va vr ws nm rs) (hb : B' ≤ B) : HOwn B' W vw va vr ws nm rs := ⟨ownsRow_base h.w hb, ownsRow_base h.a hb, ownsRow_base h.r hb⟩
theorem HOwn.set3 {B : Nat} {W : World} {vw va vr : Value} {ws rs : List Nat} {nm : List (List UInt8)} (h : HOwn B W vw va vr ws nm rs) {g : Nat} (hg : g < B) (x0 x1 x2 : Value) : HOwn B (((W.setCell ⟨g, 0, none⟩ x0).setCell ⟨g, 1, none⟩ x1).setCell ⟨g, 2, none⟩ x2) vw va vr ws nm rs := by
  have hf := fr_set3 W g x0 x1 x2
  have hrow : ∀ {e' n : Nat} {u : Value} {cs : List Value}, W.ownsRow B e' 1 u n cs → (((W.setCell ⟨g, 0, none⟩ x0).setCell ⟨g, 1, none⟩ x1).setCell ⟨g, 2, none⟩ x2).ownsRow B e' 1 u n cs := fun hu => own_at hu fun k hk => hf.block k (own_heap hu hk).2.1 (fun e9 => by have := (own_heap hu hk).1; omega)
  exact ⟨hrow h.w, hrow h.a, hrow h.r⟩
set_option maxRecDepth 100000 in
set_option maxHeartbeats 4000000 in
theorem hcollect_v (W : World) (h : HRd W Aw lw cw Aa la ca Ar lr cr ws nm rs) (roots : List Int) (Ab : Option Addr) (nb cb : Nat) (hlb : roots.length = nb) (hkb : RdK .i64 W Ab roots) (hnb : nb ≤ 1000000) :
    Calls Try.prog 24 #[.agg #[.slice Aw lw cw, .slice Aa la ca, .slice Ar lr cr], .slice Ab nb cb] W (ColEnds W (collectP ws nm rs roots)) := by
  have HRDV := Lib.hid (fun V (hV : Below W.heap.size W V) => hread_v V (h.below hV))
  have HKB := Lib.hid hkb
  have HLB := Lib.hid hlb
  have HCP : Hid (collectP ws nm rs roots = match readP ws nm rs with
    | .error e => .error e
    | .ok ts => if ∀ i ∈ roots, 0 ≤ i ∧ i < (ts.length : Int) then (if checkP (roots.map (pk ts)) = 0 then .ok (layS (roots.map (pk ts))) else .error (checkP (roots.map (pk ts)))) else .error 2) := Lib.hid rfl
  have HRL : Hid (∀ ts, readP ws nm rs = .ok ts → TV.isL ts = true ∧ TV.partsL ts ≤ 4096) := Lib.hid fun ts h9 => ⟨(readP_isL h.w64 h.r64 h9).1, (readP_isL h.w64 h.r64 h9).2.1⟩
  clear h hkb hlb
  generalize collectP ws nm rs roots = R at *
  generalize readP ws nm rs = Q at *
  obtain ⟨g, hg⟩ : ∃ g, W.heap.size = g := ⟨_, rfl⟩
  have HG := Lib.hid hg
  go_enter Try.func24, Try.ntmps24
  go_upto_region 1 with (fail)
  refine wp_world (fun V => Below W.heap.size W V ∧ Blk V g 29 #[.slice Aw lw cw, .slice Aa la ca, .slice Ar lr cr] ∧ Blk V (g + 1) 29 #[.slice none 0 0, .slice none 0 0, .slice none 0 0]) ⟨below_step (below_alloc _ _) (below_alloc _ _), by rw [← HG.out]; exact (Blk.new _ _ _).alloc _, by rw [← HG.out]; exact Blk.newAt (by simp)⟩ ?_
  rintro V0 ⟨hb, hk, hk2⟩
  have HB0 := Lib.hid hb
  have HK0 := Lib.hid hk
  have HT0 := Lib.hid hk2
  have x0 := hk.cell 0
  have x1 := hk.cell 1
  have x2 := hk.cell 2
  clear hb hk hk2 hg
  cases hQ : Q with
  | error er =>
    rw [hQ] at HRDV HCP
    simp only at HCP
    clear hQ HRL
    go_upto_region 2 with (go_at_call 16; refine (HRDV.out V0 HB0.out).mono ?_; rintro e w1 ⟨hb1, hq, _⟩; obtain ⟨hne, rfl⟩ := hq er rfl)
    refine wp_world (fun V => Below W.heap.size W V ∧ Blk V (g + 1) 29 #[.slice none 0 0, .slice none 0 0, .slice none 0 0]) ⟨below_step HB0.out hb1, HT0.out.keep hb1⟩ ?_
    clear hb1 HB0 HK0 HT0 x0 x1 x2
    rintro V1 ⟨hb, hk⟩
    have HB := Lib.hid hb
    have HK := Lib.hid hk
    have z0 := hk.cell 0
    have z1 := hk.cell 1
    have z2 := hk.cell 2
    have zf0 := hk.frozen 0
    have zf1 := hk.frozen 1
    have zf2 := hk.frozen 2
    have HNE := Lib.hid hne
    have d1 : ((er : Int) != 0) = true := by simpa using hne
    clear hb hk hne
    go_wp2
    have hB2 := HK.out.set3 (.slice none 0 0) (.slice none 0 0) (.slice none 0 0)
    have y0 := hB2.cell 0
    have y1 := hB2.cell 1
    have y2 := hB2.cell 2
    refine bodyPost_ret (v := .tuple #[.agg #[.slice none 0 0, .slice none 0 0, .slice none 0 0], .int .i64 (er : Int)]) (by simp [results, Try.results24, go_sem, y0, y1, y2]) rfl ?_
    rw [HCP.out]
    refine ⟨HB.out.trans ((fr_set3 V1 (g + 1) _ _ _).below HB.out.size (fun k hk => by have := HG.out; omega)), fun er' h9 => ?_, fun st h9 => by cases h9⟩
    cases h9
    exact ⟨HNE.out, rfl⟩
  | ok ts =>
    obtain ⟨hisL, hpl⟩ := HRL.out ts hQ
    rw [hQ] at HRDV HCP
    simp only at HCP
    have HIS := Lib.hid hisL
    have hts := len_parts ts
    clear hQ HRL hisL
    obtain ⟨nt, hnt⟩ : ∃ n, ts.length = n := ⟨_, rfl⟩
    rw [hnt] at HCP hts
    have HNT := Lib.hid hnt
    have hnt9 : nt ≤ 4096 := by omega
    go_upto_region 2 with (go_at_call 16; refine (HRDV.out V0 HB0.out).mono ?_; rintro e w1 ⟨hb1, _, hq⟩; obtain ⟨At, ct, rfl, hL⟩ := hq ts rfl)
    rw [hnt] at hL
    try rw [hnt]
    have hLv := hL.val
    refine wp_world (fun V => Below W.heap.size W V ∧ Blk V (g + 1) 29 #[.slice none 0 0, .slice none 0 0, .slice none 0 0] ∧ LVal V (.slice At nt ct) ts) ⟨below_step HB0.out hb1, HT0.out.keep hb1, hLv⟩ ?_
    clear hb1 HB0 HK0 HT0 x0 x1 x2 hL hLv hnt hts HRDV
    rintro V1 ⟨hb, hk, hL⟩
    have HB := Lib.hid hb
    have HK := Lib.hid hk
    have HL := Lib.hid hL
    clear hb hk hL
    go_upto_region 5 with (fail)
    obtain ⟨B, hBs⟩ : ∃ B, V1.heap.size = B := ⟨_, rfl⟩
    have HBS := Lib.hid hBs
    clear hBs
    go_wp2
    go_loopw [8, 22] (fun v ix wr => ∃ (j : Nat) (Aj : Option Addr) (cj : Nat) (cs : List Value), j ≤ nb ∧ ix = .int .i64 j ∧ v = .slice Aj j cj ∧ (∀ i ∈ roots.take j, 0 ≤ i ∧ i < (nt : Int)) ∧ Std V1 cs ((roots.take j).map (pk ts)) ∧ wr.ownsRow B 37 4 (.slice Aj j cj) j cs ∧ Below B V1 wr) (fun _ ix _ => nb - (intOf ix).toNat)
    case atStart => exact ⟨0, none, 0, [], Nat.zero_le _, rfl, rfl, (fun i h9 => by simp at h9), std_nil _, World.ownsRow_nil _ _ _ _, Below.refl _ _⟩
    case round =>
      obtain ⟨j, Aj, cj, cs, hj, rfl, rfl, hall, hstd, hown, hbl⟩ := hrel
      rw [← HBS.out] at hbl
      have HBL := Lib.hid hbl
      have HALL := Lib.hid hall
      have HSTD := Lib.hid hstd
      have HOWN := Lib.hid hown
      have HLE := Lib.hid (Nat.le_trans (Nat.le_of_eq HBS.out.symm) hbl.size)
      clear hall hstd hown
      by_cases hlt : j < nb
      · have hd1 : decide (j < nb) = true := by simp; omega
        have hkl : j < roots.length := by rw [HLB.out]; exact hlt
        obtain ⟨b', o', rfl, hcy⟩ := HKB.out.at_ (k := j) hkl
        have c0 := ((HB.out.trans (hbl.mono HB.out.size)).cell (World.block_lt_of_cell? W _ hcy)).trans hcy
        have htk : roots.take (j + 1) = roots.take j ++ [roots[j]] := by rw [List.take_succ_eq_append_getElem hkl]
        have HMEM := Lib.hid (show roots[j] ∈ roots from List.getElem_mem hkl)
        have hq1 : (0 : Int) ≤ (j : Int) := by omega
        have hq2 : (j : Int) < (nb : Int) := by omega
        generalize roots[j] = i at *
        have HTK := Lib.hid htk
        clear htk hcy hbl hkl
        have stop : Hid (¬ (0 ≤ i ∧ i < (nt : Int)) → R = .error 2) := Lib.hid fun h9 => by
          rw [HCP.out, if_neg]
          exact fun h8 => h9 (h8 i HMEM.out)
        by_cases h0 : i < 0
        · have e0 : decide (i < 0) = true := by simpa using h0
          have HE := Lib.hid (stop.out (by omega))
          go_upto_region 9 with (fail)
          refine wp_world (fun V => Below W.heap.size W V ∧ Blk V (g + 1) 29 #[.slice none 0 0, .slice none 0 0, .slice none 0 0]) ⟨below_step HB.out HBL.out, HK.out.keep HBL.out⟩ ?_
          clear HB HK HL HBL HALL HSTD HOWN HLE c0 stop HMEM HTK
          rintro V7 ⟨hb, hk⟩
          have HB := Lib.hid hb
          have HK := Lib.hid hk
          have z0 := hk.cell 0
          have z1 := hk.cell 1
          have z2 := hk.cell 2
          have zf0 := hk.frozen 0
          have zf1 := hk.frozen 1
          have zf2 := hk.frozen 2
          clear hb hk
          go_wp2
          have hB2 := HK.out.set3 (.slice none 0 0) (.slice none 0 0) (.slice none 0 0)
          have y0 := hB2.cell 0
          have y1 := hB2.cell 1
          have y2 := hB2.cell 2
          refine bodyPost_ret (v := .tuple #[.agg #[.slice none 0 0, .slice none 0 0, .slice none 0 0], .int .i64 2]) (by simp [results, Try.results24, go_sem, y0, y1, y2]) rfl ?_
          rw [HE.out]
          refine ⟨HB.out.trans ((fr_set3 V7 (g + 1) _ _ _).below HB.out.size (fun k hk => by have := HG.out; omega)), fun er' h9 => ?_, fun st h9 => by cases h9⟩
          cases h9
          exact ⟨by decide, rfl⟩
        by_cases h1 : i < (nt : Int)
        rotate_left
        · have e0 : decide (i < 0) = false := by simpa using h0
          have e1 : decide ((nt : Int) ≤ i) = true := by simpa using h1
          have HE := Lib.hid (stop.out (by omega))
          go_upto_region 9 with (fail)
          refine wp_world (fun V => Below W.heap.size W V ∧ Blk V (g + 1) 29 #[.slice none 0 0, .slice none 0 0, .slice none 0 0]) ⟨below_step HB.out HBL.out, HK.out.keep HBL.out⟩ ?_
          clear HB HK HL HBL HALL HSTD HOWN HLE c0 stop HMEM HTK
          rintro V7 ⟨hb, hk⟩
          have HB := Lib.hid hb
          have HK := Lib.hid hk
          have z0 := hk.cell 0
          have z1 := hk.cell 1
          have z2 := hk.cell 2
          have zf0 := hk.frozen 0
          have zf1 := hk.frozen 1
          have zf2 := hk.frozen 2
          clear hb hk
          go_wp2
          have hB2 := HK.out.set3 (.slice none 0 0) (.slice none 0 0) (.slice none 0 0)
          have y0 := hB2.cell 0
          have y1 := hB2.cell 1
          have y2 := hB2.cell 2
          refine bodyPost_ret (v := .tuple #[.agg #[.slice none 0 0, .slice none 0 0, .slice none 0 0], .int .i64 2]) (by simp [results, Try.results24, go_sem, y0, y1, y2]) rfl ?_
          rw [HE.out]
          refine ⟨HB.out.trans ((fr_set3 V7 (g + 1) _ _ _).below HB.out.size (fun k hk => by have := HG.out; omega)), fun er' h9 => ?_, fun st h9 => by cases h9⟩
          cases h9
          exact ⟨by decide, rfl⟩
        obtain ⟨q, rfl⟩ := Int.eq_ofNat_of_zero_le (show (0 : Int) ≤ i by omega)
        have hqn : q < nt := by omega
        have hql : q < ts.length := by rw [HNT.out]; exact hqn
        have e0 : decide ((q : Int) < 0) = false := by simp
        have e1 : decide (nt ≤ q) = false := by simp; omega
        have e2 : decide ((nt : Int) ≤ (q : Int)) = false := by simp; omega
        obtain ⟨A9, n9, c9, e9, _, hR9⟩ := HL.out
        obtain ⟨rfl, rfl, rfl⟩ := Value.slice.inj e9
        have hpk : pk ts (q : Int) = ts[q] := by unfold pk; rw [Int.toNat_natCast, List.getElem?_eq_getElem hql]; rfl
        obtain ⟨b, o, A', c', rfl, y0, y1, y2, y3, hR'⟩ := hR9.item hql
        have hT : TVal V1 (.agg #[.int .i64 ts[q].kind, .int .i64 ts[q].int, .string ⟨ts[q].name.toArray⟩, .slice A' ts[q].items.length c']) ts[q] := ⟨A', _, c', rfl, rfl, hR'⟩
        have u0 := (HBL.out.cell (World.block_lt_of_cell? V1 _ y0)).trans y0
        have u1 := (HBL.out.cell (World.block_lt_of_cell? V1 _ y1)).trans y1
        have u2 := (HBL.out.cell (World.block_lt_of_cell? V1 _ y2)).trans y2
        have u3 := (HBL.out.cell (World.block_lt_of_cell? V1 _ y3)).trans y3
        have HPK := Lib.hid hpk
        have HT := Lib.hid (std_one hT)
        generalize ts[q] = t at *
        have r1 : (0 : Int) ≤ (q : Int) := by omega
        have r2 : (q : Int) < (nt : Int) := by omega
        clear y0 y1 y2 y3 hT hpk hR' hR9 hql e9 stop HMEM h0 h1
        go_upto_region 11 with (at_builtin; refine wpList_app termT rfl (.tmp 35) (.tmp 40) rfl B (.slice Aj j cj) j cs rfl (own_far HOWN.out (below_alloc _ _)) (some ⟨wr.heap.size, 0, none⟩) 1 1 [.int .i64 t.kind, .int .i64 t.int, .string ⟨t.name.toArray⟩, .slice A' t.items.length c'] rfl rfl (blk_cs (Blk.new wr _ _)) (by intro u hu; simp only [List.mem_cons, List.mem_nil_iff, or_false] at hu; rcases hu with rfl | rfl | rfl | rfl <;> rfl) (by unfold maxLen; omega) (by omega) (Nat.le_trans HLE.out (below_alloc _ _).size) ?_; intro v7 w7 ho7 hg7 hat7; obtain ⟨A7, c7, rfl⟩ := own_sl ho7; have HO7 := Lib.hid ho7; have HG7 := Lib.hid hg7; clear ho7 hg7 hat7)
        have hbl7 : Below B V1 w7 := by
          have h9 := HBL.out
          rw [HBS.out] at h9
          exact (h9.alloc HLE.out _).grown HG7.out (Nat.le_trans HLE.out (below_alloc _ _).size) (fun k hk => (own_heap HOWN.out hk).1)
        have HEND := Lib.hid (show (∀ i ∈ roots.take (j + 1), 0 ≤ i ∧ i < (nt : Int)) ∧ Std V1 (cs ++ [.int .i64 t.kind, .int .i64 t.int, .string ⟨t.name.toArray⟩, .slice A' t.items.length c']) ((roots.take (j + 1)).map (pk ts)) ∧ w7.ownsRow B 37 4 (.slice A7 (j + 1) c7) (j + 1) (cs ++ [.int .i64 t.kind, .int .i64 t.int, .string ⟨t.name.toArray⟩, .slice A' t.items.length c']) ∧ Below B V1 w7 from by
          refine ⟨?_, ?_, HO7.out, hbl7⟩
          · rw [HTK.out]
            intro i hi
            rcases List.mem_append.1 hi with h9 | h9
            · exact HALL.out i h9
            · rw [List.mem_singleton.1 h9]; exact ⟨r1, r2⟩
          · rw [HTK.out, List.map_append, List.map_singleton, HPK.out]
            exact HSTD.out.append HT.out)
        clear hbl7 HO7 HG7 HT HPK HTK HSTD HALL HOWN HBL u0 u1 u2 u3 c0
        go_wp2
        go_roundw
        case rel => exact ⟨j + 1, A7, c7, _, by omega, by go_num, rfl, HEND.out⟩
        case measure => simp [intOf]; omega
      · obtain rfl : nb = j := by omega
        have hd1 : decide (nb < nb) = false := by simp
        have htl : roots.take nb = roots := List.take_of_length_le (by rw [HLB.out]; exact Nat.le_refl _)
        have hall := HALL.out
        have hstd := HSTD.out
        rw [htl] at hall hstd
        have hpl9 : (roots.map (pk ts)).length = nb := by rw [List.length_map]; exact HLB.out
        have HLV := col_lval HOWN.out (hstd.kept (Kept.of_below HBL.out))
        obtain ⟨A9, n9, c9, e9, hl9, hR9⟩ := HLV
        obtain ⟨rfl, rfl, rfl⟩ := Value.slice.inj e9
        have HLAY := Lib.hid (hlay_v (roots.map (pk ts)) Aj nb cj wr hpl9 (isL_named _ (pk_isL HIS.out roots)) hR9)
        rw [if_pos hall] at HCP
        have HKW := Lib.hid (HK.out.keep HBL.out)
        have HBW := Lib.hid (below_step HB.out HBL.out)
        clear hall hstd htl hpl9 hR9 e9 hl9 HSTD HALL HOWN HBL hbl HB HK HL
        generalize roots.map (pk ts) = acc at *
        have HGW := Lib.hid (show W.heap.size ≤ wr.heap.size from HBW.out.size)
        have HGL := Lib.hid HKW.out.lt
        by_cases hck : checkP acc = 0
        · rw [if_pos hck] at HCP
          have HCK := Lib.hid hck
          clear hck
          have HST := Lib.hid (show ∀ st, R = .ok st → st = layS acc from fun st h9 => by rw [HCP.out] at h9; cases h9; rfl)
          obtain ⟨m1, hm1⟩ : ∃ m, (layS acc).1.ws.length = m := ⟨_, rfl⟩
          obtain ⟨m2, hm2⟩ : ∃ m, (layS acc).1.nm.length = m := ⟨_, rfl⟩
          obtain ⟨m3, hm3⟩ : ∃ m, (layS acc).2.length = m := ⟨_, rfl⟩
          have HM := Lib.hid (And.intro hm1 (And.intro hm2 hm3))
          clear hm1 hm2 hm3
          go_wp2_with (go_at_call 11; refine HLAY.out.mono ?_; rintro e w2 ⟨hb2, hq⟩; rcases hq with ⟨hq, _⟩ | ⟨_, vw, va, vr, rfl, ho⟩; (exact absurd HCK.out hq); obtain ⟨i1, i2, i3⟩ := HM.out; have ow := ho.w; have oa := ho.a; have orr := ho.r; rw [i1] at ow; rw [i2] at oa; rw [i3] at orr; obtain ⟨Bw, dw, rfl⟩ := own_sl ow; obtain ⟨Ba, da, rfl⟩ := own_sl oa; obtain ⟨Br, dr, rfl⟩ := own_sl orr; have HO := Lib.hid ho; clear ow oa orr; have HB2 := Lib.hid hb2; have hk2 := HKW.out.keep hb2; have HK2 := Lib.hid hk2; have z0 := hk2.cell 0; have z1 := hk2.cell 1; have z2 := hk2.cell 2; have zf0 := hk2.frozen 0; have zf1 := hk2.frozen 1; have zf2 := hk2.frozen 2; clear ho hb2 hk2 i1 i2 i3)
          have hB2 := HK2.out.set3 (.slice Bw m1 dw) (.slice Ba m2 da) (.slice Br m3 dr)
          have y0 := hB2.cell 0
          have y1 := hB2.cell 1
          have y2 := hB2.cell 2
          refine bodyPost_ret (v := .tuple #[.agg #[.slice Bw m1 dw, .slice Ba m2 da, .slice Br m3 dr], .int .i64 0]) (by simp [results, Try.results24, go_sem, y0, y1, y2]) rfl ?_
          refine ⟨(below_step HBW.out HB2.out).trans ((fr_set3 w2 (g + 1) _ _ _).below (below_step HBW.out HB2.out).size (fun k hk => by have := HG.out; omega)), fun er' h9 => (by rw [HCP.out] at h9; cases h9), fun st h9 => ?_⟩
          obtain rfl := HST.out st h9
          have ho := HO.out
          exact ⟨_, _, _, rfl, (ho.set3 HGL.out _ _ _).up HGW.out⟩
        · rw [if_neg hck] at HCP
          have HCK := Lib.hid hck
          obtain ⟨ck, hce⟩ : ∃ ck, checkP acc = ck := ⟨_, rfl⟩
          have HCE := Lib.hid hce
          clear hck hce
          go_wp2_with (go_at_call 11; refine HLAY.out.mono ?_; rintro e w2 ⟨hb2, hq⟩; rcases hq with ⟨_, rfl⟩ | ⟨hq, _⟩; rotate_left; (exact absurd hq HCK.out); rw [HCE.out]; have HB2 := Lib.hid hb2; have hk2 := HKW.out.keep hb2; have HK2 := Lib.hid hk2; have z0 := hk2.cell 0; have z1 := hk2.cell 1; have z2 := hk2.cell 2; have zf0 := hk2.frozen 0; have zf1 := hk2.frozen 1; have zf2 := hk2.frozen 2; clear hb2 hk2)
          have hB2 := HK2.out.set3 (.slice none 0 0) (.slice none 0 0) (.slice none 0 0)
          have y0 := hB2.cell 0
          have y1 := hB2.cell 1
          have y2 := hB2.cell 2
          refine bodyPost_ret (v := .tuple #[.agg #[.slice none 0 0, .slice none 0 0, .slice none 0 0], .int .i64 (ck : Int)]) (by simp [results, Try.results24, go_sem, y0, y1, y2]) rfl ?_
          refine ⟨(below_step HBW.out HB2.out).trans ((fr_set3 w2 (g + 1) _ _ _).below (below_step HBW.out HB2.out).size (fun k hk => by have := HG.out; omega)), fun er' h9 => ?_, fun st h9 => (by rw [HCP.out] at h9; cases h9)⟩
          rw [HCP.out] at h9
          cases h9
          exact ⟨HCK.out, by rw [HCE.out]⟩
end
end Go.Proofs.Ytefnjplfemgibaa
