/- Heap (layer 9): the walk of the walker's term. Written by hpgenk.py. -/
import Derived.Test.YtefnjplfemgibaaHpJ
namespace Go.Proofs.Ytefnjplfemgibaa
open Go.RowKit
set_option linter.unusedVariables false

section
variable {w0 W W' : World} {pw : Nat} {Aw Aa Ar : Option Addr} {lw cw la ca lr cr : Nat} {ws : List Nat} {nm : List (List UInt8)}
theorem rdL_le {f : Nat → Nat → Except Nat (TV × Nat)} (hf : ∀ y l t l', f y l = .ok (t, l') → l' ≤ l) : ∀ (items : List Nat) (l : Nat) (ts : List TV) (l' : Nat), rdL f items l = .ok (ts, l') → l' ≤ l
  | [], l, ts, l', h => by simp only [rdL, Except.ok.injEq, Prod.mk.injEq] at h; omega
  | y :: r, l, ts, l', h => by
    simp only [rdL] at h
    cases hy : f y l with
    | error e => rw [hy] at h; cases h
    | ok q =>
      obtain ⟨t, k1⟩ := q
      rw [hy] at h
      simp only at h
      have h1 := hf y l t k1 hy
      cases hr : rdL f r k1 with
      | error e => rw [hr] at h; cases h
      | ok q2 =>
        obtain ⟨ts2, k2⟩ := q2
        rw [hr] at h
        simp only [Except.ok.injEq, Prod.mk.injEq] at h
        have := rdL_le hf r k1 ts2 k2 hr
        omega
theorem rdT_le (ahead : Nat) : ∀ x left t l, rdT ws nm ahead x left = .ok (t, l) → l ≤ left := by
  induction ahead using Nat.strongRecOn with
  | _ ahead ih =>
    intro x left t l h
    rw [rdT] at h
    split at h
    · cases h
    · split at h
      · split at h
        · cases h
        · simp only [Except.ok.injEq, Prod.mk.injEq] at h; omega
      · split at h
        · rename_i hlt
          split at h
          · cases h
          · rename_i k i items hc
            split at h
            · cases h
            · rename_i ts l1 hr
              simp only [Except.ok.injEq, Prod.mk.injEq] at h
              have := rdL_le (f := fun y l => rdT ws nm (x / 8) y l) (fun y l t l' => ih (x / 8) hlt y l t l') items (left - 1) ts l1 hr
              omega
        · cases h
/-- What term leaves. -/
def WTE (pw : Nat) (Aw : Option Addr) (lw cw : Nat) (Aa : Option Addr) (la ca : Nat) (Ar : Option Addr) (lr cr : Nat) (W : World) (r : Except Nat (TV × Nat)) (e : Ending) (W' : World) : Prop :=
  Fr (fun k => k = pw) W W' ∧ ∃ (k i : Int) (s : List UInt8) (A : Option Addr) (n c : Nat), e = .returned (.agg #[.int .i64 k, .int .i64 i, .string ⟨s.toArray⟩, .slice A n c]) ∧
    (∀ er, r = .error er → er ≠ 0 ∧ ∃ l : Int, Blk W' pw 79 (WC Aw lw cw Aa la ca Ar lr cr l (er : Int))) ∧
    (∀ t l, r = .ok (t, l) → TEx (fun k => k < W.heap.size) W' (.agg #[.int .i64 k, .int .i64 i, .string ⟨s.toArray⟩, .slice A n c]) t ∧ Blk W' pw 79 (WC Aw lw cw Aa la ca Ar lr cr (l : Int) 0))
theorem and7 (x : Nat) (hx : x < 18446744073709551616) : wrap64 (bits BinOp.and IntKind.u64 (x : Int) 7) = ((x % 8 : Nat) : Int) := by
  have h := u64_and_nat x 7 hx (by omega)
  have h2 : x &&& 7 = x % 8 := Nat.and_two_pow_sub_one_eq_mod x 3
  have h3 : bits BinOp.and IntKind.u64 (x : Int) 7 = ((x % 8 : Nat) : Int) := by rw [← h2]; exact h
  rw [h3]
  unfold wrap64
  omega
theorem wfails_u {left e : Int} (hB : Blk W pw 79 #[.slice Aw lw cw, .slice Aa la ca, .slice Ar lr cr, .int .i64 left, .int .i64 0]) : Calls Try.prog 68 #[.pointer (some ⟨pw, 0, none⟩), .int .i64 e] W fun r W' => r = .returned (.agg #[.int .i64 0, .int .i64 0, .string ⟨#[]⟩, .slice none 0 0]) ∧ Blk W' pw 79 #[.slice Aw lw cw, .slice Aa la ca, .slice Ar lr cr, .int .i64 left, .int .i64 e] ∧ Fr (fun k => k = pw) W W' := wfails_v hB
theorem wcell_v {left : Int} (hB : Blk W pw 79 (WC Aw lw cw Aa la ca Ar lr cr left 0)) (hR : RdC W Aw (ws.map nv)) (hl : ws.length = lw) (h64 : W64 ws) (hlc : lw ≤ cw) (hcm : cw ≤ 9223372036854775807) (hlw : lw ≤ 100000) (a : Nat) (ha : a < lw) (tag : Nat) (h5 : 5 ≤ tag) (h8 : tag < 8) : Calls Try.prog 70 #[.pointer (some ⟨pw, 0, none⟩), .int .i64 (a : Int), .int .i64 (tag : Int)] W (CellEnds W (cellP ws a tag)) := by
  match tag, h5, h8 with
  | 5, _, _ => exact cell5_v hB hR hl h64 hlc hcm hlw a ha
  | 6, _, _ => exact cell6_v hB hR hl h64 hlc hcm hlw a ha
  | 7, _, _ => exact cell7_v hB hR hl h64 hlc hcm hlw a ha
/-- The row of items while they are read. -/
structure RI (B : Nat) (V : World) (Aj : Option Addr) (j cj : Nat) (cs : List Value) (ts : List TV) : Prop where
  own : V.ownsRow B 37 4 (.slice Aj j cj) j cs
  std : Std (ers (fun k => k < B ∨ (Value.slice Aj j cj).ownBlock = some k) V) cs ts
theorem RI.step {B : Nat} {V V' : World} {Aj : Option Addr} {j cj : Nat} {cs : List Value} {ts : List TV} {Y : Nat → Prop} (h : RI B V Aj j cj cs ts) (hf : Fr Y V V') (hY : ∀ k, Y k → k < B) : RI B V' Aj j cj cs ts :=
  ⟨own_at h.own (fun k hk => hf.block k (own_heap h.own hk).2.1 (fun h9 => by have := hY k h9; have := (own_heap h.own hk).1; omega)), h.std.kept (kept_step hf (fun k _ hk => .inl (hY k hk)) (fun k _ hk => hk))⟩
theorem RI.add {B : Nat} {V V' : World} {Aj A7 : Option Addr} {j cj c7 : Nat} {cs : List Value} {ts : List TV} {k i : Int} {s : List UInt8} {A : Option Addr} {n c : Nat} {t : TV} (h : RI B V Aj j cj cs ts) (hB : B ≤ V.heap.size) (hT : TEx (fun k => k < B ∨ (Value.slice Aj j cj).ownBlock = some k) V (.agg #[.int .i64 k, .int .i64 i, .string ⟨s.toArray⟩, .slice A n c]) t)
    (ho : V'.ownsRow B 37 4 (.slice A7 (j + 1) c7) (j + 1) (cs ++ [.int .i64 k, .int .i64 i, .string ⟨s.toArray⟩, .slice A n c])) (hg : V.grownBy V' (Value.slice Aj j cj).ownBlock) (hat : (Value.slice A7 (j + 1) c7).ownBlock = (Value.slice Aj j cj).ownBlock ∨ (Value.slice A7 (j + 1) c7).ownBlock = some V.heap.size) : RI B V' A7 (j + 1) c7 (cs ++ [.int .i64 k, .int .i64 i, .string ⟨s.toArray⟩, .slice A n c]) (ts ++ [t]) := by
  refine ⟨ho, ((h.std.append (std_one hT)).kept (kept_step (Fr.of_grown (F := fun k => (Value.slice Aj j cj).ownBlock = some k) hg (fun k hk _ => hk)) (fun k _ hk => .inr hk) (fun k hk h9 => ?_)))⟩
  rcases h9 with h9 | h9
  · exact .inl h9
  · rcases hat with h8 | h8
    · exact .inr (by rw [← h8]; exact h9)
    · rw [h8] at h9
      have := Option.some.inj h9
      omega
theorem RI.val {B : Nat} {V : World} {Aj : Option Addr} {j cj : Nat} {cs : List Value} {ts : List TV} (h : RI B V Aj j cj cs ts) (k i : Int) : TEx (fun k => k < B) V (.agg #[.int .i64 k, .int .i64 i, .string ⟨#[]⟩, .slice Aj j cj]) (.mk k i [] ts) := by
  obtain ⟨h1, h2⟩ := lex_own (X := fun k => k < B) h.own (fun _ h => h) (h.std.kept (kept_step (Fr.refl (fun _ => False) V) (fun _ _ h => h.elim) (fun k _ hk => .inl hk)))
  obtain ⟨A', n', c', e, h3, h4⟩ := h1
  obtain ⟨rfl, rfl, rfl⟩ := Value.slice.inj e
  exact ⟨_, _, _, rfl, h3, h4⟩
def WIH (w0 : World) (pw : Nat) (Aw : Option Addr) (lw cw : Nat) (Aa : Option Addr) (la ca : Nat) (Ar : Option Addr) (lr cr : Nat) (ws : List Nat) (nm : List (List UInt8)) (n : Nat) : Prop :=
  ∀ (y left : Nat) (V : World), y < 18446744073709551616 → left ≤ 4096 → Below w0.heap.size w0 V → Blk V pw 79 (WC Aw lw cw Aa la ca Ar lr cr (left : Int) 0) →
    Calls Try.prog 36 #[.pointer (some ⟨pw, 0, none⟩), .int .u64 (y : Int), .int .i64 (n : Int)] V (WTE pw Aw lw cw Aa la ca Ar lr cr V (rdT ws nm n y left))
set_option maxRecDepth 100000 in
set_option maxHeartbeats 8000000 in
theorem wterm_in (ahead x left : Nat) (W : World) (hx : x < 18446744073709551616) (hleft : left ≤ 4096) (hold : Below w0.heap.size w0 W) (hB : Blk W pw 79 (WC Aw lw cw Aa la ca Ar lr cr (left : Int) 0)) (hpw : w0.heap.size ≤ pw)
    (hR : RdC w0 Aw (ws.map nv)) (hN : RdC w0 Aa (nm.map hv)) (hl : ws.length = lw) (hln : nm.length = la) (h64 : W64 ws) (hlc : lw ≤ cw) (hcm : cw ≤ 9223372036854775807) (hlw : lw ≤ 100000) (hla : la ≤ 100000) (ha : ahead ≤ lw) (hih : x / 8 < ahead → WIH w0 pw Aw lw cw Aa la ca Ar lr cr ws nm (x / 8)) :
    Calls Try.prog 36 #[.pointer (some ⟨pw, 0, none⟩), .int .u64 (x : Int), .int .i64 (ahead : Int)] W (WTE pw Aw lw cw Aa la ca Ar lr cr W (rdT ws nm ahead x left)) := by
  have HIH := Lib.hid hih
  unfold WC at hB
  have HB := Lib.hid hB
  have HPW := Lib.hid hB.lt
  have HOLD := Lib.hid hold
  have HR := Lib.hid hR
  have HN := Lib.hid hN
  have HP0 := Lib.hid hpw
  have HH := Lib.hid (And.intro hl (And.intro hln h64))
  clear hB hold hR hN hl hln h64 hih hpw
  obtain ⟨g, hg⟩ : ∃ g, W.heap.size = g := ⟨_, rfl⟩
  have HG := Lib.hid hg
  have HGP : Hid (g ≠ pw) := by have := HPW.out; unfold Hid; omega
  go_enter Try.func36, Try.ntmps36
  go_upto_region 1 with (fail)
  refine wp_world (fun V => Below W.heap.size W V ∧ Blk V g 37 #[.int .i64 0, .int .i64 0, .string ⟨#[]⟩, .slice none 0 0]) ⟨below_alloc _ _, by rw [← HG.out]; exact Blk.new _ _ _⟩ ?_
  rintro V ⟨hb, hk⟩
  have HK := Lib.hid hk
  have HBL := Lib.hid hb
  have HB := Lib.hid (HB.out.keep hb)
  have x3 := HB.out.cell 3
  have xf3 := HB.out.frozen 3
  clear hb hk hg
  have hset : Hid (∀ l : Int, Blk (V.setCell ⟨pw, 3, none⟩ (.int .i64 l)) pw 79 #[.slice Aw lw cw, .slice Aa la ca, .slice Ar lr cr, .int .i64 l, .int .i64 0] ∧ Blk (V.setCell ⟨pw, 3, none⟩ (.int .i64 l)) g 37 #[.int .i64 0, .int .i64 0, .string ⟨#[]⟩, .slice none 0 0] ∧ Fr (fun k => k = pw) W (V.setCell ⟨pw, 3, none⟩ (.int .i64 l))) := fun l =>
    ⟨HB.out.set_ 3 (.int .i64 l), HK.out.far (p := ⟨pw, 3, none⟩) HGP.out _, (Fr.of_below HBL.out _).same (Fr.setCell (fun k => k = pw) V (p := ⟨pw, 3, none⟩) (fun _ => rfl) _)⟩
  by_cases hl0 : left = 0
  · subst hl0
    have HE := Lib.hid (show rdT ws nm ahead x 0 = .error 6 from by rw [rdT]; rw [if_pos rfl])
    go_upto_region 3 with (fail)
    refine wp_world (fun V => Blk V pw 79 #[.slice Aw lw cw, .slice Aa la ca, .slice Ar lr cr, .int .i64 (-1 : Int), .int .i64 0] ∧ Blk V g 37 #[.int .i64 0, .int .i64 0, .string ⟨#[]⟩, .slice none 0 0] ∧ Fr (fun k => k = pw) W V) (hset.out (-1 : Int)) ?_
    clear hset x3 xf3 HB HK HBL
    rintro V ⟨h1, h2, h3⟩
    have HB := Lib.hid h1
    have HK := Lib.hid h2
    have HF := Lib.hid h3
    have HOV : Hid (Below w0.heap.size w0 V) := HOLD.out.trans (h3.below HOLD.out.size (fun k hk => by rw [hk]; exact HP0.out))
    clear h1 h2 h3
    go_wp2_with (go_at_call 68; refine (wfails_u (e := 6) HB.out).mono ?_; rintro r V8 ⟨rfl, hw8, hf8⟩; have HB := Lib.hid hw8; have HK := Lib.hid (hf8.blk HK.out HGP.out); have HF := Lib.hid (HF.out.same hf8); clear hw8 hf8; have z0 := HK.out.cell 0; have z1 := HK.out.cell 1; have z2 := HK.out.cell 2; have z3 := HK.out.cell 3; have zf0 := HK.out.frozen 0; have zf1 := HK.out.frozen 1; have zf2 := HK.out.frozen 2; have zf3 := HK.out.frozen 3)
    have hB2 := HK.out.set4 (.int .i64 0) (.int .i64 0) (.string ⟨#[]⟩) (.slice none 0 0)
    have y0 := hB2.cell 0
    have y1 := hB2.cell 1
    have y2 := hB2.cell 2
    have y3 := hB2.cell 3
    have hfr := fr_set4 V8 g (.int .i64 0) (.int .i64 0) (.string ⟨#[]⟩) (.slice none 0 0)
    refine bodyPost_ret (v := .agg #[.int .i64 0, .int .i64 0, .string ⟨#[]⟩, .slice none 0 0]) (by simp [results, Try.results36, go_sem, y0, y1, y2, y3]) rfl ?_
    rw [HE.out]
    refine ⟨HF.out.trans hfr (fun k hk e => by have := HG.out; omega), 0, 0, [], none, 0, 0, rfl, fun er h => ?_, fun t l h => by cases h⟩
    cases h
    exact ⟨by decide, (-1 : Int), hfr.blk HB.out (fun e => HGP.out e.symm)⟩
  · obtain ⟨l1, rfl⟩ : ∃ l1, left = l1 + 1 := ⟨left - 1, by omega⟩
    have HTG := Lib.hid (and7 x hx)
    have HXN := Lib.hid (show (x : Int) / 8 = ((x / 8 : Nat) : Int) by omega)
    have hn61 : x / 8 < 2305843009213693952 := by omega
    have ht8 : x % 8 < 8 := by omega
    have HE0 := Lib.hid (show rdT ws nm ahead x (l1 + 1) = if x % 8 < 5 then (match leafP nm (x / 8) (x % 8) with | none => .error 90 | some t => .ok (t, l1)) else if h : x / 8 < ahead then (match cellP ws (x / 8) (x % 8) with | none => .error 90 | some (k, i, items) => match rdL (fun y l => rdT ws nm (x / 8) y l) items l1 with | .error e => .error e | .ok (ts, l1) => .ok (.mk k i [] ts, l1)) else .error 90 from by rw [rdT]; rw [if_neg (by omega)]; rfl)
    go_upto_region 5 with (fail)
    rw [HTG.out, HXN.out]
    refine wp_world (fun V => Blk V pw 79 #[.slice Aw lw cw, .slice Aa la ca, .slice Ar lr cr, .int .i64 (l1 : Int), .int .i64 0] ∧ Blk V g 37 #[.int .i64 0, .int .i64 0, .string ⟨#[]⟩, .slice none 0 0] ∧ Fr (fun k => k = pw) W V) (hset.out (l1 : Int)) ?_
    clear hset x3 xf3 HB HK HBL
    rintro V ⟨h1, h2, h3⟩
    have HB := Lib.hid h1
    have HK := Lib.hid h2
    have HF := Lib.hid h3
    have HOV : Hid (Below w0.heap.size w0 V) := HOLD.out.trans (h3.below HOLD.out.size (fun k hk => by rw [hk]; exact HP0.out))
    clear h1 h2 h3
    clear HTG HXN
    generalize hnn : x / 8 = n at *
    generalize htt : x % 8 = tag at *
    clear hnn htt hx
    by_cases h5 : tag < 5
    · have d1 : decide ((tag : Int) < 5) = true := by simp; omega
      have HLF := Lib.hid (wleaf_v (nm := nm) (show Blk V pw 79 (WC Aw lw cw Aa la ca Ar lr cr (l1 : Int) 0) from HB.out) (HN.out.below HOV.out) HH.out.2.1 hla n tag hn61 h5)
      cases hlf : leafP nm n tag with
      | none =>
        rw [hlf] at HLF
        have HE := Lib.hid (show rdT ws nm ahead x (l1 + 1) = .error 90 from by rw [HE0.out, if_pos h5, hlf])
        clear HE0 hlf
        go_upto_region 8 with (go_at_call 69; refine HLF.out.mono ?_; rintro e V2 ⟨k, i, s, rfl, _, hb2⟩)
        refine wp_world (fun V => Blk V pw 79 #[.slice Aw lw cw, .slice Aa la ca, .slice Ar lr cr, .int .i64 (l1 : Int), .int .i64 0] ∧ Blk V g 37 #[.int .i64 0, .int .i64 0, .string ⟨#[]⟩, .slice none 0 0] ∧ Fr (fun k => k = pw) W V) ⟨(HB.out.keep hb2).alloc _, (HK.out.keep hb2).alloc _, (HF.out.same (Fr.of_below hb2 _)).same (Fr.alloc _ _ _)⟩ ?_
        clear hb2 HLF HB HK HF HOV
        rintro V3 ⟨h1, h2, h3⟩
        have HB := Lib.hid h1
        have HK := Lib.hid h2
        have HF := Lib.hid h3
        clear h1 h2 h3
        go_wp2_with (go_at_call 68; refine (wfails_u (e := 90) HB.out).mono ?_; rintro r V8 ⟨rfl, hw8, hf8⟩; have HB := Lib.hid hw8; have HK := Lib.hid (hf8.blk HK.out HGP.out); have HF := Lib.hid (HF.out.same hf8); clear hw8 hf8; have z0 := HK.out.cell 0; have z1 := HK.out.cell 1; have z2 := HK.out.cell 2; have z3 := HK.out.cell 3; have zf0 := HK.out.frozen 0; have zf1 := HK.out.frozen 1; have zf2 := HK.out.frozen 2; have zf3 := HK.out.frozen 3)
        have hB2 := HK.out.set4 (.int .i64 0) (.int .i64 0) (.string ⟨#[]⟩) (.slice none 0 0)
        have y0 := hB2.cell 0
        have y1 := hB2.cell 1
        have y2 := hB2.cell 2
        have y3 := hB2.cell 3
        have hfr := fr_set4 V8 g (.int .i64 0) (.int .i64 0) (.string ⟨#[]⟩) (.slice none 0 0)
        refine bodyPost_ret (v := .agg #[.int .i64 0, .int .i64 0, .string ⟨#[]⟩, .slice none 0 0]) (by simp [results, Try.results36, go_sem, y0, y1, y2, y3]) rfl ?_
        rw [HE.out]
        refine ⟨HF.out.trans hfr (fun k hk e => by have := HG.out; omega), 0, 0, [], none, 0, 0, rfl, fun er h => ?_, fun t l h => by cases h⟩
        cases h
        exact ⟨by decide, (l1 : Int), hfr.blk HB.out (fun e => HGP.out e.symm)⟩
      | some t =>
        rw [hlf] at HLF
        have HE := Lib.hid (show rdT ws nm ahead x (l1 + 1) = .ok (t, l1) from by rw [HE0.out, if_pos h5, hlf])
        clear HE0 hlf
        go_upto_region 9 with (go_at_call 69; refine HLF.out.mono ?_; rintro e V2 ⟨k, i, s, rfl, ht9, hb2⟩)
        obtain ⟨g9, hg9⟩ : ∃ g9, V2.heap.size = g9 := ⟨_, rfl⟩
        rw [hg9]
        refine wp_world (fun V => Blk V pw 79 #[.slice Aw lw cw, .slice Aa la ca, .slice Ar lr cr, .int .i64 (l1 : Int), .int .i64 0] ∧ Blk V g 37 #[.int .i64 0, .int .i64 0, .string ⟨#[]⟩, .slice none 0 0] ∧ Fr (fun k => k = pw) W V ∧ Blk V g9 37 #[.int .i64 k, .int .i64 i, .string ⟨s.toArray⟩, .slice none 0 0] ∧ g ≠ g9) ⟨(HB.out.keep hb2).alloc _, (HK.out.keep hb2).alloc _, (HF.out.same (Fr.of_below hb2 _)).same (Fr.alloc _ _ _), by rw [← hg9]; exact Blk.new _ _ _, by have := HK.out.lt; have := hb2.size; omega⟩ ?_
        have HT := Lib.hid (ht9 t rfl)
        clear hb2 HLF HB HK HF HOV hg9 ht9
        rintro V3 ⟨h1, h2, h3, h4, h5⟩
        have HB := Lib.hid h1
        have HK := Lib.hid h2
        have HF := Lib.hid h3
        have b0 := h4.cell 0
        have b1 := h4.cell 1
        have b2 := h4.cell 2
        have b3 := h4.cell 3
        clear h1 h2 h3 h4
        have z0 := HK.out.cell 0
        have z1 := HK.out.cell 1
        have z2 := HK.out.cell 2
        have z3 := HK.out.cell 3
        have zf0 := HK.out.frozen 0
        have zf1 := HK.out.frozen 1
        have zf2 := HK.out.frozen 2
        have zf3 := HK.out.frozen 3
        go_wp2
        have hB2 := HK.out.set4 (.int .i64 k) (.int .i64 i) (.string ⟨s.toArray⟩) (.slice none 0 0)
        have y0 := hB2.cell 0
        have y1 := hB2.cell 1
        have y2 := hB2.cell 2
        have y3 := hB2.cell 3
        have hfr := fr_set4 V3 g (.int .i64 k) (.int .i64 i) (.string ⟨s.toArray⟩) (.slice none 0 0)
        refine bodyPost_ret (v := .agg #[.int .i64 k, .int .i64 i, .string ⟨s.toArray⟩, .slice none 0 0]) (by simp [results, Try.results36, go_sem, y0, y1, y2, y3]) rfl ?_
        rw [HE.out]
        refine ⟨HF.out.trans hfr (fun k hk e => by have := HG.out; omega), k, i, s, none, 0, 0, rfl, (fun er h => by cases h), fun t' l' h => ?_⟩
        simp only [Except.ok.injEq, Prod.mk.injEq] at h
        obtain ⟨rfl, rfl⟩ := h
        refine ⟨?_, hfr.blk HB.out (fun e => HGP.out e.symm)⟩
        rw [HT.out]
        exact ⟨none, 0, 0, rfl, rfl, rdM_nil _ _ _ (by omega)⟩
    · have d1 : decide ((tag : Int) < 5) = false := by simp; omega
      by_cases hna : n < ahead
      rotate_left
      · have d2 : decide ((ahead : Int) ≤ (n : Int)) = true := by simp; omega
        have HE := Lib.hid (show rdT ws nm ahead x (l1 + 1) = .error 90 from by rw [HE0.out, if_neg h5, dif_neg hna])
        clear HE0
        go_upto_region 11 with (fail)
        go_wp2_with (go_at_call 68; refine (wfails_u (e := 90) HB.out).mono ?_; rintro r V8 ⟨rfl, hw8, hf8⟩; have HB := Lib.hid hw8; have HK := Lib.hid (hf8.blk HK.out HGP.out); have HF := Lib.hid (HF.out.same hf8); clear hw8 hf8; have z0 := HK.out.cell 0; have z1 := HK.out.cell 1; have z2 := HK.out.cell 2; have z3 := HK.out.cell 3; have zf0 := HK.out.frozen 0; have zf1 := HK.out.frozen 1; have zf2 := HK.out.frozen 2; have zf3 := HK.out.frozen 3)
        have hB2 := HK.out.set4 (.int .i64 0) (.int .i64 0) (.string ⟨#[]⟩) (.slice none 0 0)
        have y0 := hB2.cell 0
        have y1 := hB2.cell 1
        have y2 := hB2.cell 2
        have y3 := hB2.cell 3
        have hfr := fr_set4 V8 g (.int .i64 0) (.int .i64 0) (.string ⟨#[]⟩) (.slice none 0 0)
        refine bodyPost_ret (v := .agg #[.int .i64 0, .int .i64 0, .string ⟨#[]⟩, .slice none 0 0]) (by simp [results, Try.results36, go_sem, y0, y1, y2, y3]) rfl ?_
        rw [HE.out]
        refine ⟨HF.out.trans hfr (fun k hk e => by have := HG.out; omega), 0, 0, [], none, 0, 0, rfl, fun er h => ?_, fun t l h => by cases h⟩
        cases h
        exact ⟨by decide, (l1 : Int), hfr.blk HB.out (fun e => HGP.out e.symm)⟩
      · have d2 : decide ((ahead : Int) ≤ (n : Int)) = false := by simp; omega
        have HCL := Lib.hid (wcell_v (ws := ws) (show Blk V pw 79 (WC Aw lw cw Aa la ca Ar lr cr (l1 : Int) 0) from HB.out) (HR.out.below HOV.out) HH.out.1 HH.out.2.2 hlc hcm hlw n (by omega) tag (by omega) ht8)
        cases hcl : cellP ws n tag with
        | none =>
          rw [hcl] at HCL
          have HE := Lib.hid (show rdT ws nm ahead x (l1 + 1) = .error 90 from by rw [HE0.out, if_neg h5, dif_pos hna, hcl])
          clear HE0 hcl
          go_upto_region 14 with (go_at_call 70; refine HCL.out.mono ?_; rintro e V2 ⟨k, i, A2, n2, c2, rfl, _, hb2⟩)
          refine wp_world (fun V => Blk V pw 79 #[.slice Aw lw cw, .slice Aa la ca, .slice Ar lr cr, .int .i64 (l1 : Int), .int .i64 0] ∧ Blk V g 37 #[.int .i64 0, .int .i64 0, .string ⟨#[]⟩, .slice none 0 0] ∧ Fr (fun k => k = pw) W V) ⟨(HB.out.keep hb2).alloc _, (HK.out.keep hb2).alloc _, (HF.out.same (Fr.of_below hb2 _)).same (Fr.alloc _ _ _)⟩ ?_
          clear hb2 HCL HB HK HF HOV
          rintro V3 ⟨h1, h2, h3⟩
          have HB := Lib.hid h1
          have HK := Lib.hid h2
          have HF := Lib.hid h3
          clear h1 h2 h3
          go_wp2_with (go_at_call 68; refine (wfails_u (e := 90) HB.out).mono ?_; rintro r V8 ⟨rfl, hw8, hf8⟩; have HB := Lib.hid hw8; have HK := Lib.hid (hf8.blk HK.out HGP.out); have HF := Lib.hid (HF.out.same hf8); clear hw8 hf8; have z0 := HK.out.cell 0; have z1 := HK.out.cell 1; have z2 := HK.out.cell 2; have z3 := HK.out.cell 3; have zf0 := HK.out.frozen 0; have zf1 := HK.out.frozen 1; have zf2 := HK.out.frozen 2; have zf3 := HK.out.frozen 3)
          have hB2 := HK.out.set4 (.int .i64 0) (.int .i64 0) (.string ⟨#[]⟩) (.slice none 0 0)
          have y0 := hB2.cell 0
          have y1 := hB2.cell 1
          have y2 := hB2.cell 2
          have y3 := hB2.cell 3
          have hfr := fr_set4 V8 g (.int .i64 0) (.int .i64 0) (.string ⟨#[]⟩) (.slice none 0 0)
          refine bodyPost_ret (v := .agg #[.int .i64 0, .int .i64 0, .string ⟨#[]⟩, .slice none 0 0]) (by simp [results, Try.results36, go_sem, y0, y1, y2, y3]) rfl ?_
          rw [HE.out]
          refine ⟨HF.out.trans hfr (fun k hk e => by have := HG.out; omega), 0, 0, [], none, 0, 0, rfl, fun er h => ?_, fun t l h => by cases h⟩
          cases h
          exact ⟨by decide, (l1 : Int), hfr.blk HB.out (fun e => HGP.out e.symm)⟩
        | some q =>
          obtain ⟨k, i, items⟩ := q
          rw [hcl] at HCL
          have HE1 := Lib.hid (show rdT ws nm ahead x (l1 + 1) = (match rdL (fun y l => rdT ws nm n y l) items l1 with | .error e => .error e | .ok (ts, l1) => .ok (.mk k i [] ts, l1)) from by rw [HE0.out, if_neg h5, dif_pos hna, hcl])
          have HSUB := Lib.hid (cellP_sub hcl)
          clear HE0 hcl
          go_upto_region 15 with (go_at_call 70; refine HCL.out.mono ?_; rintro e V2 ⟨k2, i2, A2, n2, c2, rfl, hr2, hb2⟩; obtain ⟨rfl, rfl, hil, hir⟩ := hr2 k i items rfl; have HIL := Lib.hid hil; have HIR := Lib.hid hir; clear hr2 hil hir)
          have HB2V := HB.out.keep hb2
          obtain ⟨tb, htb⟩ : ∃ tb, V2.heap.size = tb := ⟨_, rfl⟩
          rw [htb]
          refine wp_world (fun V => (Blk V pw 79 #[.slice Aw lw cw, .slice Aa la ca, .slice Ar lr cr, .int .i64 (l1 : Int), .int .i64 0] ∧ Blk V g 37 #[.int .i64 0, .int .i64 0, .string ⟨#[]⟩, .slice none 0 0] ∧ Fr (fun k => k = pw) W V) ∧ (Blk V tb 37 #[.int .i64 k, .int .i64 i, .string ⟨#[]⟩, .slice none 0 0] ∧ g < tb ∧ pw < tb) ∧ Below V2.heap.size V2 V) ⟨⟨(HB.out.keep hb2).alloc _, (HK.out.keep hb2).alloc _, (HF.out.same (Fr.of_below hb2 _)).same (Fr.alloc _ _ _)⟩, ⟨by rw [← htb]; exact Blk.new _ _ _, by have := HK.out.lt; have := hb2.size; omega, by have := HB.out.lt; have := hb2.size; omega⟩, below_alloc _ _⟩ ?_
          clear hb2 HCL HB HK HF HOV
          rintro V3 ⟨⟨h1, h2, h3⟩, ⟨h4, h5, h6⟩, h7⟩
          have HB := Lib.hid h1
          have HK := Lib.hid h2
          have HF := Lib.hid h3
          have HTB := Lib.hid h4
          have HGT := Lib.hid h5
          have HPT := Lib.hid h6
          have HB2 := Lib.hid h7
          have HTS := Lib.hid htb
          clear h1 h2 h3 h4 h5 h6 h7 htb
          have HBV := Lib.hid HB2V
          have HCI : Hid (∀ (j y : Nat), items[j]? = some y → ∃ b' o', A2 = some ⟨b', o', none⟩ ∧ ∀ V, Fr (fun k => k = pw) V2 V → V.cell? ⟨b', o' + j, none⟩ = some (.int .u64 (y : Int))) := fun j y hj => by
            obtain ⟨b', o', e9, h9⟩ := HIR.out.at_ (j := j) (v := nv y) (by simp [hj])
            refine ⟨b', o', e9, fun V hV => ?_⟩
            have hne : b' ≠ pw := by
              rintro rfl
              rw [HBV.out.cell] at h9
              have hlt9 := (Array.getElem?_eq_some_iff.1 h9).1
              generalize o' + j = q at *
              simp only [List.size_toArray, List.length_cons, List.length_nil] at hlt9
              match q, hlt9, h9 with
              | 0, _, h9 => simp [nv] at h9
              | 1, _, h9 => simp [nv] at h9
              | 2, _, h9 => simp [nv] at h9
              | 3, _, h9 => simp [nv] at h9
              | 4, _, h9 => simp [nv] at h9
            exact (World.cell?_of_block (hV.block b' (World.block_lt_of_cell? V2 _ h9) hne)).trans h9
          clear HBV HB2V
          go_wp2
          go_loopw [70] (fun ix wr => ∃ (j lj : Nat) (Aj : Option Addr) (cj : Nat) (cs : List Value) (ts : List TV), j ≤ n2 ∧ ix = .int .i64 j ∧ rdL (fun y l => rdT ws nm n y l) (items.take j) l1 = .ok (ts, lj) ∧ RI (tb + 1) wr Aj j cj cs ts ∧ (Blk wr pw 79 #[.slice Aw lw cw, .slice Aa la ca, .slice Ar lr cr, .int .i64 (lj : Int), .int .i64 0] ∧ Blk wr g 37 #[.int .i64 0, .int .i64 0, .string ⟨#[]⟩, .slice none 0 0] ∧ Fr (fun k => k = pw) W wr) ∧ Blk wr tb 37 #[.int .i64 k, .int .i64 i, .string ⟨#[]⟩, .slice Aj j cj] ∧ Fr (fun k => k = pw) V2 wr) (fun ix _ => n2 - (intOf ix).toNat)
          case atStart => exact ⟨0, l1, none, 0, [], [], Nat.zero_le _, rfl, rfl, ⟨World.ownsRow_nil _ _ _ _, std_nil _⟩, ⟨HB.out, HK.out, HF.out⟩, HTB.out, Fr.of_below HB2.out _⟩
          case round =>
            obtain ⟨j, lj, Aj, cj, cs, ts, hj, rfl, hrd, hri, ⟨hb, hk, hf⟩, htb, hf2⟩ := hrel
            clear HB HK HF HTB HB2
            have hlj : lj ≤ 4096 := by have := rdL_le (f := fun y l => rdT ws nm n y l) (fun y l t l' => rdT_le n y l t l') _ _ _ _ hrd; omega
            have hn2 : n2 ≤ 100000 := by have := HSUB.out.1; have := HIL.out; have := HH.out.1; omega
            have hbsz : tb < wr.heap.size := htb.lt
            by_cases hlt : j < n2
            · have hd1 : decide (j < n2) = true := by simp; omega
              have hkl : j < items.length := by rw [HIL.out]; exact hlt
              obtain ⟨y, hy⟩ : ∃ y, items[j]? = some y := ⟨_, List.getElem?_eq_getElem hkl⟩
              obtain ⟨b', o', rfl, hcy⟩ := HCI.out j y hy
              have c0 := hcy wr hf2
              have hy64 : y < 18446744073709551616 := HH.out.2.2 y (HSUB.out.2 y (List.mem_of_getElem? hy))
              have hq1 : (0 : Int) ≤ (j : Int) := by omega
              have hq2 : (j : Int) < (n2 : Int) := by omega
              have htk : items.take (j + 1) = items.take j ++ [y] := by rw [List.take_add_one, hy]; rfl
              have hsp : items = items.take j ++ y :: items.drop (j + 1) := by
                have h9 := List.getElem?_eq_some_iff.1 hy
                obtain ⟨h8, h7⟩ := h9
                conv => lhs; rw [← List.take_append_drop j items, List.drop_eq_getElem_cons h8, h7]
              have HRD := Lib.hid hrd
              have HRI := Lib.hid hri
              have HB := Lib.hid hb
              have HK := Lib.hid hk
              have HF := Lib.hid hf
              have HTB := Lib.hid htb
              have HF2 := Lib.hid hf2
              have HTK := Lib.hid htk
              have HSP := Lib.hid hsp
              have HOW : Hid (Below w0.heap.size w0 wr) := HOLD.out.trans (hf.below HOLD.out.size (fun k hk => by rw [hk]; exact HP0.out))
              have HCALL := Lib.hid (HIH.out hna y lj wr.drew hy64 hlj HOW.out.drew (show Blk wr.drew pw _ _ from hb))
              have hbsz2 := hbsz
              clear hrd hri hb hk hf htb hf2 hcy hy htk hsp hkl
              go_upto_region 18 with (fail)
              refine wp_region_W 10 (fun V => V.cell? ⟨tb, 3, none⟩ = some (.slice Aj j cj)) (by kernel_rfl) ?_ (fun hS0 => ?_)
              · exact HTB.out.cell 3
              clear c0
              (refine wpAnyW_take (i := 0) (v := ?_) rfl (by kernel_rfl) (by kernel_rfl) (by kernel_rfl) (by kernel_rfl) (fun _ _ _ h => h) (Or.inl ⟨by kernel_rfl, ?_⟩) (by assumption) ?_; rotate_left; focus (intro V9 hS9; go_simp; (try (with_reducible rfl)); done))
              try simp only [Act.put, List.getElem_toArray, List.getElem_cons_zero, List.setIfInBounds_toArray, List.set_cons_succ, List.set_cons_zero]
              (refine wpAnyW_take (i := 1) (v := ?_) rfl (by kernel_rfl) (by kernel_rfl) (by kernel_rfl) (by kernel_rfl) (fun _ _ _ h => h) (Or.inl ⟨by kernel_rfl, ?_⟩) (by assumption) ?_; rotate_left; focus (intro V9 hS9; have g9 := hS9; go_simp; (try (with_reducible rfl)); done))
              try simp only [Act.put, List.getElem_toArray, List.getElem_cons_succ, List.getElem_cons_zero, List.setIfInBounds_toArray, List.set_cons_succ, List.set_cons_zero]
              (refine wpAnyW_take (i := 2) (v := ?_) rfl (by kernel_rfl) (by kernel_rfl) (by kernel_rfl) (by kernel_rfl) (fun _ _ _ h => h) (Or.inl ⟨by kernel_rfl, ?_⟩) (by assumption) ?_; rotate_left; focus (intro V9 hS9; go_simp; (try (with_reducible rfl)); done))
              try simp only [Act.put, List.getElem_toArray, List.getElem_cons_succ, List.getElem_cons_zero, List.setIfInBounds_toArray, List.set_cons_succ, List.set_cons_zero]
              (refine wpAnyW_take (i := 3) (v := ?_) rfl (by kernel_rfl) (by kernel_rfl) (by kernel_rfl) (by kernel_rfl) (fun _ _ _ h => h) (Or.inl ⟨by kernel_rfl, ?_⟩) (by assumption) ?_; rotate_left; focus (intro V9 hS9; go_simp; (try (with_reducible rfl)); done))
              try simp only [Act.put, List.getElem_toArray, List.getElem_cons_succ, List.getElem_cons_zero, List.setIfInBounds_toArray, List.set_cons_succ, List.set_cons_zero]
              (refine wpAnyW_take (i := 4) (v := ?_) rfl (by kernel_rfl) (by kernel_rfl) (by kernel_rfl) (by kernel_rfl) (fun _ _ _ h => h) (Or.inl ⟨by kernel_rfl, ?_⟩) (by assumption) ?_; rotate_left; focus (intro V9 hS9; go_simp; (try (with_reducible rfl)); done))
              try simp only [Act.put, List.getElem_toArray, List.getElem_cons_succ, List.getElem_cons_zero, List.setIfInBounds_toArray, List.set_cons_succ, List.set_cons_zero]
              (refine wpAnyW_take (i := 5) (v := ?_) rfl (by kernel_rfl) (by kernel_rfl) (by kernel_rfl) (by kernel_rfl) (fun _ _ _ h => h) (Or.inl ⟨by kernel_rfl, ?_⟩) (by assumption) ?_; rotate_left; focus (intro V9 hS9; go_simp; (try (with_reducible rfl)); done))
              try simp only [Act.put, List.getElem_toArray, List.getElem_cons_succ, List.getElem_cons_zero, List.setIfInBounds_toArray, List.set_cons_succ, List.set_cons_zero]
              refine wpAnyW_ready (rs := [6]) (by kernel_rfl) (by simp) ?_
              refine AllReadyW.cons rfl (fun K hK => ?_) AllReadyW.nil
              go_simp
              rw [show IntKind.i64.wrap (n : Int) = (n : Int) from by rw [IntKind.wrap_i64]; omega]
              refine HCALL.out.mono ?_
              rintro r w6 ⟨hf6, k6, i6, s6, A6, n6, c6, rfl, her, hok⟩
              have hT6 : Blk w6 tb _ _ := hf6.blk (show Blk wr.drew tb _ _ from HTB.out) (fun e => by have := HPT.out; omega)
              refine hK.out _ _ (hT6.cell 3) (fun _ => ?_)
              clear hK K
              try simp only [Act.put, List.getElem_toArray, List.getElem_cons_succ, List.getElem_cons_zero, List.setIfInBounds_toArray, List.set_cons_succ, List.set_cons_zero]
              refine wpAnyW_ready (rs := [7]) (by kernel_rfl) (by simp) ?_
              refine AllReadyW.cons rfl (fun K hK => ?_) AllReadyW.nil
              go_simp
              refine hK.out _ _ ((hT6.alloc _).cell 3) (fun _ => ?_)
              clear hK K
              try simp only [Act.put, List.getElem_toArray, List.getElem_cons_succ, List.getElem_cons_zero, List.setIfInBounds_toArray, List.set_cons_succ, List.set_cons_zero]
              have hfA : Fr (fun k => k = pw) wr w6 := ⟨hf6.os, hf6.tape, hf6.output, hf6.size, hf6.block⟩
              have hR6 := (HRI.out.step hfA (fun k hk => by rw [hk]; have := HPT.out; omega)).step (Fr.alloc (fun _ => False) w6 (.cells #[.int .i64 k6, .int .i64 i6, .string ⟨s6.toArray⟩, .slice A6 n6 c6] 37)) (fun _ h => h.elim)
              have hsz6 : tb + 1 ≤ w6.heap.size := hT6.lt
              refine wpAnyW_ready (rs := [8]) (by kernel_rfl) (by simp) ?_
              refine AllReadyW.cons rfl (fun K hK => ?_) AllReadyW.nil
              refine step_appO termT (by kernel_rfl) (.tmp 75) (.tmp 81) rfl (tb + 1) j cs (.slice Aj j cj) hR6.own (some ⟨w6.heap.size, 0, none⟩) 1 1 [.int .i64 k6, .int .i64 i6, .string ⟨s6.toArray⟩, .slice A6 n6 c6] (by rfl) (by rfl) rfl (blk_cs (Blk.new w6 _ _)) (by intro u hu; simp only [List.mem_cons, List.mem_nil_iff, or_false] at hu; rcases hu with rfl | rfl | rfl | rfl <;> rfl) (by unfold maxLen; omega) (by omega) (Nat.le_trans hsz6 (below_alloc _ _).size) ?_
              intro v7 w7 ho7 hg7 hat7
              have hrow : ∀ q, (Value.slice Aj j cj).ownBlock = some q → tb < q := fun q hq => (own_heap hR6.own hq).1
              have hT7 := (hT6.alloc (.cells #[.int .i64 k6, .int .i64 i6, .string ⟨s6.toArray⟩, .slice A6 n6 c6] 37)).grown hg7 (fun e => by have := hrow tb e.symm; omega)
              refine hK.out _ _ (hT7.cell 3) (fun _ => ?_)
              clear hK K
              try simp only [Act.put, List.getElem_toArray, List.getElem_cons_succ, List.getElem_cons_zero, List.setIfInBounds_toArray, List.set_cons_succ, List.set_cons_zero]
              obtain ⟨A7, c7, rfl⟩ := own_sl ho7
              (refine wpAnyW_take (i := 9) (v := ?_) rfl (by kernel_rfl) (by kernel_rfl) (by kernel_rfl) (by kernel_rfl) (fun _ _ _ h => h) (Or.inl ⟨by kernel_rfl, ?_⟩) (by assumption) ?_; rotate_left; focus (intro V9 hS9; go_simp; (try (with_reducible rfl)); done))
              try simp only [Act.put, List.getElem_toArray, List.getElem_cons_succ, List.getElem_cons_zero, List.setIfInBounds_toArray, List.set_cons_succ, List.set_cons_zero]
              refine wpAnyW_ready (rs := [10]) (by kernel_rfl) (by simp) ?_
              refine AllReadyW.consE rfl (by kernel_rfl) (fun K hK => ?_) AllReadyW.nil
              have hfz := hT7.frozen 3
              have gc : w7.cell? ⟨tb, 3, none⟩ = some (.slice Aj j cj) := hT7.cell 3
              go_simp
              refine hK.out _ _ ?_
              clear hK K
              refine wpAnyW_done (by kernel_rfl) ?_ _
              have hfB : Fr (fun k => k = pw ∨ tb ≤ k) w6 (w7.setCell ⟨tb, 3, none⟩ (.slice A7 (j + 1) c7)) := ((Fr.alloc _ w6 (.cells #[.int .i64 k6, .int .i64 i6, .string ⟨s6.toArray⟩, .slice A6 n6 c6] 37)).same (Fr.of_grown hg7 (fun q hq _ => .inr (Nat.le_of_lt (hrow q hq))))).same (Fr.setCell _ w7 (p := ⟨tb, 3, none⟩) (fun _ => .inr (Nat.le_refl _)) _)
              have hT8 : Blk (w7.setCell ⟨tb, 3, none⟩ (.slice A7 (j + 1) c7)) tb 37 #[.int .i64 k, .int .i64 i, .string ⟨#[]⟩, .slice A7 (j + 1) c7] := hT7.set_ 3 (.slice A7 (j + 1) c7)
              have hblk : ∀ {q t' : Nat} {cc : Array Value}, Blk w6 q t' cc → q < tb → Blk (w7.setCell ⟨tb, 3, none⟩ (.slice A7 (j + 1) c7)) q t' cc := fun {q t' cc} h9 hq => by
                have h8 := ((h9.alloc (.cells #[.int .i64 k6, .int .i64 i6, .string ⟨s6.toArray⟩, .slice A6 n6 c6] 37)).grown hg7 (fun e => by have := hrow q e.symm; omega)).far (p := ⟨tb, 3, none⟩) (fun e => by have h7 : q = tb := e; omega) (.slice A7 (j + 1) c7)
                exact h8
              have hg8 := hblk (hfA.blk HK.out (fun e => HGP.out e)) HGT.out
              have hF8 : Fr (fun k => k = pw) W (w7.setCell ⟨tb, 3, none⟩ (.slice A7 (j + 1) c7)) := (HF.out.same hfA).trans hfB (fun k hk h9 => by rcases h9 with h9 | h9; exact h9; have := HG.out; have := HGT.out; omega)
              have hF28 : Fr (fun k => k = pw) V2 (w7.setCell ⟨tb, 3, none⟩ (.slice A7 (j + 1) c7)) := (HF2.out.same hfA).trans hfB (fun k hk h9 => by rcases h9 with h9 | h9; exact h9; have := HTS.out; omega)
              cases hrr : rdT ws nm n y lj with
              | error er =>
                obtain ⟨hne, l9, hb9⟩ := her er hrr
                have hb8 := hblk hb9 HPT.out
                have HE := Lib.hid (show rdT ws nm ahead x (l1 + 1) = .error er from by
                  rw [HE1.out]
                  have h9 : rdL (fun y l => rdT ws nm n y l) items l1 = .error er := by
                    rw [HSP.out, rdL_append, HRD.out]
                    simp only [rdL, hrr]
                  rw [h9])
                have HB := Lib.hid hb8
                have HK := Lib.hid hg8
                have HF := Lib.hid hF8
                have HT8 := Lib.hid hT8
                have de : ((er : Int) == 0) = false := by simpa using hne
                have de2 : ((er : Int) != 0) = true := by simpa using hne
                have HNE := Lib.hid hne
                clear her hok hfz gc hT6 hT7 hT8 hR6 ho7 hg7 hat7 hf6 hfA hfB hb8 hg8 hF8 hF28 hblk hb9 hrow hrr hne HE1 HSP HRD HRI HCALL HCI
                go_upto_region 19 with (fail)
                refine wp_world (fun V => (Blk V pw 79 #[.slice Aw lw cw, .slice Aa la ca, .slice Ar lr cr, .int .i64 l9, .int .i64 (er : Int)] ∧ Blk V g 37 #[.int .i64 0, .int .i64 0, .string ⟨#[]⟩, .slice none 0 0] ∧ Fr (fun k => k = pw) W V) ∧ Blk V tb 37 #[.int .i64 k, .int .i64 i, .string ⟨#[]⟩, .slice A7 (j + 1) c7]) ⟨⟨HB.out, HK.out, HF.out⟩, HT8.out⟩ ?_
                clear HB HK HF HT8
                rintro V3 ⟨⟨h1, h2, h3⟩, h4⟩
                have HB := Lib.hid h1
                have HK := Lib.hid h2
                have HF := Lib.hid h3
                have e4 := h1.cell 4
                have b0 := h4.cell 0
                have b1 := h4.cell 1
                have b2 := h4.cell 2
                have b3 := h4.cell 3
                have hgt := HGT.out
                have hgt1 : ¬ g = tb := by omega
                have hgt2 : ¬ tb = g := by omega
                clear h1 h2 h3 h4
                have z0 := HK.out.cell 0
                have z1 := HK.out.cell 1
                have z2 := HK.out.cell 2
                have z3 := HK.out.cell 3
                have zf0 := HK.out.frozen 0
                have zf1 := HK.out.frozen 1
                have zf2 := HK.out.frozen 2
                have zf3 := HK.out.frozen 3
                go_wp2
                have hB2 := HK.out.set4 (.int .i64 k) (.int .i64 i) (.string ⟨#[]⟩) (.slice A7 (j + 1) c7)
                have y0 := hB2.cell 0
                have y1 := hB2.cell 1
                have y2 := hB2.cell 2
                have y3 := hB2.cell 3
                have hfr := fr_set4 V3 g (.int .i64 k) (.int .i64 i) (.string ⟨#[]⟩) (.slice A7 (j + 1) c7)
                refine bodyPost_ret (v := .agg #[.int .i64 k, .int .i64 i, .string ⟨#[]⟩, .slice A7 (j + 1) c7]) (by simp [results, Try.results36, go_sem, y0, y1, y2, y3]) rfl ?_
                rw [HE.out]
                refine ⟨HF.out.trans hfr (fun k hk e => by have := HG.out; omega), k, i, [], A7, j + 1, c7, rfl, fun er' h => ?_, fun t l h => by cases h⟩
                cases h
                exact ⟨HNE.out, l9, hfr.blk HB.out (fun e => HGP.out e.symm)⟩
              | ok q2 =>
                obtain ⟨t9, l9⟩ := q2
                obtain ⟨hT9, hb9⟩ := hok t9 l9 hrr
                have hb8 := hblk hb9 HPT.out
                have HREL := Lib.hid (show rdL (fun y l => rdT ws nm n y l) (items.take (j + 1)) l1 = .ok (ts ++ [t9], l9) from by
                  rw [HTK.out, rdL_append, HRD.out]
                  simp only [rdL, hrr])
                have hTA : TEx (fun k => k < tb + 1 ∨ (Value.slice Aj j cj).ownBlock = some k) (w6.alloc (.cells #[.int .i64 k6, .int .i64 i6, .string ⟨s6.toArray⟩, .slice A6 n6 c6] 37)) (.agg #[.int .i64 k6, .int .i64 i6, .string ⟨s6.toArray⟩, .slice A6 n6 c6]) t9 := (TEx.weak hT9 (fun q hq h9 => by
                  rcases h9 with h9 | h9
                  · show q < wr.heap.size
                    omega
                  · show q < wr.heap.size
                    exact (own_heap HRI.out.own h9).2.1)).below (below_alloc _ _)
                have hRI9 := (hR6.add (Nat.le_trans hsz6 (below_alloc _ _).size) hTA ho7 hg7 hat7).step (Fr.setCell (fun k => k = tb) w7 (p := ⟨tb, 3, none⟩) (fun _ => rfl) (.slice A7 (j + 1) c7)) (fun k hk => by rw [hk]; omega)
                have HEND := Lib.hid (And.intro hRI9 (And.intro hb8 (And.intro hg8 (And.intro hF8 (And.intro hT8 hF28)))))
                clear her hok hfz gc hT6 hT7 hT8 hR6 ho7 hg7 hat7 hf6 hfA hfB hb8 hg8 hF8 hF28 hblk hb9 hrow hrr hTA hRI9 hT9
                go_upto_region 19 with (fail)
                refine wp_world (fun V => RI (tb + 1) V A7 (j + 1) c7 (cs ++ [.int .i64 k6, .int .i64 i6, .string ⟨s6.toArray⟩, .slice A6 n6 c6]) (ts ++ [t9]) ∧ Blk V pw 79 #[.slice Aw lw cw, .slice Aa la ca, .slice Ar lr cr, .int .i64 (l9 : Int), .int .i64 0] ∧ Blk V g 37 #[.int .i64 0, .int .i64 0, .string ⟨#[]⟩, .slice none 0 0] ∧ Fr (fun k => k = pw) W V ∧ Blk V tb 37 #[.int .i64 k, .int .i64 i, .string ⟨#[]⟩, .slice A7 (j + 1) c7] ∧ Fr (fun k => k = pw) V2 V) HEND.out ?_
                clear HEND
                rintro V9 hV9
                have HEND := Lib.hid hV9
                have e4 := hV9.2.1.cell 4
                clear hV9
                go_wp2
                go_roundw
                case rel => exact ⟨j + 1, l9, A7, c7, _, _, by omega, by go_num, HREL.out, HEND.out.1, ⟨HEND.out.2.1, HEND.out.2.2.1, HEND.out.2.2.2.1⟩, HEND.out.2.2.2.2.1, HEND.out.2.2.2.2.2⟩
                case measure => simp [intOf]; omega
            · obtain rfl : n2 = j := by omega
              have hd1 : decide (n2 < n2) = false := by simp
              have htl : items.take n2 = items := List.take_of_length_le (by rw [HIL.out]; exact Nat.le_refl _)
              rw [htl] at hrd
              have HE := Lib.hid (show rdT ws nm ahead x (l1 + 1) = .ok (.mk k i [] ts, lj) from by rw [HE1.out, hrd])
              have HRI := Lib.hid hri
              have HB := Lib.hid hb
              have HK := Lib.hid hk
              have HF := Lib.hid hf
              have b0 := htb.cell 0
              have b1 := htb.cell 1
              have b2 := htb.cell 2
              have b3 := htb.cell 3
              have hgt := HGT.out
              have hgt1 : ¬ g = tb := by omega
              have hgt2 : ¬ tb = g := by omega
              clear hrd hri hb hk hf htb hf2 HE1 HCI htl
              have z0 := HK.out.cell 0
              have z1 := HK.out.cell 1
              have z2 := HK.out.cell 2
              have z3 := HK.out.cell 3
              have zf0 := HK.out.frozen 0
              have zf1 := HK.out.frozen 1
              have zf2 := HK.out.frozen 2
              have zf3 := HK.out.frozen 3
              go_wp2
              have hB2 := HK.out.set4 (.int .i64 k) (.int .i64 i) (.string ⟨#[]⟩) (.slice Aj n2 cj)
              have y0 := hB2.cell 0
              have y1 := hB2.cell 1
              have y2 := hB2.cell 2
              have y3 := hB2.cell 3
              have hfr := fr_set4 wr g (.int .i64 k) (.int .i64 i) (.string ⟨#[]⟩) (.slice Aj n2 cj)
              refine bodyPost_ret (v := .agg #[.int .i64 k, .int .i64 i, .string ⟨#[]⟩, .slice Aj n2 cj]) (by simp [results, Try.results36, go_sem, y0, y1, y2, y3]) rfl ?_
              rw [HE.out]
              refine ⟨HF.out.trans hfr (fun k hk e => by have := HG.out; omega), k, i, [], Aj, n2, cj, rfl, (fun er h => by cases h), fun t' l' h => ?_⟩
              simp only [Except.ok.injEq, Prod.mk.injEq] at h
              obtain ⟨rfl, rfl⟩ := h
              exact ⟨((HRI.out.val k i).step hfr (fun q _ hq => by show q < tb + 1; omega)).weak (fun q _ hq => by show q < tb + 1; have := HG.out; omega), hfr.blk HB.out (fun e => HGP.out e.symm)⟩
theorem wterm_any (hpw : w0.heap.size ≤ pw) (hR : RdC w0 Aw (ws.map nv)) (hN : RdC w0 Aa (nm.map hv)) (hl : ws.length = lw) (hln : nm.length = la) (h64 : W64 ws) (hlc : lw ≤ cw) (hcm : cw ≤ 9223372036854775807) (hlw : lw ≤ 100000) (hla : la ≤ 100000) (ahead : Nat) : ahead ≤ lw → WIH w0 pw Aw lw cw Aa la ca Ar lr cr ws nm ahead := by
  induction ahead using Nat.strongRecOn with
  | _ ahead ih =>
    intro ha y left V hy hleft hold hB
    exact wterm_in ahead y left V hy hleft hold hB hpw hR hN hl hln h64 hlc hcm hlw hla ha (fun hlt => ih (y / 8) hlt (by omega))
end
end Go.Proofs.Ytefnjplfemgibaa
