/- The walk of read of layer 6. -/
import Derived.Test.YtcnhfbckaacalaaJouC
import Derived.WalkMore
namespace Go.Proofs.Ytcnhfbckaacalaa
open Go.RowKit
set_option linter.unusedVariables false

theorem and_mask20 (n : Nat) (hn : n < 18446744073709551616) : bits BinOp.and IntKind.u64 ((n : Int) / 1048576) 1048575 = ((n / 1048576 % 1048576 : Nat) : Int) := by
  have h1 : ((n : Int) / 1048576) = ((n / 1048576 : Nat) : Int) := by omega
  have h2 : (n / 1048576) &&& 1048575 = n / 1048576 % 1048576 := Nat.and_two_pow_sub_one_eq_mod _ 20
  rw [h1, show (1048575 : Int) = ((1048575 : Nat) : Int) from rfl, u64_and_nat _ _ (by omega) (by omega), h2]
/-- The life of a block's number. -/
def lifeOf (num : Nat) : Nat := num / 1048576 % 1048576
/-- A block's answer: it does not count; it counts and is the last; it counts. -/
def jstep (rm ep i life : Nat) (o : Option (Nat × Nat × List UInt8)) : Option (Bool × Nat × List UInt8) :=
  o.bind fun x => if x.1 ≠ 74 ∨ x.2.1 ≠ jnum ep (lifeOf x.2.1) i ∨ lifeOf x.2.1 < life then none else some (decide (x.2.2.length < rm), lifeOf x.2.1, x.2.2)
/-- Block by block, by what each answers. -/
def jrun (st : Nat → Nat → Option (Bool × Nat × List UInt8)) : Nat → Nat → Nat → List UInt8 → List UInt8 × Nat
  | 0, _, life, acc => (acc, life)
  | k + 1, i, life, acc => match st i life with
    | none => (acc, life)
    | some (true, lf, load) => (acc ++ load, lf)
    | some (false, lf, load) => jrun st k (i + 1) lf (acc ++ load)
theorem jrun_none {st : Nat → Nat → Option (Bool × Nat × List UInt8)} {k i life : Nat} {acc : List UInt8} (h : st i life = none) : jrun st (k + 1) i life acc = (acc, life) := by rw [jrun, h]
theorem jrun_last {st : Nat → Nat → Option (Bool × Nat × List UInt8)} {k i life lf : Nat} {acc load : List UInt8} (h : st i life = some (true, lf, load)) : jrun st (k + 1) i life acc = (acc ++ load, lf) := by rw [jrun, h]
theorem jrun_more {st : Nat → Nat → Option (Bool × Nat × List UInt8)} {k i life lf : Nat} {acc load : List UInt8} (h : st i life = some (false, lf, load)) : jrun st (k + 1) i life acc = jrun st k (i + 1) lf (acc ++ load) := by rw [jrun, h]
theorem jrun_zero {st : Nat → Nat → Option (Bool × Nat × List UInt8)} {i life : Nat} {acc : List UInt8} : jrun st 0 i life acc = (acc, life) := by rw [jrun]
def jst (D : DS) (fr ep i life : Nat) : Option (Bool × Nat × List UInt8) := jstep (D.size - 15) ep i life (getP (D.blockB (fr + i)))
/-- What read takes of the blocks that follow: the stream, the life. -/
def jread (D : DS) (fr ep k i life : Nat) (acc : List UInt8) : List UInt8 × Nat := jrun (jst D fr ep) k i life acc
theorem jread_none {D : DS} {fr ep k i life : Nat} {acc : List UInt8} (h : jst D fr ep i life = none) : jread D fr ep (k + 1) i life acc = (acc, life) := jrun_none h
theorem jread_last {D : DS} {fr ep k i life lf : Nat} {acc load : List UInt8} (h : jst D fr ep i life = some (true, lf, load)) : jread D fr ep (k + 1) i life acc = (acc ++ load, lf) := jrun_last h
theorem jread_more {D : DS} {fr ep k i life lf : Nat} {acc load : List UInt8} (h : jst D fr ep i life = some (false, lf, load)) : jread D fr ep (k + 1) i life acc = jread D fr ep k (i + 1) lf (acc ++ load) := jrun_more h
theorem jread_zero {D : DS} {fr ep i life : Nat} {acc : List UInt8} : jread D fr ep 0 i life acc = (acc, life) := jrun_zero
theorem jstep_none {rm ep i life : Nat} : jstep rm ep i life none = none := rfl
theorem jstep_bad {rm ep i life kd num : Nat} {load : List UInt8} (h : kd ≠ 74 ∨ num ≠ jnum ep (lifeOf num) i ∨ lifeOf num < life) : jstep rm ep i life (some (kd, num, load)) = none := by
  unfold jstep
  rw [Option.bind_some, if_pos h]
theorem jstep_good {rm ep i life kd num : Nat} {load : List UInt8} (h : ¬ (kd ≠ 74 ∨ num ≠ jnum ep (lifeOf num) i ∨ lifeOf num < life)) : jstep rm ep i life (some (kd, num, load)) = some (decide (load.length < rm), lifeOf num, load) := by
  unfold jstep
  rw [Option.bind_some, if_neg h]
def jv0 (fr len ep life : Nat) : JV := ⟨fr, len, ep, life, [], 0, 0, false⟩
/-- A journal under way, and its disk. -/
structure JR (w0 : World) (pj pd : Nat) (p : Pl) (D : DS) (fr len ep life : Nat) (w : World) : Prop where
  disk : DiskAt pd p D w
  obj : Blk w pj 74 (jcells pd (jv0 fr len ep life) (.slice none 0 0))
  bel : Below w0.heap.size w0 w
  lo : w0.heap.size ≤ pj
  sep : ¬ p.F pd pj
/-- What seal's Get leaves where the bytes are sealed; where not. -/
theorem jget_good {A : Option Addr} {n c k num : Nat} {l load : List UInt8} {w : World} (h : getP l = some (k, num, load)) (hc : Calls Try.prog 64 #[.slice A n c] w (GetEnds w l)) :
    Calls Try.prog 64 #[.slice A n c] w fun e w' => ∃ B cB, e = .returned (.tuple #[.agg #[.int .u8 (k : Int), .int .u64 (num : Int), .slice B load.length cB], .int .i64 0]) ∧ Rd w' B load ∧ Below w.heap.size w w' :=
  hc.mono fun e w' ⟨hb, hh⟩ => by
    rcases hh with ⟨h1, _⟩ | ⟨k', num', load', B, cB, h1, h2, h3⟩
    · rw [h] at h1; cases h1
    · rw [h] at h1
      injection h1 with h1
      injection h1 with e1 h1
      injection h1 with e2 e3
      subst e1 e2 e3
      exact ⟨B, cB, h2, h3, hb⟩
theorem jget_bad {A : Option Addr} {n c : Nat} {l : List UInt8} {w : World} (h : getP l = none) (hc : Calls Try.prog 64 #[.slice A n c] w (GetEnds w l)) :
    Calls Try.prog 64 #[.slice A n c] w fun e w' => e = .returned (.tuple #[.agg #[.int .u8 0, .int .u64 0, .slice none 0 0], .int .i64 30]) ∧ Below w.heap.size w w' :=
  hc.mono fun e w' ⟨hb, hh⟩ => by
    rcases hh with ⟨_, h1⟩ | ⟨k', num', load', B, cB, h1, _⟩
    · exact ⟨h1, hb⟩
    · rw [h] at h1; cases h1
theorem jown_far {W W' : World} {base e size n : Nat} {v : Value} {xs : List Value} (h : W.ownsRow base e size v n xs) (hb : Below W.heap.size W W') : W'.ownsRow base e size v n xs := h.kept (grown_of_below hb none) (by cases v.ownBlock <;> simp)
/-- Bytes lie in no journal. -/
theorem rd_nej {V : World} {pj pd : Nat} {J : JV} {v : Value} {B : Option Addr} {load : List UInt8} (hB : Blk V pj 74 (jcells pd J v)) (hv : ∀ x : UInt8, v ≠ bv x) (hr : Rd V B load) : ∀ b off, B = some ⟨b, off, none⟩ → 0 < load.length → b ≠ pj := by
  intro b off hb hl e
  subst e
  rcases hr with h | ⟨b', off', h1, h2⟩
  · rw [h] at hl; simp at hl
  · rw [hb] at h1
    injection h1 with h1
    injection h1 with h1 h3
    subst h1 h3
    have h4 := h2 0 hl
    rw [hB.cell] at h4
    simp only [Nat.add_zero] at h4
    unfold jcells at h4
    match off, h4 with
    | 0, h4 => simp [bv] at h4
    | 1, h4 => simp [bv] at h4
    | 2, h4 => simp [bv] at h4
    | 3, h4 => simp [bv] at h4
    | 4, h4 => simp [bv] at h4
    | 5, h4 =>
      simp at h4
      exact hv _ h4
    | 6, h4 => simp [bv] at h4
    | 7, h4 => simp [bv] at h4
    | 8, h4 => simp [bv] at h4
    | k + 9, h4 => simp at h4
section
variable {w0 w w' : World} {pj pd : Nat} {p : Pl} {D : DS} {fr len ep life : Nat}
theorem JR.keep (h : JR w0 pj pd p D fr len ep life w) (hb : Below w.heap.size w w') : JR w0 pj pd p D fr len ep life w' := ⟨h.disk.keep hb, h.obj.keep hb, below_step h.bel hb, h.lo, h.sep⟩
theorem JR.far {F : Nat → Prop} (h : JR w0 pj pd p D fr len ep life w) (hf : Fr F w w') (h1 : ¬ F pj) (h2 : ∀ k, p.F pd k → ¬ F k) (h3 : ∀ k, F k → w0.heap.size ≤ k) : JR w0 pj pd p D fr len ep life w' := ⟨h.disk.far hf h2, hf.blk h.obj h1, h.bel.trans (hf.below h.bel.size h3), h.lo, h.sep⟩
theorem JR.live (h : JR w0 pj pd p D fr len ep life w) (life' : Nat) : JR w0 pj pd p D fr len ep life' (w.setCell ⟨pj, 4, none⟩ (.int .i64 (life' : Int))) := by
  have hf := Fr.setCell (fun k => k = pj) w (p := ⟨pj, 4, none⟩) (fun _ => rfl) (.int .i64 (life' : Int))
  have hlo := h.lo
  exact ⟨h.disk.far hf (fun k hk e => h.sep (e ▸ hk)), h.obj.set_ 4 _, h.bel.trans (hf.below h.bel.size (fun k e => by omega)), h.lo, h.sep⟩

set_option maxRecDepth 100000 in
set_option maxHeartbeats 4000000 in
theorem jread_any (h : JR w0 pj pd p D fr len ep 0 w) (ok : D.Ok) (hoff : D.off = false) (ha : fr + len ≤ D.nb) (hep : ep ≤ 16777215) :
    Calls Try.prog 40 #[.pointer (some ⟨pj, 0, none⟩)] w fun r w' => ∃ v, r = .returned v ∧ w'.ownsRow w.heap.size 5 1 v (jread D fr ep len 0 0 []).1.length ((jread D fr ep len 0 0 []).1.map bv) ∧ JR w0 pj pd p D fr len ep (jread D fr ep len 0 0 []).2 w' := by
  have c2 : w.cell? ⟨pj, 2, none⟩ = some (.int .i64 (len : Int)) := h.obj.cell 2
  have hpjw := h.obj.lt
  have hnb := ok.n2
  have hs1 := ok.s1
  have hs2 := ok.s2
  have HJ0 := Lib.hid h
  obtain ⟨R, hR⟩ : ∃ R, jread D fr ep len 0 0 [] = R := ⟨_, rfl⟩
  rw [hR]
  have HR := Lib.hid hR
  have HOK := Lib.hid ok
  clear h hR ok
  go_enter Try.func40, Try.ntmps40
  go_wp2
  go_step3
  go_wp2
  go_step3
  go_wp2
  go_loopw [2, 13] (fun v iv wr => ∃ (i life : Nat) (acc : List UInt8), i ≤ len ∧ iv = .int .i64 (i : Int) ∧ jread D fr ep (len - i) i life acc = R ∧ wr.ownsRow w.heap.size 5 1 v acc.length (acc.map bv) ∧ JR w0 pj pd p D fr len ep life wr ∧ acc.length ≤ i * 4096 ∧ life ≤ 1048575 ∧ w.heap.size ≤ wr.heap.size) (fun _ iv _ => len - (intOf iv).toNat)
  case atStart => exact ⟨0, 0, [], Nat.zero_le _, rfl, HR.out, World.ownsRow_nil _ _ _ _, HJ0.out, by simp, by omega, Nat.le_refl _⟩
  case round =>
    obtain ⟨i, life, acc, hi, rfl, hrd, hown, hJ, hacc, hlife, hsz⟩ := hrel
    clear HR
    by_cases hlt : i < len
    · have hd : decide (i < len) = true := by simpa using hlt
      have HRD := Lib.hid hrd
      have HJ := Lib.hid hJ
      have HOWN := Lib.hid hown
      have hpj := hJ.obj.lt
      have hDR : D.read ((fr + i : Nat) : Int) = (0, D.blockB (fr + i)) := by
        unfold DS.read
        rw [if_neg (by simp [DS.hasB]; omega), if_neg (by simp [hoff])]
        rfl
      have hbl : (D.blockB (fr + i)).length = D.size := by
        unfold DS.blockB
        have h9 := HOK.out.len
        have h8 : (fr + i + 1) * D.size ≤ D.nb * D.size := Nat.mul_le_mul_right _ (by omega)
        rw [Nat.succ_mul] at h8
        rw [List.length_take, List.length_drop, h9]
        omega
      have HREAD : Hid (∀ V, JR w0 pj pd p D fr len ep life V → Calls Try.prog 62 #[.pointer (some ⟨pd, 0, none⟩), .int .i64 ((fr : Int) + (i : Int))] V fun r w' => ∃ A c, r = .returned (.tuple #[.slice A D.size c, .int .i64 0]) ∧ Rd w' A (D.blockB (fr + i)) ∧ D.size ≤ c ∧ c ≤ 9223372036854775807 ∧ Below V.heap.size V w') := fun V hV => by
        have h9 := read_any (n := ((fr + i : Nat) : Int)) hV.disk HOK.out
        rw [show ((fr : Int) + (i : Int)) = ((fr + i : Nat) : Int) by push_cast; rfl]
        refine h9.mono fun r w' ⟨v, he, ho, hb⟩ => ?_
        rw [hDR] at he ho
        have hcap : ∀ A c, v = .slice A (D.blockB (fr + i)).length c → c ≤ 9223372036854775807 := fun A c hv => by
          rcases ho.2 with ⟨hv2, _⟩ | ⟨g, cap, cur, hv2, _, _, _, h10, _⟩
          · rw [hv] at hv2
            have := (Value.slice.inj hv2).2.2; omega
          · rw [hv] at hv2
            have := (Value.slice.inj hv2).2.2; unfold maxLen at h10; omega
        obtain ⟨A, c, hv, hr, _, hlc⟩ := own_rd ho
        have hcm := hcap A c hv
        subst hv
        simp only at hlc
        rw [hbl] at he hlc
        exact ⟨A, c, he, hr, hlc, hcm, hb⟩
      have q1 : IntKind.i64.wrap ((fr : Int) + (i : Int)) = (fr : Int) + (i : Int) := IntWalk.i64_in _ (by omega)
      have HC : Hid (∀ V, JR w0 pj pd p D fr len ep life V → (V.cell? ⟨pj, 0, none⟩ = some (.pointer (some ⟨pd, 0, none⟩)) ∧ V.cell? ⟨pj, 1, none⟩ = some (.int .i64 (fr : Int))) ∧ JR w0 pj pd p D fr len ep life V) := fun V hV => ⟨⟨hV.obj.cell 0, hV.obj.cell 1⟩, hV⟩
      have H00 : Hid (JR w0 pj pd p D fr len ep life wr.drew) := hJ.keep (Below.refl _ _).drew
      clear hrd hown hJ
      go_upto_region 4 with (fail)
      go_region_held3 (fun V => (V.cell? ⟨pj, 0, none⟩ = some (.pointer (some ⟨pd, 0, none⟩)) ∧ V.cell? ⟨pj, 1, none⟩ = some (.int .i64 (fr : Int))) ∧ JR w0 pj pd p D fr len ep life V) (first | exact HC.out _ H00.out | exact HC.out _ hP9 | assumption) ((first
        | (go_at_call 62; refine (HREAD.out _ (And.right (by assumption))).mono ?_; rintro r V9 ⟨A9, c9, rfl, hr9, hc9, hcm9, hb9⟩; have hP9 := JR.keep (And.right (by assumption)) hb9)))
      rename_i hHeld9
      clear hHeld9
      have ho9 := jown_far HOWN.out (below_step (Below.refl _ _).drew hb9)
      have hs9 : w.heap.size ≤ V9.heap.size := by have := hb9.size; simp at this; omega
      obtain ⟨bl, hble⟩ : ∃ bl, D.blockB (fr + i) = bl := ⟨_, rfl⟩
      rw [hble] at hr9 hbl
      have HGET := Lib.hid (get_any A9 D.size c9 bl V9 hbl hc9 hcm9 hr9)
      have HBLE := Lib.hid hble
      have HBL := Lib.hid (show (D.blockB (fr + i)).length = D.size by rw [hble]; exact hbl)
      clear hr9 hble hbl hc9 hcm9 hb9 H00 HREAD hDR
      obtain ⟨Av, cv, rfl⟩ : ∃ Av cv, u2 = .slice Av acc.length cv := by
        obtain ⟨Av, cv, h9, _⟩ := own_rd ho9
        exact ⟨Av, cv, h9⟩
      have hstop : ∀ (h9 : jread D fr ep (len - (i + 1) + 1) i life acc = (acc, life)), (acc, life) = R := fun h9 => by
        rw [← h9, ← HRD.out, show len - i = len - (i + 1) + 1 by omega]
      have HSTOP := Lib.hid hstop
      clear hstop
      cases hg : getP bl with
      | none =>
        have HG := Lib.hid (jget_bad hg HGET.out)
        have HRN := Lib.hid (HSTOP.out (jread_none (by rw [jst, HBLE.out, hg]; exact jstep_none)))
        clear hg HGET
        go_upto_region 7 with (go_at_call 64; refine HG.out.mono ?_; rintro r V10 ⟨rfl, hb10⟩)
        have hX : Blk (V10.alloc (.cells #[.int .u8 0, .int .u64 0, .slice none 0 0] 89)) V10.heap.size 89 #[.int .u8 0, .int .u64 0, .slice none 0 0] := Blk.new _ _ _
        have hbx := below_step hb10 (below_alloc V10 (.cells #[.int .u8 0, .int .u64 0, .slice none 0 0] 89))
        obtain ⟨xb, hxb⟩ : ∃ xb, V10.heap.size = xb := ⟨_, rfl⟩
        refine wp_world (fun V => (JR w0 pj pd p D fr len ep life V ∧ V.ownsRow w.heap.size 5 1 (.slice Av acc.length cv) acc.length (acc.map bv)) ∧ Blk V V10.heap.size 89 #[.int .u8 0, .int .u64 0, .slice none 0 0]) ⟨⟨hP9.keep hbx, jown_far ho9 hbx⟩, hX⟩ ?_
        rw [hxb]
        clear hX hbx hb10 hP9 ho9 hxb hs9 HG
        rintro V11 ⟨⟨hJ11, ho11⟩, hX11⟩
        have x1 : V11.cell? ⟨xb, 1, none⟩ = some (.int .u64 0) := hX11.cell 1
        have HE11 := Lib.hid (fun q => And.intro (jown_far ho11 (below_drewN (Below.refl _ _) q)) (hJ11.keep (below_drewN (Below.refl _ _) q)))
        clear hJ11 ho11
        go_upto_region 8 with (fail)
        go_quiet (fail)
        go_wp2
        rw [Exit.noGoto_ret]
        go_ret
        rw [← HRN.out]
        exact ⟨.slice Av acc.length cv, rfl, (HE11.out _).1, (HE11.out _).2⟩
      | some x =>
        obtain ⟨kd, num, load⟩ := x
        have HG := Lib.hid (jget_good hg HGET.out)
        clear HGET
        have hbounds : kd < 256 ∧ num < 18446744073709551616 ∧ load.length + 15 ≤ 4096 := by
          unfold getP at hg
          split at hg
          · cases hg
          · split at hg
            · cases hg
            · split at hg
              · injection hg with hg
                injection hg with e1 hg
                injection hg with e2 e3
                rename_i hr1 hr2 _
                refine ⟨by rw [← e1]; exact UInt8.toNat_lt _, ?_, ?_⟩
                · rw [← e2]
                  exact toldN_lt _
                · rw [← e3, List.length_take]
                  have h7 : room (bl.length : Int) = (bl.length : Int) - 15 := by
                    have hb4 : bl.length = D.size := by rw [← HBLE.out]; exact HBL.out
                    rw [hb4]; exact room_is hs1 hs2
                  rw [h7] at hr2
                  have hb4 : bl.length = D.size := by rw [← HBLE.out]; exact HBL.out
                  omega
              · cases hg
        have HGE := Lib.hid hg
        clear hg
        obtain ⟨lf, hlf⟩ : ∃ lf, lifeOf num = lf := ⟨_, rfl⟩
        have hlf2 : lf ≤ 1048575 := by rw [← hlf]; unfold lifeOf; omega
        have HBAD : Hid ((kd ≠ 74 ∨ num ≠ jnum ep lf i ∨ lf < life) → (acc, life) = R) := fun hb => HSTOP.out (jread_none (by rw [jst, HBLE.out, HGE.out]; exact jstep_bad (by rw [hlf]; exact hb)))
        have HGOOD : Hid (¬ (kd ≠ 74 ∨ num ≠ jnum ep lf i ∨ lf < life) → jst D fr ep i life = some (decide (load.length < D.size - 15), lf, load)) := fun hb => by
          rw [jst, HBLE.out, HGE.out, jstep_good (by rw [hlf]; exact hb), hlf]
        have QAND : Hid (bits BinOp.and IntKind.u64 ((num : Int) / 1048576) 1048575 = (lf : Int)) := by
          show _ = _
          rw [and_mask20 _ hbounds.2.1, ← hlf]; rfl
        have QWR : Hid (wrap64 (lf : Int) = (lf : Int)) := IntWalk.wrap64_in _ ⟨by omega, by omega⟩
        have HNUM : Hid (∀ V, Calls Try.prog 26 #[.int .i64 (ep : Int), .int .i64 (lf : Int), .int .i64 (i : Int)] V fun r w' => r = .returned (.int .u64 (jnum ep lf i : Int)) ∧ V = w') := fun V => jnumber_any _ _ _ V hep hlf2 (by omega)
        obtain ⟨ln, hln⟩ : ∃ ln, load.length = ln := ⟨_, rfl⟩
        rw [hln] at HG hbounds HGOOD
        have HLN := Lib.hid hln
        clear hln hlf
        go_upto_region 7 with (go_at_call 64; refine HG.out.mono ?_; rintro r V10 ⟨B10, cB10, rfl, hr10, hb10⟩)
        obtain ⟨xb, hxb⟩ : ∃ xb, V10.heap.size = xb := ⟨_, rfl⟩
        have hX : Blk (V10.alloc (.cells #[.int .u8 (kd : Int), .int .u64 (num : Int), .slice B10 ln cB10] 89)) V10.heap.size 89 #[.int .u8 (kd : Int), .int .u64 (num : Int), .slice B10 ln cB10] := Blk.new _ _ _
        have hbx := below_step hb10 (below_alloc V10 (.cells #[.int .u8 (kd : Int), .int .u64 (num : Int), .slice B10 ln cB10] 89))
        refine wp_world (fun V => (JR w0 pj pd p D fr len ep life V ∧ V.ownsRow w.heap.size 5 1 (.slice Av acc.length cv) acc.length (acc.map bv)) ∧ (Blk V V10.heap.size 89 #[.int .u8 (kd : Int), .int .u64 (num : Int), .slice B10 ln cB10] ∧ Rd V B10 load) ∧ w.heap.size ≤ V.heap.size ∧ w.heap.size ≤ V10.heap.size) ⟨⟨hP9.keep hbx, jown_far ho9 hbx⟩, ⟨hX, hr10.below (below_alloc _ _)⟩, by have := hbx.size; omega, by have := hb10.size; omega⟩ ?_
        rw [hxb]
        clear hX hbx hr10 hb10 hP9 ho9 hxb hs9 HG
        rintro V11 ⟨⟨hJ11, ho11⟩, ⟨hX11, hr11⟩, hs11, hxw⟩
        have x0 : V11.cell? ⟨xb, 0, none⟩ = some (.int .u8 (kd : Int)) := hX11.cell 0
        have x1 : V11.cell? ⟨xb, 1, none⟩ = some (.int .u64 (num : Int)) := hX11.cell 1
        have x2 : V11.cell? ⟨xb, 2, none⟩ = some (.slice B10 ln cB10) := hX11.cell 2
        have c0 : V11.cell? ⟨pj, 0, none⟩ = some (.pointer (some ⟨pd, 0, none⟩)) := hJ11.obj.cell 0
        have c3 : V11.cell? ⟨pj, 3, none⟩ = some (.int .i64 (ep : Int)) := hJ11.obj.cell 3
        have c4 : V11.cell? ⟨pj, 4, none⟩ = some (.int .i64 (life : Int)) := hJ11.obj.cell 4
        have HE11 := Lib.hid (fun q => And.intro (jown_far ho11 (below_drewN (Below.refl _ _) q)) (hJ11.keep (below_drewN (Below.refl _ _) q)))
        by_cases hk : kd = 74
        rotate_left
        · have hd1 : ((kd : Int) != 74) = true := by rw [bne_iff_ne]; omega
          have HRN := Lib.hid (HBAD.out (.inl hk))
          clear hJ11 ho11 hX11 hr11 hk
          go_upto_region 8 with (fail)
          rw [QAND.out, QWR.out]
          go_quiet (fail)
          go_wp2
          rw [Exit.noGoto_ret]
          go_ret
          rw [← HRN.out]
          exact ⟨.slice Av acc.length cv, rfl, (HE11.out _).1, (HE11.out _).2⟩
        have hd1 : ((kd : Int) != 74) = false := by simp; omega
        by_cases hnm : num = jnum ep lf i
        rotate_left
        · have hd2 : ((num : Int) != (jnum ep lf i : Int)) = true := by rw [bne_iff_ne]; omega
          have HRN := Lib.hid (HBAD.out (.inr (.inl hnm)))
          clear hJ11 ho11 hX11 hr11 hk hnm
          go_upto_region 8 with (fail)
          rw [QAND.out, QWR.out]
          go_quiet ((go_at_call 26; exact Calls.quiet_of_same ((HNUM.out _).mono fun e w' ⟨he, hw⟩ => ⟨he, hw.symm⟩)))
          go_wp2
          rw [Exit.noGoto_ret]
          go_ret
          rw [← HRN.out]
          exact ⟨.slice Av acc.length cv, rfl, (HE11.out _).1, (HE11.out _).2⟩
        have hd2 : ((num : Int) != (jnum ep lf i : Int)) = false := by simp; omega
        by_cases hlo : lf < life
        · have hd3 : decide (lf < life) = true := by simpa using hlo
          have HRN := Lib.hid (HBAD.out (.inr (.inr hlo)))
          clear hJ11 ho11 hX11 hr11 hk hnm
          go_upto_region 8 with (fail)
          rw [QAND.out, QWR.out]
          go_quiet ((go_at_call 26; exact Calls.quiet_of_same ((HNUM.out _).mono fun e w' ⟨he, hw⟩ => ⟨he, hw.symm⟩)))
          go_wp2
          rw [Exit.noGoto_ret]
          go_ret
          rw [← HRN.out]
          exact ⟨.slice Av acc.length cv, rfl, (HE11.out _).1, (HE11.out _).2⟩
        have hd3 : decide (lf < life) = false := by simpa using hlo
        have HGO := Lib.hid (HGOOD.out (by omega))
        have hxne : xb ≠ pj := by omega
        have hai : acc.length ≤ 67108864 := Nat.le_trans hacc (Nat.mul_le_mul (show i ≤ 16384 by omega) (Nat.le_refl 4096))
        have HALL := Lib.hid (fun q => And.intro (And.intro (jown_far ho11 (below_drewN (Below.refl V11.heap.size V11) q)) (hJ11.keep (below_drewN (Below.refl V11.heap.size V11) q))) (And.intro (hX11.keep (below_drewN (Below.refl V11.heap.size V11) q)) (hr11.below (below_drewN (Below.refl V11.heap.size V11) q))))
        have HSZ : Hid (∀ V q, JR w0 pj pd p D fr len ep life V → Calls Try.prog 66 #[.pointer (some ⟨pd, 0, none⟩)] (V.drewN q) fun e w' => e = .returned (.int .i64 (D.size : Int)) ∧ (V.drewN q) = w') := fun V q hV => size_any (hV.keep (below_drewN (Below.refl V.heap.size V) q)).disk
        obtain ⟨rm, hrm⟩ : ∃ rm, D.size - 15 = rm := ⟨_, rfl⟩
        have HRM : Hid (∀ V, Calls Try.prog 65 #[.int .i64 (D.size : Int)] V fun e w' => e = .returned (.int .i64 (rm : Int)) ∧ V = w') := fun V => (room_any _ V).mono fun e w' ⟨he, hw⟩ => ⟨by rw [he, room_is hs1 hs2]; congr 2; omega, hw⟩
        have HSET : Hid (∀ V, ((V.ownsRow w.heap.size 5 1 (.slice Av acc.length cv) acc.length (acc.map bv) ∧ JR w0 pj pd p D fr len ep life V) ∧ Blk V xb 89 #[.int .u8 (kd : Int), .int .u64 (num : Int), .slice B10 ln cB10] ∧ Rd V B10 load) → (((V.setCell ⟨pj, 4, none⟩ (.int .i64 (lf : Int))).ownsRow w.heap.size 5 1 (.slice Av acc.length cv) acc.length (acc.map bv) ∧ JR w0 pj pd p D fr len ep lf (V.setCell ⟨pj, 4, none⟩ (.int .i64 (lf : Int)))) ∧ Blk (V.setCell ⟨pj, 4, none⟩ (.int .i64 (lf : Int))) xb 89 #[.int .u8 (kd : Int), .int .u64 (num : Int), .slice B10 ln cB10] ∧ Rd (V.setCell ⟨pj, 4, none⟩ (.int .i64 (lf : Int))) B10 load)) := fun V hV => by
          obtain ⟨⟨h1, h2⟩, h3, h4⟩ := hV
          refine ⟨⟨World.ownsRow.kept (row := some pj) h1 (grown_setCell (grown_refl _ (some pj)) (p := ⟨pj, 4, none⟩) (.inl rfl) _) ?_, h2.live lf⟩, h3.far (p := ⟨pj, 4, none⟩) hxne _, (Fr.setCell (fun k => k = pj) V (p := ⟨pj, 4, none⟩) (fun _ => rfl) _).rd h4 (fun b off e hl => rd_nej h2.obj (fun x h => by simp [bv] at h) h4 b off e hl)⟩
          cases hq : (Value.slice Av acc.length cv).ownBlock with
          | none => exact .inl rfl
          | some g9 => exact .inr (fun e9 => by injection e9 with e9; have := (World.ownsRow.lt h1 g9 hq).1; omega)
        have hacl : acc.length + ln ≤ maxLen := by unfold maxLen; omega
        have hacb : (acc.length + ln) * 1 ≤ 140737488355328 := by omega
        have HLB := Lib.hid (show (load.map bv).length = ln * 1 by rw [List.length_map, HLN.out]; omega)
        have HL1 := Lib.hid (bvs_one load)
        by_cases hl4 : ln < rm
        · have hd4 : decide (ln < rm) = true := by simpa using hl4
          have HRN : Hid ((acc ++ load, lf) = R) := by
            have h9 := HGO.out
            rw [hrm, hd4] at h9
            show (acc ++ load, lf) = R
            rw [← jread_last (k := len - (i + 1)) (acc := acc) h9, ← HRD.out, show len - i = len - (i + 1) + 1 by omega]
          clear hJ11 ho11 hX11 hr11 hk hnm HE11 hrm hl4
          go_upto_region 8 with (fail)
          rw [QAND.out, QWR.out]
          go_quiet ((go_at_call 26; exact Calls.quiet_of_same ((HNUM.out _).mono fun e w' ⟨he, hw⟩ => ⟨he, hw.symm⟩)))
          go_upto_region 9 with (fail)
          refine wp_world (fun V => ((V.ownsRow w.heap.size 5 1 (.slice Av acc.length cv) acc.length (acc.map bv) ∧ JR w0 pj pd p D fr len ep life V) ∧ Blk V xb 89 #[.int .u8 (kd : Int), .int .u64 (num : Int), .slice B10 ln cB10] ∧ Rd V B10 load)) (HALL.out _) ?_
          clear x0 x1 x2 c0 c3 c4 HALL
          intro V15 hV15
          have x2 : V15.cell? ⟨xb, 2, none⟩ = some (.slice B10 ln cB10) := hV15.2.1.cell 2
          have c0 : V15.cell? ⟨pj, 0, none⟩ = some (.pointer (some ⟨pd, 0, none⟩)) := hV15.1.2.obj.cell 0
          have HS15 := Lib.hid (fun q => HSZ.out V15 q hV15.1.2)
          have HALL := Lib.hid (fun q => And.intro (And.intro (jown_far hV15.1.1 (below_drewN (Below.refl V15.heap.size V15) q)) (hV15.1.2.keep (below_drewN (Below.refl V15.heap.size V15) q))) (And.intro (hV15.2.1.keep (below_drewN (Below.refl V15.heap.size V15) q)) (hV15.2.2.below (below_drewN (Below.refl V15.heap.size V15) q))))
          clear hV15 HSZ
          go_quiet ((first
            | (go_at_call 66; exact Calls.quiet_of_same ((HS15.out _).mono fun e w' ⟨he, hw⟩ => ⟨he, hw.symm⟩))
            | (go_at_call 65; exact Calls.quiet_of_same ((HRM.out _).mono fun e w' ⟨he, hw⟩ => ⟨he, hw.symm⟩))))
          go_upto_region 10 with (fail)
          refine wp_world (fun V => ((V.ownsRow w.heap.size 5 1 (.slice Av acc.length cv) acc.length (acc.map bv) ∧ JR w0 pj pd p D fr len ep life V) ∧ Blk V xb 89 #[.int .u8 (kd : Int), .int .u64 (num : Int), .slice B10 ln cB10] ∧ Rd V B10 load)) (HALL.out _) ?_
          clear x2 c0 HALL HS15
          intro V12 hV12
          have c4 : V12.cell? ⟨pj, 4, none⟩ = some (.int .i64 (life : Int)) := hV12.1.2.obj.cell 4
          have cf := hV12.1.2.obj.frozen 4
          have HV := Lib.hid (HSET.out _ hV12)
          clear hV12
          go_upto_region 11 with (fail)
          refine wp_world (fun V => ((V.ownsRow w.heap.size 5 1 (.slice Av acc.length cv) acc.length (acc.map bv) ∧ JR w0 pj pd p D fr len ep lf V) ∧ Blk V xb 89 #[.int .u8 (kd : Int), .int .u64 (num : Int), .slice B10 ln cB10] ∧ Rd V B10 load)) HV.out ?_
          clear HV c4 cf HSET
          rintro V13 ⟨⟨ho13, hJ13⟩, hX13, hr13⟩
          have x2 : V13.cell? ⟨xb, 2, none⟩ = some (.slice B10 ln cB10) := hX13.cell 2
          have HH13 := Lib.hid (And.intro ho13 (And.intro hJ13 hr13))
          have hsz13 : w.heap.size ≤ V13.heap.size := by have := hX13.lt; omega
          clear ho13 hJ13 hX13 hr13
          go_wp2_with (at_builtin; refine wpList_app bytesT rfl (.tmp 86) (.tmp 88) rfl w.heap.size (.slice Av acc.length cv) acc.length (acc.map bv) rfl HH13.out.1 B10 ln cB10 (load.map bv) rfl HLB.out HH13.out.2.2.cs HL1.out hacl hacb hsz13 ?_; intro v14 V14 ho14 hg14 hw14)
          rw [Exit.noGoto_ret]
          go_ret
          rw [← HRN.out]
          refine ⟨v14, rfl, by rw [List.length_append, HLN.out, List.map_append]; exact ho14, HH13.out.2.1.far (Fr.of_grown (F := fun k => (Value.slice Av acc.length cv).ownBlock = some k) hg14 (fun k e _ => e)) (fun e => ?_) (fun k hk e => ?_) (fun k e => ?_)⟩
          · have := (World.ownsRow.lt HH13.out.1 _ e).1; omega
          · exact absurd hk (fun hk => by have h7 := (World.ownsRow.lt HH13.out.1 _ e).1; have h8 := HJ0.out.disk.lt k hk; omega)
          · have h7 := (World.ownsRow.lt HH13.out.1 _ e).1; have h8 := HJ0.out.bel.size; omega
        · have hd4 : decide (ln < rm) = false := by simpa using hl4
          have HRN : Hid (jread D fr ep (len - (i + 1)) (i + 1) lf (acc ++ load) = R) := by
            have h9 := HGO.out
            rw [hrm, hd4] at h9
            show jread D fr ep (len - (i + 1)) (i + 1) lf (acc ++ load) = R
            rw [← jread_more (k := len - (i + 1)) (acc := acc) h9, ← HRD.out, show len - i = len - (i + 1) + 1 by omega]
          clear hJ11 ho11 hX11 hr11 hk hnm HE11 hrm hl4
          go_upto_region 8 with (fail)
          rw [QAND.out, QWR.out]
          go_quiet ((go_at_call 26; exact Calls.quiet_of_same ((HNUM.out _).mono fun e w' ⟨he, hw⟩ => ⟨he, hw.symm⟩)))
          go_upto_region 9 with (fail)
          refine wp_world (fun V => ((V.ownsRow w.heap.size 5 1 (.slice Av acc.length cv) acc.length (acc.map bv) ∧ JR w0 pj pd p D fr len ep life V) ∧ Blk V xb 89 #[.int .u8 (kd : Int), .int .u64 (num : Int), .slice B10 ln cB10] ∧ Rd V B10 load)) (HALL.out _) ?_
          clear x0 x1 x2 c0 c3 c4 HALL
          intro V15 hV15
          have x2 : V15.cell? ⟨xb, 2, none⟩ = some (.slice B10 ln cB10) := hV15.2.1.cell 2
          have c0 : V15.cell? ⟨pj, 0, none⟩ = some (.pointer (some ⟨pd, 0, none⟩)) := hV15.1.2.obj.cell 0
          have HS15 := Lib.hid (fun q => HSZ.out V15 q hV15.1.2)
          have HALL := Lib.hid (fun q => And.intro (And.intro (jown_far hV15.1.1 (below_drewN (Below.refl V15.heap.size V15) q)) (hV15.1.2.keep (below_drewN (Below.refl V15.heap.size V15) q))) (And.intro (hV15.2.1.keep (below_drewN (Below.refl V15.heap.size V15) q)) (hV15.2.2.below (below_drewN (Below.refl V15.heap.size V15) q))))
          clear hV15 HSZ
          go_quiet ((first
            | (go_at_call 66; exact Calls.quiet_of_same ((HS15.out _).mono fun e w' ⟨he, hw⟩ => ⟨he, hw.symm⟩))
            | (go_at_call 65; exact Calls.quiet_of_same ((HRM.out _).mono fun e w' ⟨he, hw⟩ => ⟨he, hw.symm⟩))))
          go_upto_region 12 with (fail)
          refine wp_world (fun V => ((V.ownsRow w.heap.size 5 1 (.slice Av acc.length cv) acc.length (acc.map bv) ∧ JR w0 pj pd p D fr len ep life V) ∧ Blk V xb 89 #[.int .u8 (kd : Int), .int .u64 (num : Int), .slice B10 ln cB10] ∧ Rd V B10 load)) (HALL.out _) ?_
          clear x2 c0 HALL HS15
          intro V12 hV12
          have c4 : V12.cell? ⟨pj, 4, none⟩ = some (.int .i64 (life : Int)) := hV12.1.2.obj.cell 4
          have cf := hV12.1.2.obj.frozen 4
          have HV := Lib.hid (HSET.out _ hV12)
          clear hV12
          go_upto_region 13 with (fail)
          refine wp_world (fun V => ((V.ownsRow w.heap.size 5 1 (.slice Av acc.length cv) acc.length (acc.map bv) ∧ JR w0 pj pd p D fr len ep lf V) ∧ Blk V xb 89 #[.int .u8 (kd : Int), .int .u64 (num : Int), .slice B10 ln cB10] ∧ Rd V B10 load)) HV.out ?_
          clear HV c4 cf HSET
          rintro V13 ⟨⟨ho13, hJ13⟩, hX13, hr13⟩
          have x2 : V13.cell? ⟨xb, 2, none⟩ = some (.slice B10 ln cB10) := hX13.cell 2
          have HH13 := Lib.hid (And.intro ho13 (And.intro hJ13 hr13))
          have hsz13 : w.heap.size ≤ V13.heap.size := by have := hX13.lt; omega
          clear ho13 hJ13 hX13 hr13
          go_wp2_with (at_builtin; refine wpList_app bytesT rfl (.tmp 94) (.tmp 96) rfl w.heap.size (.slice Av acc.length cv) acc.length (acc.map bv) rfl HH13.out.1 B10 ln cB10 (load.map bv) rfl HLB.out HH13.out.2.2.cs HL1.out hacl hacb hsz13 ?_; intro v14 V14 ho14 hg14 hw14)
          have HF14 : Hid (JR w0 pj pd p D fr len ep lf V14) := by
            refine HH13.out.2.1.far (Fr.of_grown (F := fun k => (Value.slice Av acc.length cv).ownBlock = some k) hg14 (fun k e _ => e)) (fun e => ?_) (fun k hk e => ?_) (fun k e => ?_)
            · have := (World.ownsRow.lt HH13.out.1 _ e).1; omega
            · exact absurd hk (fun hk => by have h7 := (World.ownsRow.lt HH13.out.1 _ e).1; have h8 := HJ0.out.disk.lt k hk; omega)
            · have h7 := (World.ownsRow.lt HH13.out.1 _ e).1; have h8 := HJ0.out.bel.size; omega
          have HO14 := Lib.hid (And.intro ho14 hg14.size)
          have hll : ln + 15 ≤ 4096 := hbounds.2.2
          clear ho14 hg14 hw14
          go_roundw
          case rel =>
            refine ⟨i + 1, lf, acc ++ load, by omega, by go_num, HRN.out, by rw [List.length_append, HLN.out, List.map_append]; exact HO14.out.1, HF14.out, ?_, hlf2, by have := HO14.out.2; omega⟩
            rw [List.length_append, HLN.out]; omega
          case measure => simp [intOf]; omega
    · have hd : decide (i < len) = false := by simpa using hlt
      have HE11 := Lib.hid (And.intro hown hJ)
      have HRN : Hid ((acc, life) = R) := by
        show (acc, life) = R
        rw [← hrd, show len - i = 0 by omega, jread_zero]
      clear hrd hown hJ
      obtain ⟨Av, cv, rfl⟩ : ∃ Av cv, u2 = .slice Av acc.length cv := by
        obtain ⟨Av, cv, h9, _⟩ := own_rd HE11.out.1
        exact ⟨Av, cv, h9⟩
      go_wp2
      rw [Exit.noGoto_ret]
      go_ret
      rw [← HRN.out]
      exact ⟨.slice Av acc.length cv, rfl, HE11.out.1, HE11.out.2⟩
end
end Go.Proofs.Ytcnhfbckaacalaa
