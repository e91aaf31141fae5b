/- The walk of read of layer 6. The walks of fits and Begin of layer 6; nil journals. The walk of Open of layer 6. -/
import Derived.Test.YtcnhfbckaacalaaJouC
import Derived.WalkMore
namespace Go.Proofs.Ytcnhfbckaacalaa
section
open Go.RowKit
set_option linter.unusedVariables false

theorem and_mask20 (n : Nat) (hn : n < 18446744073709551616) : bits BinOp.and IntKind.u64 ((n : Int) / 1048576) 1048575 = ((n / 1048576 % 1048576 : Nat) : Int) := by
  have h1 : ((n : Int) / 1048576) = ((n / 1048576 : Nat) : Int) := by omega
  have h2 : (n / 1048576) &&& 1048575 = n / 1048576 % 1048576 := Nat.and_two_pow_sub_one_eq_mod _ 20
  rw [h1, show (1048575 : Int) = ((1048575 : Nat) : Int) from rfl, u64_and_nat _ _ (by omega) (by omega), h2]
/-- The life of a block's number. -/
def lifeOf (num : Nat) : Nat := num / 1048576 % 1048576
/-- A block's answer: it does not count; it counts and is the last; it counts. -/
def jstep (rm ep i life : Nat) (o : Option (Nat × Nat × List UInt8)) : Option (Bool × Nat × List UInt8) :=
  o.bind fun x => if x.1 ≠ 74 ∨ x.2.1 ≠ jnum ep (lifeOf x.2.1) i ∨ lifeOf x.2.1 < life then none else some (decide (x.2.2.length < rm), lifeOf x.2.1, x.2.2)
/-- Block by block, by what each answers. -/
def jrun (st : Nat → Nat → Option (Bool × Nat × List UInt8)) : Nat → Nat → Nat → List UInt8 → List UInt8 × Nat
  | 0, _, life, acc => (acc, life)
  | k + 1, i, life, acc => match st i life with
    | none => (acc, life)
    | some (true, lf, load) => (acc ++ load, lf)
    | some (false, lf, load) => jrun st k (i + 1) lf (acc ++ load)
theorem jrun_none {st : Nat → Nat → Option (Bool × Nat × List UInt8)} {k i life : Nat} {acc : List UInt8} (h : st i life = none) : jrun st (k + 1) i life acc = (acc, life) := by rw [jrun, h]
theorem jrun_last {st : Nat → Nat → Option (Bool × Nat × List UInt8)} {k i life lf : Nat} {acc load : List UInt8} (h : st i life = some (true, lf, load)) : jrun st (k + 1) i life acc = (acc ++ load, lf) := by rw [jrun, h]
theorem jrun_more {st : Nat → Nat → Option (Bool × Nat × List UInt8)} {k i life lf : Nat} {acc load : List UInt8} (h : st i life = some (false, lf, load)) : jrun st (k + 1) i life acc = jrun st k (i + 1) lf (acc ++ load) := by rw [jrun, h]
theorem jrun_zero {st : Nat → Nat → Option (Bool × Nat × List UInt8)} {i life : Nat} {acc : List UInt8} : jrun st 0 i life acc = (acc, life) := by rw [jrun]
def jst (D : DS) (fr ep i life : Nat) : Option (Bool × Nat × List UInt8) := jstep (D.size - 15) ep i life (getP (D.blockB (fr + i)))
/-- What read takes of the blocks that follow: the stream, the life. -/
def jread (D : DS) (fr ep k i life : Nat) (acc : List UInt8) : List UInt8 × Nat := jrun (jst D fr ep) k i life acc
theorem jread_none {D : DS} {fr ep k i life : Nat} {acc : List UInt8} (h : jst D fr ep i life = none) : jread D fr ep (k + 1) i life acc = (acc, life) := jrun_none h
theorem jread_last {D : DS} {fr ep k i life lf : Nat} {acc load : List UInt8} (h : jst D fr ep i life = some (true, lf, load)) : jread D fr ep (k + 1) i life acc = (acc ++ load, lf) := jrun_last h
theorem jread_more {D : DS} {fr ep k i life lf : Nat} {acc load : List UInt8} (h : jst D fr ep i life = some (false, lf, load)) : jread D fr ep (k + 1) i life acc = jread D fr ep k (i + 1) lf (acc ++ load) := jrun_more h
theorem jread_zero {D : DS} {fr ep i life : Nat} {acc : List UInt8} : jread D fr ep 0 i life acc = (acc, life) := jrun_zero
theorem jstep_none {rm ep i life : Nat} : jstep rm ep i life none = none := rfl
theorem jstep_bad {rm ep i life kd num : Nat} {load : List UInt8} (h : kd ≠ 74 ∨ num ≠ jnum ep (lifeOf num) i ∨ lifeOf num < life) : jstep rm ep i life (some (kd, num, load)) = none := by
  unfold jstep
  rw [Option.bind_some, if_pos h]
theorem jstep_good {rm ep i life kd num : Nat} {load : List UInt8} (h : ¬ (kd ≠ 74 ∨ num ≠ jnum ep (lifeOf num) i ∨ lifeOf num < life)) : jstep rm ep i life (some (kd, num, load)) = some (decide (load.length < rm), lifeOf num, load) := by
  unfold jstep
  rw [Option.bind_some, if_neg h]
def jv0 (fr len ep life : Nat) : JV := ⟨fr, len, ep, life, [], 0, 0, false⟩
/-- A journal under way, and its disk. -/
structure JR (w0 : World) (pj pd : Nat) (p : Pl) (D : DS) (fr len ep life : Nat) (w : World) : Prop where
  disk : DiskAt pd p D w
  obj : Blk w pj 74 (jcells pd (jv0 fr len ep life) (.slice none 0 0))
  bel : Below w0.heap.size w0 w
  lo : w0.heap.size ≤ pj
  sep : ¬ p.F pd pj
/-- What seal's Get leaves where the bytes are sealed; where not. -/
theorem jget_good {A : Option Addr} {n c k num : Nat} {l load : List UInt8} {w : World} (h : getP l = some (k, num, load)) (hc : Calls Try.prog 64 #[.slice A n c] w (GetEnds w l)) :
    Calls Try.prog 64 #[.slice A n c] w fun e w' => ∃ B cB, e = .returned (.tuple #[.agg #[.int .u8 (k : Int), .int .u64 (num : Int), .slice B load.length cB], .int .i64 0]) ∧ Rd w' B load ∧ Below w.heap.size w w' :=
  hc.mono fun e w' ⟨hb, hh⟩ => by
    rcases hh with ⟨h1, _⟩ | ⟨k', num', load', B, cB, h1, h2, h3⟩
    · rw [h] at h1; cases h1
    · rw [h] at h1
      injection h1 with h1
      injection h1 with e1 h1
      injection h1 with e2 e3
      subst e1 e2 e3
      exact ⟨B, cB, h2, h3, hb⟩
theorem jget_bad {A : Option Addr} {n c : Nat} {l : List UInt8} {w : World} (h : getP l = none) (hc : Calls Try.prog 64 #[.slice A n c] w (GetEnds w l)) :
    Calls Try.prog 64 #[.slice A n c] w fun e w' => e = .returned (.tuple #[.agg #[.int .u8 0, .int .u64 0, .slice none 0 0], .int .i64 30]) ∧ Below w.heap.size w w' :=
  hc.mono fun e w' ⟨hb, hh⟩ => by
    rcases hh with ⟨_, h1⟩ | ⟨k', num', load', B, cB, h1, _⟩
    · exact ⟨h1, hb⟩
    · rw [h] at h1; cases h1
theorem jown_far {W W' : World} {base e size n : Nat} {v : Value} {xs : List Value} (h : W.ownsRow base e size v n xs) (hb : Below W.heap.size W W') : W'.ownsRow base e size v n xs := h.kept (grown_of_below hb none) (by cases v.ownBlock <;> simp)
/-- Bytes lie in no journal. -/
theorem rd_nej {V : World} {pj pd : Nat} {J : JV} {v : Value} {B : Option Addr} {load : List UInt8} (hB : Blk V pj 74 (jcells pd J v)) (hv : ∀ x : UInt8, v ≠ bv x) (hr : Rd V B load) : ∀ b off, B = some ⟨b, off, none⟩ → 0 < load.length → b ≠ pj := by
  intro b off hb hl e
  subst e
  rcases hr with h | ⟨b', off', h1, h2⟩
  · rw [h] at hl; simp at hl
  · rw [hb] at h1
    injection h1 with h1
    injection h1 with h1 h3
    subst h1 h3
    have h4 := h2 0 hl
    rw [hB.cell] at h4
    simp only [Nat.add_zero] at h4
    unfold jcells at h4
    match off, h4 with
    | 0, h4 => simp [bv] at h4
    | 1, h4 => simp [bv] at h4
    | 2, h4 => simp [bv] at h4
    | 3, h4 => simp [bv] at h4
    | 4, h4 => simp [bv] at h4
    | 5, h4 =>
      simp at h4
      exact hv _ h4
    | 6, h4 => simp [bv] at h4
    | 7, h4 => simp [bv] at h4
    | 8, h4 => simp [bv] at h4
    | k + 9, h4 => simp at h4
section
variable {w0 w w' : World} {pj pd : Nat} {p : Pl} {D : DS} {fr len ep life : Nat}
theorem JR.keep (h : JR w0 pj pd p D fr len ep life w) (hb : Below w.heap.size w w') : JR w0 pj pd p D fr len ep life w' := ⟨h.disk.keep hb, h.obj.keep hb, below_step h.bel hb, h.lo, h.sep⟩
theorem JR.far {F : Nat → Prop} (h : JR w0 pj pd p D fr len ep life w) (hf : Fr F w w') (h1 : ¬ F pj) (h2 : ∀ k, p.F pd k → ¬ F k) (h3 : ∀ k, F k → w0.heap.size ≤ k) : JR w0 pj pd p D fr len ep life w' := ⟨h.disk.far hf h2, hf.blk h.obj h1, h.bel.trans (hf.below h.bel.size h3), h.lo, h.sep⟩
theorem JR.live (h : JR w0 pj pd p D fr len ep life w) (life' : Nat) : JR w0 pj pd p D fr len ep life' (w.setCell ⟨pj, 4, none⟩ (.int .i64 (life' : Int))) := by
  have hf := Fr.setCell (fun k => k = pj) w (p := ⟨pj, 4, none⟩) (fun _ => rfl) (.int .i64 (life' : Int))
  have hlo := h.lo
  exact ⟨h.disk.far hf (fun k hk e => h.sep (e ▸ hk)), h.obj.set_ 4 _, h.bel.trans (hf.below h.bel.size (fun k e => by omega)), h.lo, h.sep⟩

set_option maxRecDepth 100000 in
set_option maxHeartbeats 4000000 in
theorem jread_any (h : JR w0 pj pd p D fr len ep 0 w) (ok : D.Ok) (hoff : D.off = false) (ha : fr + len ≤ D.nb) (hep : ep ≤ 16777215) :
    Calls Try.prog 40 #[.pointer (some ⟨pj, 0, none⟩)] w fun r w' => ∃ v, r = .returned v ∧ w'.ownsRow w.heap.size 5 1 v (jread D fr ep len 0 0 []).1.length ((jread D fr ep len 0 0 []).1.map bv) ∧ JR w0 pj pd p D fr len ep (jread D fr ep len 0 0 []).2 w' := by
  have c2 : w.cell? ⟨pj, 2, none⟩ = some (.int .i64 (len : Int)) := h.obj.cell 2
  have hpjw := h.obj.lt
  have hnb := ok.n2
  have hs1 := ok.s1
  have hs2 := ok.s2
  have HJ0 := Lib.hid h
  obtain ⟨R, hR⟩ : ∃ R, jread D fr ep len 0 0 [] = R := ⟨_, rfl⟩
  rw [hR]
  have HR := Lib.hid hR
  have HOK := Lib.hid ok
  clear h hR ok
  go_enter Try.func40, Try.ntmps40
  go_wp2
  go_step3
  go_wp2
  go_step3
  go_wp2
  go_loopw [2, 13] (fun v iv wr => ∃ (i life : Nat) (acc : List UInt8), i ≤ len ∧ iv = .int .i64 (i : Int) ∧ jread D fr ep (len - i) i life acc = R ∧ wr.ownsRow w.heap.size 5 1 v acc.length (acc.map bv) ∧ JR w0 pj pd p D fr len ep life wr ∧ acc.length ≤ i * 4096 ∧ life ≤ 1048575 ∧ w.heap.size ≤ wr.heap.size) (fun _ iv _ => len - (intOf iv).toNat)
  case atStart => exact ⟨0, 0, [], Nat.zero_le _, rfl, HR.out, World.ownsRow_nil _ _ _ _, HJ0.out, by simp, by omega, Nat.le_refl _⟩
  case round =>
    obtain ⟨i, life, acc, hi, rfl, hrd, hown, hJ, hacc, hlife, hsz⟩ := hrel
    clear HR
    by_cases hlt : i < len
    · have hd : decide (i < len) = true := by simpa using hlt
      have HRD := Lib.hid hrd
      have HJ := Lib.hid hJ
      have HOWN := Lib.hid hown
      have hpj := hJ.obj.lt
      have hDR : D.read ((fr + i : Nat) : Int) = (0, D.blockB (fr + i)) := by
        unfold DS.read
        rw [if_neg (by simp [DS.hasB]; omega), if_neg (by simp [hoff])]
        rfl
      have hbl : (D.blockB (fr + i)).length = D.size := by
        unfold DS.blockB
        have h9 := HOK.out.len
        have h8 : (fr + i + 1) * D.size ≤ D.nb * D.size := Nat.mul_le_mul_right _ (by omega)
        rw [Nat.succ_mul] at h8
        rw [List.length_take, List.length_drop, h9]
        omega
      have HREAD : Hid (∀ V, JR w0 pj pd p D fr len ep life V → Calls Try.prog 62 #[.pointer (some ⟨pd, 0, none⟩), .int .i64 ((fr : Int) + (i : Int))] V fun r w' => ∃ A c, r = .returned (.tuple #[.slice A D.size c, .int .i64 0]) ∧ Rd w' A (D.blockB (fr + i)) ∧ D.size ≤ c ∧ c ≤ 9223372036854775807 ∧ Below V.heap.size V w') := fun V hV => by
        have h9 := read_any (n := ((fr + i : Nat) : Int)) hV.disk HOK.out
        rw [show ((fr : Int) + (i : Int)) = ((fr + i : Nat) : Int) by push_cast; rfl]
        refine h9.mono fun r w' ⟨v, he, ho, hb⟩ => ?_
        rw [hDR] at he ho
        have hcap : ∀ A c, v = .slice A (D.blockB (fr + i)).length c → c ≤ 9223372036854775807 := fun A c hv => by
          rcases ho.2 with ⟨hv2, _⟩ | ⟨g, cap, cur, hv2, _, _, _, h10, _⟩
          · rw [hv] at hv2
            have := (Value.slice.inj hv2).2.2; omega
          · rw [hv] at hv2
            have := (Value.slice.inj hv2).2.2; unfold maxLen at h10; omega
        obtain ⟨A, c, hv, hr, _, hlc⟩ := own_rd ho
        have hcm := hcap A c hv
        subst hv
        simp only at hlc
        rw [hbl] at he hlc
        exact ⟨A, c, he, hr, hlc, hcm, hb⟩
      have q1 : IntKind.i64.wrap ((fr : Int) + (i : Int)) = (fr : Int) + (i : Int) := IntWalk.i64_in _ (by omega)
      have HC : Hid (∀ V, JR w0 pj pd p D fr len ep life V → (V.cell? ⟨pj, 0, none⟩ = some (.pointer (some ⟨pd, 0, none⟩)) ∧ V.cell? ⟨pj, 1, none⟩ = some (.int .i64 (fr : Int))) ∧ JR w0 pj pd p D fr len ep life V) := fun V hV => ⟨⟨hV.obj.cell 0, hV.obj.cell 1⟩, hV⟩
      have H00 : Hid (JR w0 pj pd p D fr len ep life wr.drew) := hJ.keep (Below.refl _ _).drew
      clear hrd hown hJ
      go_upto_region 4 with (fail)
      go_region_held3 (fun V => (V.cell? ⟨pj, 0, none⟩ = some (.pointer (some ⟨pd, 0, none⟩)) ∧ V.cell? ⟨pj, 1, none⟩ = some (.int .i64 (fr : Int))) ∧ JR w0 pj pd p D fr len ep life V) (first | exact HC.out _ H00.out | exact HC.out _ hP9 | assumption) ((first
        | (go_at_call 62; refine (HREAD.out _ (And.right (by assumption))).mono ?_; rintro r V9 ⟨A9, c9, rfl, hr9, hc9, hcm9, hb9⟩; have hP9 := JR.keep (And.right (by assumption)) hb9)))
      rename_i hHeld9
      clear hHeld9
      have ho9 := jown_far HOWN.out (below_step (Below.refl _ _).drew hb9)
      have hs9 : w.heap.size ≤ V9.heap.size := by have := hb9.size; simp at this; omega
      obtain ⟨bl, hble⟩ : ∃ bl, D.blockB (fr + i) = bl := ⟨_, rfl⟩
      rw [hble] at hr9 hbl
      have HGET := Lib.hid (get_any A9 D.size c9 bl V9 hbl hc9 hcm9 hr9)
      have HBLE := Lib.hid hble
      have HBL := Lib.hid (show (D.blockB (fr + i)).length = D.size by rw [hble]; exact hbl)
      clear hr9 hble hbl hc9 hcm9 hb9 H00 HREAD hDR
      obtain ⟨Av, cv, rfl⟩ : ∃ Av cv, u2 = .slice Av acc.length cv := by
        obtain ⟨Av, cv, h9, _⟩ := own_rd ho9
        exact ⟨Av, cv, h9⟩
      have hstop : ∀ (h9 : jread D fr ep (len - (i + 1) + 1) i life acc = (acc, life)), (acc, life) = R := fun h9 => by
        rw [← h9, ← HRD.out, show len - i = len - (i + 1) + 1 by omega]
      have HSTOP := Lib.hid hstop
      clear hstop
      cases hg : getP bl with
      | none =>
        have HG := Lib.hid (jget_bad hg HGET.out)
        have HRN := Lib.hid (HSTOP.out (jread_none (by rw [jst, HBLE.out, hg]; exact jstep_none)))
        clear hg HGET
        go_upto_region 7 with (go_at_call 64; refine HG.out.mono ?_; rintro r V10 ⟨rfl, hb10⟩)
        have hX : Blk (V10.alloc (.cells #[.int .u8 0, .int .u64 0, .slice none 0 0] 89)) V10.heap.size 89 #[.int .u8 0, .int .u64 0, .slice none 0 0] := Blk.new _ _ _
        have hbx := below_step hb10 (below_alloc V10 (.cells #[.int .u8 0, .int .u64 0, .slice none 0 0] 89))
        obtain ⟨xb, hxb⟩ : ∃ xb, V10.heap.size = xb := ⟨_, rfl⟩
        refine wp_world (fun V => (JR w0 pj pd p D fr len ep life V ∧ V.ownsRow w.heap.size 5 1 (.slice Av acc.length cv) acc.length (acc.map bv)) ∧ Blk V V10.heap.size 89 #[.int .u8 0, .int .u64 0, .slice none 0 0]) ⟨⟨hP9.keep hbx, jown_far ho9 hbx⟩, hX⟩ ?_
        rw [hxb]
        clear hX hbx hb10 hP9 ho9 hxb hs9 HG
        rintro V11 ⟨⟨hJ11, ho11⟩, hX11⟩
        have x1 : V11.cell? ⟨xb, 1, none⟩ = some (.int .u64 0) := hX11.cell 1
        have HE11 := Lib.hid (fun q => And.intro (jown_far ho11 (below_drewN (Below.refl _ _) q)) (hJ11.keep (below_drewN (Below.refl _ _) q)))
        clear hJ11 ho11
        go_upto_region 8 with (fail)
        go_quiet (fail)
        go_wp2
        rw [Exit.noGoto_ret]
        go_ret
        rw [← HRN.out]
        exact ⟨.slice Av acc.length cv, rfl, (HE11.out _).1, (HE11.out _).2⟩
      | some x =>
        obtain ⟨kd, num, load⟩ := x
        have HG := Lib.hid (jget_good hg HGET.out)
        clear HGET
        have hbounds : kd < 256 ∧ num < 18446744073709551616 ∧ load.length + 15 ≤ 4096 := by
          unfold getP at hg
          split at hg
          · cases hg
          · split at hg
            · cases hg
            · split at hg
              · injection hg with hg
                injection hg with e1 hg
                injection hg with e2 e3
                rename_i hr1 hr2 _
                refine ⟨by rw [← e1]; exact UInt8.toNat_lt _, ?_, ?_⟩
                · rw [← e2]
                  exact toldN_lt _
                · rw [← e3, List.length_take]
                  have h7 : room (bl.length : Int) = (bl.length : Int) - 15 := by
                    have hb4 : bl.length = D.size := by rw [← HBLE.out]; exact HBL.out
                    rw [hb4]; exact room_is hs1 hs2
                  rw [h7] at hr2
                  have hb4 : bl.length = D.size := by rw [← HBLE.out]; exact HBL.out
                  omega
              · cases hg
        have HGE := Lib.hid hg
        clear hg
        obtain ⟨lf, hlf⟩ : ∃ lf, lifeOf num = lf := ⟨_, rfl⟩
        have hlf2 : lf ≤ 1048575 := by rw [← hlf]; unfold lifeOf; omega
        have HBAD : Hid ((kd ≠ 74 ∨ num ≠ jnum ep lf i ∨ lf < life) → (acc, life) = R) := fun hb => HSTOP.out (jread_none (by rw [jst, HBLE.out, HGE.out]; exact jstep_bad (by rw [hlf]; exact hb)))
        have HGOOD : Hid (¬ (kd ≠ 74 ∨ num ≠ jnum ep lf i ∨ lf < life) → jst D fr ep i life = some (decide (load.length < D.size - 15), lf, load)) := fun hb => by
          rw [jst, HBLE.out, HGE.out, jstep_good (by rw [hlf]; exact hb), hlf]
        have QAND : Hid (bits BinOp.and IntKind.u64 ((num : Int) / 1048576) 1048575 = (lf : Int)) := by
          show _ = _
          rw [and_mask20 _ hbounds.2.1, ← hlf]; rfl
        have QWR : Hid (wrap64 (lf : Int) = (lf : Int)) := IntWalk.wrap64_in _ ⟨by omega, by omega⟩
        have HNUM : Hid (∀ V, Calls Try.prog 26 #[.int .i64 (ep : Int), .int .i64 (lf : Int), .int .i64 (i : Int)] V fun r w' => r = .returned (.int .u64 (jnum ep lf i : Int)) ∧ V = w') := fun V => jnumber_any _ _ _ V hep hlf2 (by omega)
        obtain ⟨ln, hln⟩ : ∃ ln, load.length = ln := ⟨_, rfl⟩
        rw [hln] at HG hbounds HGOOD
        have HLN := Lib.hid hln
        clear hln hlf
        go_upto_region 7 with (go_at_call 64; refine HG.out.mono ?_; rintro r V10 ⟨B10, cB10, rfl, hr10, hb10⟩)
        obtain ⟨xb, hxb⟩ : ∃ xb, V10.heap.size = xb := ⟨_, rfl⟩
        have hX : Blk (V10.alloc (.cells #[.int .u8 (kd : Int), .int .u64 (num : Int), .slice B10 ln cB10] 89)) V10.heap.size 89 #[.int .u8 (kd : Int), .int .u64 (num : Int), .slice B10 ln cB10] := Blk.new _ _ _
        have hbx := below_step hb10 (below_alloc V10 (.cells #[.int .u8 (kd : Int), .int .u64 (num : Int), .slice B10 ln cB10] 89))
        refine wp_world (fun V => (JR w0 pj pd p D fr len ep life V ∧ V.ownsRow w.heap.size 5 1 (.slice Av acc.length cv) acc.length (acc.map bv)) ∧ (Blk V V10.heap.size 89 #[.int .u8 (kd : Int), .int .u64 (num : Int), .slice B10 ln cB10] ∧ Rd V B10 load) ∧ w.heap.size ≤ V.heap.size ∧ w.heap.size ≤ V10.heap.size) ⟨⟨hP9.keep hbx, jown_far ho9 hbx⟩, ⟨hX, hr10.below (below_alloc _ _)⟩, by have := hbx.size; omega, by have := hb10.size; omega⟩ ?_
        rw [hxb]
        clear hX hbx hr10 hb10 hP9 ho9 hxb hs9 HG
        rintro V11 ⟨⟨hJ11, ho11⟩, ⟨hX11, hr11⟩, hs11, hxw⟩
        have x0 : V11.cell? ⟨xb, 0, none⟩ = some (.int .u8 (kd : Int)) := hX11.cell 0
        have x1 : V11.cell? ⟨xb, 1, none⟩ = some (.int .u64 (num : Int)) := hX11.cell 1
        have x2 : V11.cell? ⟨xb, 2, none⟩ = some (.slice B10 ln cB10) := hX11.cell 2
        have c0 : V11.cell? ⟨pj, 0, none⟩ = some (.pointer (some ⟨pd, 0, none⟩)) := hJ11.obj.cell 0
        have c3 : V11.cell? ⟨pj, 3, none⟩ = some (.int .i64 (ep : Int)) := hJ11.obj.cell 3
        have c4 : V11.cell? ⟨pj, 4, none⟩ = some (.int .i64 (life : Int)) := hJ11.obj.cell 4
        have HE11 := Lib.hid (fun q => And.intro (jown_far ho11 (below_drewN (Below.refl _ _) q)) (hJ11.keep (below_drewN (Below.refl _ _) q)))
        by_cases hk : kd = 74
        rotate_left
        · have hd1 : ((kd : Int) != 74) = true := by rw [bne_iff_ne]; omega
          have HRN := Lib.hid (HBAD.out (.inl hk))
          clear hJ11 ho11 hX11 hr11 hk
          go_upto_region 8 with (fail)
          rw [QAND.out, QWR.out]
          go_quiet (fail)
          go_wp2
          rw [Exit.noGoto_ret]
          go_ret
          rw [← HRN.out]
          exact ⟨.slice Av acc.length cv, rfl, (HE11.out _).1, (HE11.out _).2⟩
        have hd1 : ((kd : Int) != 74) = false := by simp; omega
        by_cases hnm : num = jnum ep lf i
        rotate_left
        · have hd2 : ((num : Int) != (jnum ep lf i : Int)) = true := by rw [bne_iff_ne]; omega
          have HRN := Lib.hid (HBAD.out (.inr (.inl hnm)))
          clear hJ11 ho11 hX11 hr11 hk hnm
          go_upto_region 8 with (fail)
          rw [QAND.out, QWR.out]
          go_quiet ((go_at_call 26; exact Calls.quiet_of_same ((HNUM.out _).mono fun e w' ⟨he, hw⟩ => ⟨he, hw.symm⟩)))
          go_wp2
          rw [Exit.noGoto_ret]
          go_ret
          rw [← HRN.out]
          exact ⟨.slice Av acc.length cv, rfl, (HE11.out _).1, (HE11.out _).2⟩
        have hd2 : ((num : Int) != (jnum ep lf i : Int)) = false := by simp; omega
        by_cases hlo : lf < life
        · have hd3 : decide (lf < life) = true := by simpa using hlo
          have HRN := Lib.hid (HBAD.out (.inr (.inr hlo)))
          clear hJ11 ho11 hX11 hr11 hk hnm
          go_upto_region 8 with (fail)
          rw [QAND.out, QWR.out]
          go_quiet ((go_at_call 26; exact Calls.quiet_of_same ((HNUM.out _).mono fun e w' ⟨he, hw⟩ => ⟨he, hw.symm⟩)))
          go_wp2
          rw [Exit.noGoto_ret]
          go_ret
          rw [← HRN.out]
          exact ⟨.slice Av acc.length cv, rfl, (HE11.out _).1, (HE11.out _).2⟩
        have hd3 : decide (lf < life) = false := by simpa using hlo
        have HGO := Lib.hid (HGOOD.out (by omega))
        have hxne : xb ≠ pj := by omega
        have hai : acc.length ≤ 67108864 := Nat.le_trans hacc (Nat.mul_le_mul (show i ≤ 16384 by omega) (Nat.le_refl 4096))
        have HALL := Lib.hid (fun q => And.intro (And.intro (jown_far ho11 (below_drewN (Below.refl V11.heap.size V11) q)) (hJ11.keep (below_drewN (Below.refl V11.heap.size V11) q))) (And.intro (hX11.keep (below_drewN (Below.refl V11.heap.size V11) q)) (hr11.below (below_drewN (Below.refl V11.heap.size V11) q))))
        have HSZ : Hid (∀ V q, JR w0 pj pd p D fr len ep life V → Calls Try.prog 66 #[.pointer (some ⟨pd, 0, none⟩)] (V.drewN q) fun e w' => e = .returned (.int .i64 (D.size : Int)) ∧ (V.drewN q) = w') := fun V q hV => size_any (hV.keep (below_drewN (Below.refl V.heap.size V) q)).disk
        obtain ⟨rm, hrm⟩ : ∃ rm, D.size - 15 = rm := ⟨_, rfl⟩
        have HRM : Hid (∀ V, Calls Try.prog 65 #[.int .i64 (D.size : Int)] V fun e w' => e = .returned (.int .i64 (rm : Int)) ∧ V = w') := fun V => (room_any _ V).mono fun e w' ⟨he, hw⟩ => ⟨by rw [he, room_is hs1 hs2]; congr 2; omega, hw⟩
        have HSET : Hid (∀ V, ((V.ownsRow w.heap.size 5 1 (.slice Av acc.length cv) acc.length (acc.map bv) ∧ JR w0 pj pd p D fr len ep life V) ∧ Blk V xb 89 #[.int .u8 (kd : Int), .int .u64 (num : Int), .slice B10 ln cB10] ∧ Rd V B10 load) → (((V.setCell ⟨pj, 4, none⟩ (.int .i64 (lf : Int))).ownsRow w.heap.size 5 1 (.slice Av acc.length cv) acc.length (acc.map bv) ∧ JR w0 pj pd p D fr len ep lf (V.setCell ⟨pj, 4, none⟩ (.int .i64 (lf : Int)))) ∧ Blk (V.setCell ⟨pj, 4, none⟩ (.int .i64 (lf : Int))) xb 89 #[.int .u8 (kd : Int), .int .u64 (num : Int), .slice B10 ln cB10] ∧ Rd (V.setCell ⟨pj, 4, none⟩ (.int .i64 (lf : Int))) B10 load)) := fun V hV => by
          obtain ⟨⟨h1, h2⟩, h3, h4⟩ := hV
          refine ⟨⟨World.ownsRow.kept (row := some pj) h1 (grown_setCell (grown_refl _ (some pj)) (p := ⟨pj, 4, none⟩) (.inl rfl) _) ?_, h2.live lf⟩, h3.far (p := ⟨pj, 4, none⟩) hxne _, (Fr.setCell (fun k => k = pj) V (p := ⟨pj, 4, none⟩) (fun _ => rfl) _).rd h4 (fun b off e hl => rd_nej h2.obj (fun x h => by simp [bv] at h) h4 b off e hl)⟩
          cases hq : (Value.slice Av acc.length cv).ownBlock with
          | none => exact .inl rfl
          | some g9 => exact .inr (fun e9 => by injection e9 with e9; have := (World.ownsRow.lt h1 g9 hq).1; omega)
        have hacl : acc.length + ln ≤ maxLen := by unfold maxLen; omega
        have hacb : (acc.length + ln) * 1 ≤ 140737488355328 := by omega
        have HLB := Lib.hid (show (load.map bv).length = ln * 1 by rw [List.length_map, HLN.out]; omega)
        have HL1 := Lib.hid (bvs_one load)
        by_cases hl4 : ln < rm
        · have hd4 : decide (ln < rm) = true := by simpa using hl4
          have HRN : Hid ((acc ++ load, lf) = R) := by
            have h9 := HGO.out
            rw [hrm, hd4] at h9
            show (acc ++ load, lf) = R
            rw [← jread_last (k := len - (i + 1)) (acc := acc) h9, ← HRD.out, show len - i = len - (i + 1) + 1 by omega]
          clear hJ11 ho11 hX11 hr11 hk hnm HE11 hrm hl4
          go_upto_region 8 with (fail)
          rw [QAND.out, QWR.out]
          go_quiet ((go_at_call 26; exact Calls.quiet_of_same ((HNUM.out _).mono fun e w' ⟨he, hw⟩ => ⟨he, hw.symm⟩)))
          go_upto_region 9 with (fail)
          refine wp_world (fun V => ((V.ownsRow w.heap.size 5 1 (.slice Av acc.length cv) acc.length (acc.map bv) ∧ JR w0 pj pd p D fr len ep life V) ∧ Blk V xb 89 #[.int .u8 (kd : Int), .int .u64 (num : Int), .slice B10 ln cB10] ∧ Rd V B10 load)) (HALL.out _) ?_
          clear x0 x1 x2 c0 c3 c4 HALL
          intro V15 hV15
          have x2 : V15.cell? ⟨xb, 2, none⟩ = some (.slice B10 ln cB10) := hV15.2.1.cell 2
          have c0 : V15.cell? ⟨pj, 0, none⟩ = some (.pointer (some ⟨pd, 0, none⟩)) := hV15.1.2.obj.cell 0
          have HS15 := Lib.hid (fun q => HSZ.out V15 q hV15.1.2)
          have HALL := Lib.hid (fun q => And.intro (And.intro (jown_far hV15.1.1 (below_drewN (Below.refl V15.heap.size V15) q)) (hV15.1.2.keep (below_drewN (Below.refl V15.heap.size V15) q))) (And.intro (hV15.2.1.keep (below_drewN (Below.refl V15.heap.size V15) q)) (hV15.2.2.below (below_drewN (Below.refl V15.heap.size V15) q))))
          clear hV15 HSZ
          go_quiet ((first
            | (go_at_call 66; exact Calls.quiet_of_same ((HS15.out _).mono fun e w' ⟨he, hw⟩ => ⟨he, hw.symm⟩))
            | (go_at_call 65; exact Calls.quiet_of_same ((HRM.out _).mono fun e w' ⟨he, hw⟩ => ⟨he, hw.symm⟩))))
          go_upto_region 10 with (fail)
          refine wp_world (fun V => ((V.ownsRow w.heap.size 5 1 (.slice Av acc.length cv) acc.length (acc.map bv) ∧ JR w0 pj pd p D fr len ep life V) ∧ Blk V xb 89 #[.int .u8 (kd : Int), .int .u64 (num : Int), .slice B10 ln cB10] ∧ Rd V B10 load)) (HALL.out _) ?_
          clear x2 c0 HALL HS15
          intro V12 hV12
          have c4 : V12.cell? ⟨pj, 4, none⟩ = some (.int .i64 (life : Int)) := hV12.1.2.obj.cell 4
          have cf := hV12.1.2.obj.frozen 4
          have HV := Lib.hid (HSET.out _ hV12)
          clear hV12
          go_upto_region 11 with (fail)
          refine wp_world (fun V => ((V.ownsRow w.heap.size 5 1 (.slice Av acc.length cv) acc.length (acc.map bv) ∧ JR w0 pj pd p D fr len ep lf V) ∧ Blk V xb 89 #[.int .u8 (kd : Int), .int .u64 (num : Int), .slice B10 ln cB10] ∧ Rd V B10 load)) HV.out ?_
          clear HV c4 cf HSET
          rintro V13 ⟨⟨ho13, hJ13⟩, hX13, hr13⟩
          have x2 : V13.cell? ⟨xb, 2, none⟩ = some (.slice B10 ln cB10) := hX13.cell 2
          have HH13 := Lib.hid (And.intro ho13 (And.intro hJ13 hr13))
          have hsz13 : w.heap.size ≤ V13.heap.size := by have := hX13.lt; omega
          clear ho13 hJ13 hX13 hr13
          go_wp2_with (at_builtin; refine wpList_app bytesT rfl (.tmp 86) (.tmp 88) rfl w.heap.size (.slice Av acc.length cv) acc.length (acc.map bv) rfl HH13.out.1 B10 ln cB10 (load.map bv) rfl HLB.out HH13.out.2.2.cs HL1.out hacl hacb hsz13 ?_; intro v14 V14 ho14 hg14 hw14)
          rw [Exit.noGoto_ret]
          go_ret
          rw [← HRN.out]
          refine ⟨v14, rfl, by rw [List.length_append, HLN.out, List.map_append]; exact ho14, HH13.out.2.1.far (Fr.of_grown (F := fun k => (Value.slice Av acc.length cv).ownBlock = some k) hg14 (fun k e _ => e)) (fun e => ?_) (fun k hk e => ?_) (fun k e => ?_)⟩
          · have := (World.ownsRow.lt HH13.out.1 _ e).1; omega
          · exact absurd hk (fun hk => by have h7 := (World.ownsRow.lt HH13.out.1 _ e).1; have h8 := HJ0.out.disk.lt k hk; omega)
          · have h7 := (World.ownsRow.lt HH13.out.1 _ e).1; have h8 := HJ0.out.bel.size; omega
        · have hd4 : decide (ln < rm) = false := by simpa using hl4
          have HRN : Hid (jread D fr ep (len - (i + 1)) (i + 1) lf (acc ++ load) = R) := by
            have h9 := HGO.out
            rw [hrm, hd4] at h9
            show jread D fr ep (len - (i + 1)) (i + 1) lf (acc ++ load) = R
            rw [← jread_more (k := len - (i + 1)) (acc := acc) h9, ← HRD.out, show len - i = len - (i + 1) + 1 by omega]
          clear hJ11 ho11 hX11 hr11 hk hnm HE11 hrm hl4
          go_upto_region 8 with (fail)
          rw [QAND.out, QWR.out]
          go_quiet ((go_at_call 26; exact Calls.quiet_of_same ((HNUM.out _).mono fun e w' ⟨he, hw⟩ => ⟨he, hw.symm⟩)))
          go_upto_region 9 with (fail)
          refine wp_world (fun V => ((V.ownsRow w.heap.size 5 1 (.slice Av acc.length cv) acc.length (acc.map bv) ∧ JR w0 pj pd p D fr len ep life V) ∧ Blk V xb 89 #[.int .u8 (kd : Int), .int .u64 (num : Int), .slice B10 ln cB10] ∧ Rd V B10 load)) (HALL.out _) ?_
          clear x0 x1 x2 c0 c3 c4 HALL
          intro V15 hV15
          have x2 : V15.cell? ⟨xb, 2, none⟩ = some (.slice B10 ln cB10) := hV15.2.1.cell 2
          have c0 : V15.cell? ⟨pj, 0, none⟩ = some (.pointer (some ⟨pd, 0, none⟩)) := hV15.1.2.obj.cell 0
          have HS15 := Lib.hid (fun q => HSZ.out V15 q hV15.1.2)
          have HALL := Lib.hid (fun q => And.intro (And.intro (jown_far hV15.1.1 (below_drewN (Below.refl V15.heap.size V15) q)) (hV15.1.2.keep (below_drewN (Below.refl V15.heap.size V15) q))) (And.intro (hV15.2.1.keep (below_drewN (Below.refl V15.heap.size V15) q)) (hV15.2.2.below (below_drewN (Below.refl V15.heap.size V15) q))))
          clear hV15 HSZ
          go_quiet ((first
            | (go_at_call 66; exact Calls.quiet_of_same ((HS15.out _).mono fun e w' ⟨he, hw⟩ => ⟨he, hw.symm⟩))
            | (go_at_call 65; exact Calls.quiet_of_same ((HRM.out _).mono fun e w' ⟨he, hw⟩ => ⟨he, hw.symm⟩))))
          go_upto_region 12 with (fail)
          refine wp_world (fun V => ((V.ownsRow w.heap.size 5 1 (.slice Av acc.length cv) acc.length (acc.map bv) ∧ JR w0 pj pd p D fr len ep life V) ∧ Blk V xb 89 #[.int .u8 (kd : Int), .int .u64 (num : Int), .slice B10 ln cB10] ∧ Rd V B10 load)) (HALL.out _) ?_
          clear x2 c0 HALL HS15
          intro V12 hV12
          have c4 : V12.cell? ⟨pj, 4, none⟩ = some (.int .i64 (life : Int)) := hV12.1.2.obj.cell 4
          have cf := hV12.1.2.obj.frozen 4
          have HV := Lib.hid (HSET.out _ hV12)
          clear hV12
          go_upto_region 13 with (fail)
          refine wp_world (fun V => ((V.ownsRow w.heap.size 5 1 (.slice Av acc.length cv) acc.length (acc.map bv) ∧ JR w0 pj pd p D fr len ep lf V) ∧ Blk V xb 89 #[.int .u8 (kd : Int), .int .u64 (num : Int), .slice B10 ln cB10] ∧ Rd V B10 load)) HV.out ?_
          clear HV c4 cf HSET
          rintro V13 ⟨⟨ho13, hJ13⟩, hX13, hr13⟩
          have x2 : V13.cell? ⟨xb, 2, none⟩ = some (.slice B10 ln cB10) := hX13.cell 2
          have HH13 := Lib.hid (And.intro ho13 (And.intro hJ13 hr13))
          have hsz13 : w.heap.size ≤ V13.heap.size := by have := hX13.lt; omega
          clear ho13 hJ13 hX13 hr13
          go_wp2_with (at_builtin; refine wpList_app bytesT rfl (.tmp 94) (.tmp 96) rfl w.heap.size (.slice Av acc.length cv) acc.length (acc.map bv) rfl HH13.out.1 B10 ln cB10 (load.map bv) rfl HLB.out HH13.out.2.2.cs HL1.out hacl hacb hsz13 ?_; intro v14 V14 ho14 hg14 hw14)
          have HF14 : Hid (JR w0 pj pd p D fr len ep lf V14) := by
            refine HH13.out.2.1.far (Fr.of_grown (F := fun k => (Value.slice Av acc.length cv).ownBlock = some k) hg14 (fun k e _ => e)) (fun e => ?_) (fun k hk e => ?_) (fun k e => ?_)
            · have := (World.ownsRow.lt HH13.out.1 _ e).1; omega
            · exact absurd hk (fun hk => by have h7 := (World.ownsRow.lt HH13.out.1 _ e).1; have h8 := HJ0.out.disk.lt k hk; omega)
            · have h7 := (World.ownsRow.lt HH13.out.1 _ e).1; have h8 := HJ0.out.bel.size; omega
          have HO14 := Lib.hid (And.intro ho14 hg14.size)
          have hll : ln + 15 ≤ 4096 := hbounds.2.2
          clear ho14 hg14 hw14
          go_roundw
          case rel =>
            refine ⟨i + 1, lf, acc ++ load, by omega, by go_num, HRN.out, by rw [List.length_append, HLN.out, List.map_append]; exact HO14.out.1, HF14.out, ?_, hlf2, by have := HO14.out.2; omega⟩
            rw [List.length_append, HLN.out]; omega
          case measure => simp [intOf]; omega
    · have hd : decide (i < len) = false := by simpa using hlt
      have HE11 := Lib.hid (And.intro hown hJ)
      have HRN : Hid ((acc, life) = R) := by
        show (acc, life) = R
        rw [← hrd, show len - i = 0 by omega, jread_zero]
      clear hrd hown hJ
      obtain ⟨Av, cv, rfl⟩ : ∃ Av cv, u2 = .slice Av acc.length cv := by
        obtain ⟨Av, cv, h9, _⟩ := own_rd HE11.out.1
        exact ⟨Av, cv, h9⟩
      go_wp2
      rw [Exit.noGoto_ret]
      go_ret
      rw [← HRN.out]
      exact ⟨.slice Av acc.length cv, rfl, HE11.out.1, HE11.out.2⟩
end
end
section
open Go.RowKit
set_option linter.unusedVariables false

/-- Is an area one of a disk? -/
def fitsB (nb : Nat) (fr ln : Int) : Bool := decide (0 ≤ fr ∧ fr < nb ∧ 1 ≤ ln ∧ ln ≤ 16384 ∧ ln ≤ nb - fr)
set_option maxRecDepth 100000 in
set_option maxHeartbeats 2000000 in
theorem jfits_any {pd : Nat} {p : Pl} {D : DS} {w : World} (h : DiskAt pd p D w) (ok : D.Ok) (fr ln : Int) :
    Calls Try.prog 38 #[.pointer (some ⟨pd, 0, none⟩), .agg #[.int .i64 fr, .int .i64 ln]] w fun r w' => r = .returned (.bool (fitsB D.nb fr ln)) ∧ Below w.heap.size w w' := by
  have HB := Lib.hid (fun q => blocks_any ((h.keep (below_alloc w (.cells #[.int .i64 fr, .int .i64 ln] 34))).keep (below_drewN (Below.refl _ _) q)) ok)
  have HW := Lib.hid (fun q => below_drewN (below_alloc w (.cells #[.int .i64 fr, .int .i64 ln] 34)) q)
  have hnb := ok.n2
  generalize D.nb = nb at *
  clear h ok
  by_cases a1 : 0 ≤ fr
  rotate_left
  · have HF := Lib.hid (show fitsB nb fr ln = false by unfold fitsB; rw [decide_eq_false_iff_not]; omega)
    have d1 : decide (0 ≤ fr) = false := by simpa using a1
    clear a1
    go_enter Try.func38, Try.ntmps38
    go_wp2
    go_quiet (fail)
    go_wp2
    go_ret
    rw [HF.out]
    exact ⟨rfl, HW.out _⟩
  have d1 : decide (0 ≤ fr) = true := by simpa using a1
  by_cases a2 : fr < nb
  rotate_left
  · have HF := Lib.hid (show fitsB nb fr ln = false by unfold fitsB; rw [decide_eq_false_iff_not]; omega)
    have d2 : decide (fr < (nb : Int)) = false := by simpa using a2
    clear a1 a2
    go_enter Try.func38, Try.ntmps38
    go_wp2
    go_quiet ((go_at_call 63; exact Calls.quiet_of (HB.out _)))
    go_wp2
    go_ret
    rw [HF.out]
    exact ⟨rfl, HW.out _⟩
  have d2 : decide (fr < (nb : Int)) = true := by simpa using a2
  by_cases a3 : 1 ≤ ln
  rotate_left
  · have HF := Lib.hid (show fitsB nb fr ln = false by unfold fitsB; rw [decide_eq_false_iff_not]; omega)
    have d3 : decide (1 ≤ ln) = false := by simpa using a3
    clear a1 a2 a3
    go_enter Try.func38, Try.ntmps38
    go_wp2
    go_quiet ((go_at_call 63; exact Calls.quiet_of (HB.out _)))
    go_wp2
    go_ret
    rw [HF.out]
    exact ⟨rfl, HW.out _⟩
  have d3 : decide (1 ≤ ln) = true := by simpa using a3
  by_cases a4 : ln ≤ 16384
  rotate_left
  · have HF := Lib.hid (show fitsB nb fr ln = false by unfold fitsB; rw [decide_eq_false_iff_not]; omega)
    have d4 : decide (ln ≤ 16384) = false := by simpa using a4
    clear a1 a2 a3 a4
    go_enter Try.func38, Try.ntmps38
    go_wp2
    go_quiet ((go_at_call 63; exact Calls.quiet_of (HB.out _)))
    go_wp2
    go_ret
    rw [HF.out]
    exact ⟨rfl, HW.out _⟩
  have d4 : decide (ln ≤ 16384) = true := by simpa using a4
  have q1 : IntKind.i64.wrap ((nb : Int) - fr) = (nb : Int) - fr := IntWalk.i64_in _ (by omega)
  have HF := Lib.hid (show fitsB nb fr ln = decide (ln ≤ (nb : Int) - fr) by unfold fitsB; rw [decide_eq_decide]; omega)
  clear a1 a2 a3 a4
  go_enter Try.func38, Try.ntmps38
  go_wp2
  go_quiet ((go_at_call 63; exact Calls.quiet_of (HB.out _)))
  go_wp2
  go_ret
  rw [HF.out]
  exact ⟨rfl, HW.out _⟩

/-- All nine cells of a journal. -/
def set9 (w : World) (pj : Nat) (b0 b1 b2 b3 b4 b5 b6 b7 b8 : Value) : World := (((((((((w.setCell ⟨pj, 0, none⟩ b0).setCell ⟨pj, 1, none⟩ b1).setCell ⟨pj, 2, none⟩ b2).setCell ⟨pj, 3, none⟩ b3).setCell ⟨pj, 4, none⟩ b4).setCell ⟨pj, 5, none⟩ b5).setCell ⟨pj, 6, none⟩ b6).setCell ⟨pj, 7, none⟩ b7).setCell ⟨pj, 8, none⟩ b8).drew
theorem set9_fr (w : World) (pj : Nat) (b0 b1 b2 b3 b4 b5 b6 b7 b8 : Value) : Fr (fun k => k = pj) w (set9 w pj b0 b1 b2 b3 b4 b5 b6 b7 b8) := (((((((((Fr.setCell (fun k => k = pj) w (p := ⟨pj, 0, none⟩) (fun _ => rfl) b0).same (Fr.setCell (fun k => k = pj) _ (p := ⟨pj, 1, none⟩) (fun _ => rfl) b1)).same (Fr.setCell (fun k => k = pj) _ (p := ⟨pj, 2, none⟩) (fun _ => rfl) b2)).same (Fr.setCell (fun k => k = pj) _ (p := ⟨pj, 3, none⟩) (fun _ => rfl) b3)).same (Fr.setCell (fun k => k = pj) _ (p := ⟨pj, 4, none⟩) (fun _ => rfl) b4)).same (Fr.setCell (fun k => k = pj) _ (p := ⟨pj, 5, none⟩) (fun _ => rfl) b5)).same (Fr.setCell (fun k => k = pj) _ (p := ⟨pj, 6, none⟩) (fun _ => rfl) b6)).same (Fr.setCell (fun k => k = pj) _ (p := ⟨pj, 7, none⟩) (fun _ => rfl) b7)).same (Fr.setCell (fun k => k = pj) _ (p := ⟨pj, 8, none⟩) (fun _ => rfl) b8)).drew
theorem set9_cells {pd : Nat} {J : JV} {v : Value} (b0 b1 b2 b3 b4 b5 b6 b7 b8 : Value) : ((((((((((jcells pd J v).setIfInBounds 0 b0).setIfInBounds 1 b1).setIfInBounds 2 b2).setIfInBounds 3 b3).setIfInBounds 4 b4).setIfInBounds 5 b5).setIfInBounds 6 b6).setIfInBounds 7 b7).setIfInBounds 8 b8) = #[b0, b1, b2, b3, b4, b5, b6, b7, b8] := by
  simp only [jcells, List.setIfInBounds_toArray, List.set_cons_zero, List.set_cons_succ]
theorem set9_blk {w : World} {pj t pd : Nat} {J : JV} {v : Value} (h : Blk w pj t (jcells pd J v)) (b0 b1 b2 b3 b4 b5 b6 b7 b8 : Value) : Blk (set9 w pj b0 b1 b2 b3 b4 b5 b6 b7 b8) pj t #[b0, b1, b2, b3, b4, b5, b6, b7, b8] := by
  rw [← set9_cells (pd := pd) (J := J) (v := v)]
  have h9 := (((((((((h.set_ 0 b0).set_ 1 b1).set_ 2 b2).set_ 3 b3).set_ 4 b4).set_ 5 b5).set_ 6 b6).set_ 7 b7).set_ 8 b8)
  unfold set9
  generalize jcells pd J v = cs at *
  exact blk_drew h9
/-- The world behind a region under a new name. -/
theorem Exit.then_world {K : Act → World → Prop} {Q : Exit → Act → World → Prop} {a : Act} {w : World} (F : World → Prop) (hF : F w) (h : ∀ w', F w' → Exit.then K Q .normal a w') : Exit.then K Q .normal a w := h w hF
/-- What Begin does. -/
def JV.begin (J : JV) (e : Int) : Nat × JV := if e ≤ J.epoch ∨ 16777215 < e then (2, J) else (0, ⟨J.from_, J.len, e.toNat, 1, [], 0, 0, false⟩)
section
variable {w0 : Bas} {w w' : World} {pj pd : Nat} {v v' : Value} {J J' : JV} {p p' : Pl} {D D' : DS}
set_option maxRecDepth 100000 in
set_option maxHeartbeats 2000000 in
theorem jbegin_any (h : JD w0 pj v J pd p D w) (e : Int) :
    Calls Try.prog 25 #[.pointer (some ⟨pj, 0, none⟩), .int .i64 e] w (JAct w0 pj pd ((J.begin e).1, (J.begin e).2, D)) := by
  obtain ⟨c0, c1, c2, c3, c4, c5, c6, c7, c8⟩ := h.cells
  have hl := h.jok.len h.ok
  by_cases h1 : e ≤ J.epoch
  · have HF := Lib.hid (show J.begin e = (2, J) by unfold JV.begin; rw [if_pos (.inl h1)])
    have d1 : decide (e ≤ (J.epoch : Int)) = true := by simpa using h1
    clear h1
    go_enter Try.func25, Try.ntmps25
    go_wp2
    go_ret
    unfold JAct
    rw [HF.out]
    exact ⟨rfl, _, _, h⟩
  have d1 : decide (e ≤ (J.epoch : Int)) = false := by simpa using h1
  by_cases h2 : 16777215 < e
  · have HF := Lib.hid (show J.begin e = (2, J) by unfold JV.begin; rw [if_pos (.inr h2)])
    have d2 : decide (16777215 < e) = true := by simpa using h2
    clear h1 h2
    go_enter Try.func25, Try.ntmps25
    go_wp2
    go_ret
    unfold JAct
    rw [HF.out]
    exact ⟨rfl, _, _, h⟩
  have d2 : decide (16777215 < e) = false := by simpa using h2
  clear d1
  obtain ⟨n, rfl⟩ := Int.eq_ofNat_of_zero_le (show 0 ≤ e by omega)
  have HF := Lib.hid (show J.begin (n : Int) = (0, ⟨J.from_, J.len, n, 1, [], 0, 0, false⟩) by unfold JV.begin; rw [if_neg (by omega)]; rfl)
  have d1 : decide (n ≤ J.epoch) = false := by simp; omega
  have h3 : n ≤ 16777215 := by omega
  have f0 := h.obj.frozen 0
  have f1 := h.obj.frozen 1
  have f2 := h.obj.frozen 2
  have f3 := h.obj.frozen 3
  have f4 := h.obj.frozen 4
  have f5 := h.obj.frozen 5
  have f6 := h.obj.frozen 6
  have f7 := h.obj.frozen 7
  have f8 := h.obj.frozen 8
  have hpj := h.obj.lt
  have HJ := Lib.hid h
  clear h1 h2 h
  go_enter Try.func25, Try.ntmps25
  go_wp2
  go_region
  refine Exit.then_world (fun V => V = set9 w pj (.pointer (some ⟨pd, 0, none⟩)) (.int .i64 (J.from_ : Int)) (.int .i64 (J.len : Int)) (.int .i64 (n : Int)) (.int .i64 1) (.slice none 0 0) (.int .i64 0) (.int .i64 0) (.bool false)) rfl ?_
  clear c0 c1 c2 c3 c4 c5 c6 c7 c8 f0 f1 f2 f3 f4 f5 f6 f7 f8
  intro V hV
  have hB : Blk V pj 74 (jcells pd ⟨J.from_, J.len, n, 1, [], 0, 0, false⟩ (.slice none 0 0)) := by rw [hV]; exact set9_blk HJ.out.obj _ _ _ _ _ _ _ _ _
  have hF : Fr (fun k => k = pj) w V := by rw [hV]; exact set9_fr _ _ _ _ _ _ _ _ _ _ _
  clear hV
  have hj := HJ.out.jok
  have hlo := HJ.out.lo
  have HD : Hid (JD w0 pj (.slice none 0 0) ⟨J.from_, J.len, n, 1, [], 0, 0, false⟩ pd p D V) := ⟨HJ.out.disk.far hF (fun k hk e => HJ.out.sep (e ▸ hk)), hB, .inl (World.ownsRow_nil _ _ _ _), HJ.out.belx.join hF (fun k e => e ▸ hlo), hlo, (fun k hk => by cases hk), HJ.out.loD, HJ.out.sep, (fun k hk => by cases hk), HJ.out.ok, ⟨hj.area, hj.l1, hj.l2, by show n ≤ 16777215; omega, Nat.le_refl _, by show 1 ≤ 1048575; omega, Nat.le_refl _, Nat.zero_le _, Nat.le_refl _⟩⟩
  have hn9 : n ≤ 16777215 := by omega
  clear hB hF hj
  go_wp2
  go_ret
  unfold JAct
  rw [HF.out]
  exact ⟨rfl, _, _, HD.out⟩
end
end
section
open Go.RowKit
set_option linter.unusedVariables false

/-- Records read one behind another: by what each reading answers. -/
def jrecs (f : TS → List UInt8 × TS) : Nat → TS → List (List UInt8) → Nat → List (List UInt8) × Nat
  | 0, _, out, safe => (out, safe)
  | k + 1, t, out, safe => if t.bytes.length - t.pos = 0 then (out, safe) else if (f t).2.fault ≠ 0 then (out, safe) else jrecs f k (f t).2 (out ++ [(f t).1]) (f t).2.pos
theorem jrecs_end {f : TS → List UInt8 × TS} {k : Nat} {t : TS} {out : List (List UInt8)} {safe : Nat} (h : t.bytes.length - t.pos = 0 ∨ (f t).2.fault ≠ 0) : jrecs f (k + 1) t out safe = (out, safe) := by
  rw [jrecs]
  by_cases h1 : t.bytes.length - t.pos = 0
  · rw [if_pos h1]
  · rw [if_neg h1, if_pos (h.resolve_left h1)]
theorem jrecs_more {f : TS → List UInt8 × TS} {k : Nat} {t : TS} {out : List (List UInt8)} {safe : Nat} (h1 : t.bytes.length - t.pos ≠ 0) (h2 : (f t).2.fault = 0) : jrecs f (k + 1) t out safe = jrecs f k (f t).2 (out ++ [(f t).1]) (f t).2.pos := by
  rw [jrecs, if_neg h1, if_neg (by simp [h2])]
/-- The records of a stream, how many of its bytes they take. -/
def jopenRecs (s : List UInt8) : List (List UInt8) × Nat := jrecs (fun t => t.str (s.length : Int)) (s.length + 1) ⟨s, 0, 0, 0⟩ [] 0
/-- What Open does: the error, the journal, the records. -/
def jopenP (D : DS) (fr ln ep : Int) : Nat × JV × List (List UInt8) :=
  if fitsB D.nb fr ln = false ∨ ep < 0 ∨ 16777215 < ep then (2, jv0 0 0 0 0, []) else if D.off = true then (20, jv0 0 0 0 0, [])
  else if 1048575 < (jread D fr.toNat ep.toNat ln.toNat 0 0 []).2 + 1 then (6, jv0 0 0 0 0, [])
  else (0, ⟨fr.toNat, ln.toNat, ep.toNat, (jread D fr.toNat ep.toNat ln.toNat 0 0 []).2 + 1, (jread D fr.toNat ep.toNat ln.toNat 0 0 []).1.take (jopenRecs (jread D fr.toNat ep.toNat ln.toNat 0 0 []).1).2, (jopenRecs (jread D fr.toNat ep.toNat ln.toNat 0 0 []).1).2, (jopenRecs (jread D fr.toNat ep.toNat ln.toNat 0 0 []).1).1.length, false⟩, (jopenRecs (jread D fr.toNat ep.toNat ln.toNat 0 0 []).1).1)
section
variable {w0 w w' : World} {pd : Nat} {p : Pl} {D : DS}
def JOpenNo (w : World) (e : Nat) (r : Ending) (w' : World) : Prop := r = .returned (.tuple #[.pointer none, .slice none 0 0, .int .i64 (e : Int)]) ∧ Below w.heap.size w w'
set_option maxRecDepth 100000 in
set_option maxHeartbeats 2000000 in
theorem jopen_arg (h : DiskAt pd p D w) (ok : D.Ok) (fr ln ep : Int) (hno : fitsB D.nb fr ln = false ∨ ep < 0 ∨ 16777215 < ep) :
    Calls Try.prog 12 #[.pointer (some ⟨pd, 0, none⟩), .agg #[.int .i64 fr, .int .i64 ln], .int .i64 ep] w (JOpenNo w 2) := by
  have HF := Lib.hid (jfits_any (h.keep (below_alloc w (.cells #[.int .i64 fr, .int .i64 ln] 34))) ok fr ln)
  have hB : Blk (w.alloc (.cells #[.int .i64 fr, .int .i64 ln] 34)) w.heap.size 34 #[.int .i64 fr, .int .i64 ln] := Blk.new _ _ _
  have e0 : (w.alloc (.cells #[.int .i64 fr, .int .i64 ln] 34)).cell? ⟨w.heap.size, 0, none⟩ = some (.int .i64 fr) := hB.cell 0
  have e1 : (w.alloc (.cells #[.int .i64 fr, .int .i64 ln] 34)).cell? ⟨w.heap.size, 1, none⟩ = some (.int .i64 ln) := hB.cell 1
  have HBL := Lib.hid (below_alloc w (.cells #[.int .i64 fr, .int .i64 ln] 34))
  obtain ⟨fb, hfb⟩ : ∃ fb, fitsB D.nb fr ln = fb := ⟨_, rfl⟩
  rw [hfb] at HF hno
  clear h ok hB hfb
  cases fb with
  | false =>
    clear hno
    go_enter Try.func12, Try.ntmps12
    go_wp2_with (go_at_call 38; refine HF.out.mono ?_; rintro r w1 ⟨rfl, hb1⟩)
    refine bodyPost_ret (v := .tuple #[.pointer none, .slice none 0 0, .int .i64 2]) (by simp [results, Try.results12, go_sem]) rfl ⟨rfl, below_step HBL.out hb1⟩
  | true =>
    by_cases h1 : ep < 0
    · have d1 : decide (ep < 0) = true := by simpa using h1
      clear hno h1
      go_enter Try.func12, Try.ntmps12
      go_wp2_with (go_at_call 38; refine HF.out.mono ?_; rintro r w1 ⟨rfl, hb1⟩)
      refine bodyPost_ret (v := .tuple #[.pointer none, .slice none 0 0, .int .i64 2]) (by simp [results, Try.results12, go_sem]) rfl ⟨rfl, below_step HBL.out hb1⟩
    · have d1 : decide (ep < 0) = false := by simpa using h1
      have d2 : decide (16777215 < ep) = true := by
        rcases hno with h9 | h9 | h9
        · cases h9
        · exact absurd h9 h1
        · simpa using h9
      clear hno h1
      go_enter Try.func12, Try.ntmps12
      go_wp2_with (go_at_call 38; refine HF.out.mono ?_; rintro r w1 ⟨rfl, hb1⟩)
      refine bodyPost_ret (v := .tuple #[.pointer none, .slice none 0 0, .int .i64 2]) (by simp [results, Try.results12, go_sem]) rfl ⟨rfl, below_step HBL.out hb1⟩
set_option maxRecDepth 100000 in
set_option maxHeartbeats 2000000 in
theorem jopen_dead (h : DiskAt pd p D w) (ok : D.Ok) (fr ln ep : Int) (hfb : fitsB D.nb fr ln = true) (h1 : 0 ≤ ep) (h2 : ep ≤ 16777215) (hoff : D.off = true) :
    Calls Try.prog 12 #[.pointer (some ⟨pd, 0, none⟩), .agg #[.int .i64 fr, .int .i64 ln], .int .i64 ep] w (JOpenNo w 20) := by
  have HF := Lib.hid (jfits_any (h.keep (below_alloc w (.cells #[.int .i64 fr, .int .i64 ln] 34))) ok fr ln)
  have HDE : Hid (∀ V, Below w.heap.size w V → Calls Try.prog 39 #[.pointer (some ⟨pd, 0, none⟩)] V fun e w' => e = .returned (.bool true) ∧ V = w') := fun V hV => by
    have h9 := dead_any (h.keep hV)
    rw [hoff] at h9
    exact h9
  have hB : Blk (w.alloc (.cells #[.int .i64 fr, .int .i64 ln] 34)) w.heap.size 34 #[.int .i64 fr, .int .i64 ln] := Blk.new _ _ _
  have e0 : (w.alloc (.cells #[.int .i64 fr, .int .i64 ln] 34)).cell? ⟨w.heap.size, 0, none⟩ = some (.int .i64 fr) := hB.cell 0
  have e1 : (w.alloc (.cells #[.int .i64 fr, .int .i64 ln] 34)).cell? ⟨w.heap.size, 1, none⟩ = some (.int .i64 ln) := hB.cell 1
  have HBL := Lib.hid (below_alloc w (.cells #[.int .i64 fr, .int .i64 ln] 34))
  have d1 : decide (ep < 0) = false := by simp; omega
  have d2 : decide (16777215 < ep) = false := by simp; omega
  rw [hfb] at HF
  clear h ok hB hfb hoff
  go_enter Try.func12, Try.ntmps12
  go_wp2_with (first
    | (go_at_call 38; refine HF.out.mono ?_; rintro r w1 ⟨rfl, hb1⟩)
    | (go_at_call 39; refine (HDE.out _ (below_step HBL.out hb1)).mono ?_; rintro r w2 ⟨rfl, rfl⟩))
  refine bodyPost_ret (v := .tuple #[.pointer none, .slice none 0 0, .int .i64 20]) (by simp [results, Try.results12, go_sem]) rfl ⟨rfl, below_step HBL.out hb1⟩

/-- Bytes of a text's, in new memory. -/
theorem jbytes_of (W : World) (x : List UInt8) (hx : x.length ≤ 1000000000) :
    ∃ c W', (convert 9 23 (.string ⟨x.toArray⟩)).run Try.prog W = .ok (.slice (some ⟨W.heap.size, 0, none⟩) x.length c) W' ∧ Rd W' (some ⟨W.heap.size, 0, none⟩) x ∧ x.length ≤ c ∧ Below W.heap.size W W' ∧ W.heap.size < W'.heap.size := by
  have hcv := run_bytes_of_string (P := Try.prog) W 9 23 5 ⟨x.toArray⟩ Try.underlying9 Try.underlying23 Try.underlying5
  have hsz : (⟨x.toArray⟩ : ByteArray).size = x.length := by show x.toArray.size = _; simp
  have hG := grownCap_ge W (⟨x.toArray⟩ : ByteArray).size 0 5
  rw [hsz] at hcv hG
  generalize grownCap W x.length 0 5 = G at *
  refine ⟨G, _, hcv, ?_, hG, below_step (b := W.drew) (Below.refl _ _).drew (below_alloc W.drew _), by simp⟩
  refine .inr ⟨W.heap.size, 0, rfl, fun j hj => ?_⟩
  have hc2 := cell_of_row (W.drew.alloc (.cells (bytesRow ⟨x.toArray⟩ G) 5 ((bytesRow ⟨x.toArray⟩ G).size, (bytesRow ⟨x.toArray⟩ G).size + 1))) W.heap.size (0 + j) (bytesRow ⟨x.toArray⟩ G) 5 ((bytesRow ⟨x.toArray⟩ G).size, (bytesRow ⟨x.toArray⟩ G).size + 1) (heap_alloc_new W.drew _)
  rw [hc2, Nat.zero_add]
  unfold bytesRow
  rw [Array.getElem?_append_left (by simpa using hj)]
  simp [bv, hj]
end
/-- Records in memory: a row of slices of the call's own; each reads as its bytes, which lie in memory of the call's own. -/
structure Recs (base : Nat) (w : World) (v : Value) (rs : List (List UInt8)) (vals : List Value) : Prop where
  own : w.ownsRow base 23 1 v rs.length vals
  each : ∀ j (h : j < rs.length), ∃ B c, vals[j]? = some (.slice B (rs[j]).length c) ∧ Rd w B rs[j] ∧ ∀ b off, B = some ⟨b, off, none⟩ → base ≤ b ∧ b < w.heap.size ∧ v.ownBlock ≠ some b
theorem Recs.nil_ (base : Nat) (w : World) : Recs base w (.slice none 0 0) [] [] := ⟨World.ownsRow_nil _ _ _ _, fun j h => by simp at h⟩
theorem Recs.far {base : Nat} {w w' : World} {v : Value} {rs : List (List UInt8)} {vals : List Value} {F : Nat → Prop} (h : Recs base w v rs vals) (hf : Fr F w w') (hF : ∀ k, F k → k < base) : Recs base w' v rs vals := by
  refine ⟨⟨h.own.1, ?_⟩, fun j hj => ?_⟩
  · rcases h.own.2 with hn | ⟨g, cap', cur, hv, hb, hh, rest⟩
    · exact .inl hn
    · have hg := (World.ownsRow.lt h.own g (by rw [hv]; rfl)).2
      exact .inr ⟨g, cap', cur, hv, hb, (hf.block g hg (fun e => by have := hF g e; omega)).trans hh, rest⟩
  · obtain ⟨B, c, h1, h2, h3⟩ := h.each j hj
    refine ⟨B, c, h1, hf.rd h2 (fun b off e _ e2 => by have := (h3 b off e).1; have := hF b e2; omega), fun b off e => ?_⟩
    have h4 := h3 b off e
    have := hf.size
    exact ⟨h4.1, by omega, h4.2.2⟩
theorem Recs.keep {base : Nat} {w w' : World} {v : Value} {rs : List (List UInt8)} {vals : List Value} (h : Recs base w v rs vals) (hb : Below w.heap.size w w') : Recs base w' v rs vals := h.far (Fr.of_below hb (fun _ => False)) (fun _ e => e.elim)
/-- A record more: its bytes lie in new memory, its slice was laid behind the row. -/
theorem Recs.step {base : Nat} {w w1 w2 : World} {v v' : Value} {rs : List (List UInt8)} {vals : List Value} {x : List UInt8} {c : Nat} {o : Obj} (h : Recs base w v rs vals) (hbs : base ≤ w.heap.size) (hb : Below w.heap.size w w1) (hlt : w.heap.size < w1.heap.size) (hx : Rd w1 (some ⟨w.heap.size, 0, none⟩) x)
    (ho : w2.ownsRow base 23 1 v' (rs.length + 1) (vals ++ [.slice (some ⟨w.heap.size, 0, none⟩) x.length c])) (hg : (w1.alloc o).grownBy w2 v.ownBlock) (hv : v'.ownBlock = v.ownBlock ∨ v'.ownBlock = some (w1.alloc o).heap.size) : Recs base w2 v' (rs ++ [x]) (vals ++ [.slice (some ⟨w.heap.size, 0, none⟩) x.length c]) := by
  have hvl : vals.length = rs.length := by have := h.own.1; omega
  have hb1 : Below w.heap.size w (w1.alloc o) := below_step hb (below_alloc _ _)
  have hf : Fr (fun k => v.ownBlock = some k) (w1.alloc o) w2 := Fr.of_grown hg (fun k e _ => e)
  have hs2 := hf.size
  have hs1 : (w1.alloc o).heap.size = w1.heap.size + 1 := by simp
  have hbsz := hb.size
  refine ⟨by rw [List.length_append]; exact ho, fun j hj => ?_⟩
  rw [List.length_append] at hj
  simp only [List.length_cons, List.length_nil] at hj
  by_cases hjl : j < rs.length
  · obtain ⟨B, c', h1, h2, h3⟩ := (h.keep hb1).each j hjl
    refine ⟨B, c', ?_, ?_, fun b off e => ?_⟩
    · rw [List.getElem?_append_left (by omega), List.getElem_append_left hjl]; exact h1
    · rw [List.getElem_append_left hjl]
      exact hf.rd h2 (fun b off e _ e2 => (h3 b off e).2.2 e2)
    · have h4 := h3 b off e
      have h5 := (h.each j hjl)
      refine ⟨h4.1, by omega, ?_⟩
      rcases hv with e9 | e9
      · rw [e9]; exact h4.2.2
      · rw [e9]
        intro e8
        injection e8 with e8
        omega
  · obtain rfl : j = rs.length := by omega
    refine ⟨some ⟨w.heap.size, 0, none⟩, c, ?_, ?_, fun b off e => ?_⟩
    · rw [List.getElem?_append_right (by omega)]
      simp [hvl]
    · simp only [List.getElem_append_right (Nat.le_refl _), Nat.sub_self, List.getElem_cons_zero]
      exact hf.rd (hx.below (below_alloc _ _)) (fun b off e _ e2 => by
        injection e with e
        injection e with e _
        have := (World.ownsRow.lt h.own b e2).2
        omega)
    · injection e with e
      injection e with e _
      refine ⟨by omega, by omega, ?_⟩
      rcases hv with e9 | e9
      · rw [e9]
        intro e8
        have := (World.ownsRow.lt h.own b e8).2
        omega
      · rw [e9]
        intro e8
        injection e8 with e8
        omega
/-- A journal under way (of any kind), and its disk. -/
structure JX (w0 : World) (pj : Nat) (v : Value) (J : JV) (pd : Nat) (p : Pl) (D : DS) (w : World) : Prop where
  disk : DiskAt pd p D w
  obj : Blk w pj 74 (jcells pd J v)
  bel : Below w0.heap.size w0 w
  lo : w0.heap.size ≤ pj
  sep : ¬ p.F pd pj
section
variable {w0 w w' : World} {pj pd : Nat} {v : Value} {J J' : JV} {p : Pl} {D : DS}
theorem JX.keep (h : JX w0 pj v J pd p D w) (hb : Below w.heap.size w w') : JX w0 pj v J pd p D w' := ⟨h.disk.keep hb, h.obj.keep hb, below_step h.bel hb, h.lo, h.sep⟩
theorem JX.far {F : Nat → Prop} (h : JX w0 pj v J pd p D w) (hf : Fr F w w') (h1 : ¬ F pj) (h2 : ∀ k, p.F pd k → ¬ F k) (h3 : ∀ k, F k → w0.heap.size ≤ k) : JX w0 pj v J pd p D w' := ⟨h.disk.far hf h2, hf.blk h.obj h1, h.bel.trans (hf.below h.bel.size h3), h.lo, h.sep⟩
theorem JX.set_ (h : JX w0 pj v J pd p D w) (i : Nat) (u : Value) (v' : Value) (hc : (jcells pd J v).setIfInBounds i u = jcells pd J' v') : JX w0 pj v' J' pd p D (w.setCell ⟨pj, i, none⟩ u) := by
  have hf := Fr.setCell (fun k => k = pj) w (p := ⟨pj, i, none⟩) (fun _ => rfl) u
  have hlo := h.lo
  have hobj := h.obj.set_ i u
  rw [hc] at hobj
  exact ⟨h.disk.far hf (fun k hk e => h.sep (e ▸ hk)), hobj, h.bel.trans (hf.below h.bel.size (fun k e => by omega)), h.lo, h.sep⟩
theorem JR.jx {fr len ep life : Nat} (h : JR w0 pj pd p D fr len ep life w) : JX w0 pj (.slice none 0 0) (jv0 fr len ep life) pd p D w := ⟨h.disk, h.obj, h.bel, h.lo, h.sep⟩
end
end
end Go.Proofs.Ytcnhfbckaacalaa
