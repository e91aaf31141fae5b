/- Names (layer 19): the walks of Find, Of, Add, Remove, Drop. -/
import Derived.Test.YtfkolemkmhcbfaaNaA
import Derived.StillTailTactics
import Derived.Deep.QuietTactic
import Derived.BigQuiet
import Derived.Outline
import Derived.Deep.Cut
import Derived.Deep.DeepMust
import Derived.IntWalk
import Derived.Deep.RegionHeld3
namespace Go.Proofs.Ytfkolemkmhcbfaa
open Go.RowKit Go.Maps Go.WideMaps
set_option linter.unusedVariables false

section
variable {W W' : World} {pn b1 b2 : Nat} {L : NL}
set_option maxHeartbeats 400000 in
theorem nfind_any (h : NmAt W pn b1 b2 L) (s : List UInt8) (hs : s.length ≤ maxLen) :
    Calls Try.prog 17 #[.pointer (some ⟨pn, 0, none⟩), .string ⟨s.toArray⟩] W fun e w' => e = .returned (.tuple #[.int .i64 ((get1 L s).getD 0), .bool (get1 L s).isSome]) ∧ W = w' := by
  have c0 := h.obj.cell 0
  have hl := h.look1 hs
  generalize (get1 L s).getD 0 = v at *
  generalize (get1 L s).isSome = q at *
  clear h
  go_enter Try.func17, Try.ntmps17
  go_wp2
  exact bodyPost_ret (v := .tuple #[.int .i64 v, .bool q]) (by simp [results, Try.results17, go_sem]) rfl ⟨rfl, rfl⟩
set_option maxHeartbeats 400000 in
theorem nof_any (h : NmAt W pn b1 b2 L) (p : Int) (hp : (Lit.int .i64 p).wf = true) :
    Calls Try.prog 19 #[.pointer (some ⟨pn, 0, none⟩), .int .i64 p] W fun e w' => e = .returned (.tuple #[.string ⟨((of1 L p).getD []).toArray⟩, .bool (of1 L p).isSome]) ∧ W = w' := by
  have c0 := h.obj.cell 1
  have hl := h.look2 hp
  generalize (of1 L p).getD [] = v at *
  generalize (of1 L p).isSome = q at *
  clear h
  go_enter Try.func19, Try.ntmps19
  go_wp2
  exact bodyPost_ret (v := .tuple #[.string ⟨v.toArray⟩, .bool q]) (by simp [results, Try.results19, go_sem]) rfl ⟨rfl, rfl⟩
set_option maxHeartbeats 400000 in
theorem nfind_nil (s : List UInt8) (W : World) :
    Calls Try.prog 17 #[.pointer none, .string ⟨s.toArray⟩] W fun e w' => e = .returned (.tuple #[.int .i64 0, .bool false]) ∧ W = w' := by
  go_enter Try.func17, Try.ntmps17
  go_wp2
  exact bodyPost_ret (v := .tuple #[.int .i64 0, .bool false]) (by simp [results, Try.results17, go_sem]) rfl ⟨rfl, rfl⟩
set_option maxHeartbeats 400000 in
theorem nof_nil (p : Int) (W : World) :
    Calls Try.prog 19 #[.pointer none, .int .i64 p] W fun e w' => e = .returned (.tuple #[.string ⟨#[]⟩, .bool false]) ∧ W = w' := by
  go_enter Try.func19, Try.ntmps19
  go_wp2
  exact bodyPost_ret (v := .tuple #[.string ⟨#[]⟩, .bool false]) (by simp [results, Try.results19, go_sem]) rfl ⟨rfl, rfl⟩
set_option maxHeartbeats 400000 in
theorem nadd_nil (s : List UInt8) (p : Int) (W : World) :
    Calls Try.prog 12 #[.pointer none, .string ⟨s.toArray⟩, .int .i64 p] W fun e w' => e = .returned (.int .i64 7) ∧ W = w' := by
  go_enter Try.func12, Try.ntmps12
  go_wp2
  go_ret
  exact ⟨rfl, rfl⟩
set_option maxHeartbeats 400000 in
theorem nremove_nil (s : List UInt8) (W : World) :
    Calls Try.prog 13 #[.pointer none, .string ⟨s.toArray⟩] W fun e w' => e = .returned (.bool false) ∧ W = w' := by
  go_enter Try.func13, Try.ntmps13
  go_wp2_with (go_at_call 17; refine (nfind_nil _ _).mono ?_; rintro e w' ⟨rfl, rfl⟩)
  go_ret
  exact ⟨rfl, rfl⟩
set_option maxHeartbeats 400000 in
theorem ndrop_nil (p : Int) (W : World) :
    Calls Try.prog 15 #[.pointer none, .int .i64 p] W fun e w' => e = .returned (.bool false) ∧ W = w' := by
  go_enter Try.func15, Try.ntmps15
  go_wp2_with (go_at_call 19; refine (nof_nil _ _).mono ?_; rintro e w' ⟨rfl, rfl⟩)
  go_ret
  exact ⟨rfl, rfl⟩
set_option maxHeartbeats 400000 in
theorem nall_nil (W : World) :
    Calls Try.prog 22 #[.pointer none] W fun e w' => e = .returned (.slice none 0 0) ∧ W = w' := by
  go_enter Try.func22, Try.ntmps22
  go_wp2
  go_ret
  exact ⟨rfl, rfl⟩

/-- What a method of names leaves. -/
def NEnd (pn b1 b2 : Nat) (W : World) (v : Value) (L' : NL) (e : Ending) (W' : World) : Prop := e = .returned v ∧ NmAt W' pn b1 b2 L' ∧ Fr (fun k => k = b1 ∨ k = b2) W W'
theorem NOk.len_eq {K : List (Int × List UInt8)} (h : NOk L K) : K.length = L.length := by
  have h1 : (L.map fun q => (q.2, q.1)).Perm K := by
    refine (List.perm_ext_iff_of_nodup ?_ ?_).2 fun q => ?_
    · exact List.pairwise_map.2 (h.apart.imp fun hne e => hne (congrArg Prod.snd e))
    · exact h.kd.imp fun hne e => hne (congrArg Prod.fst e)
    · obtain ⟨p, s⟩ := q
      rw [← h.iff s p, List.mem_map]
      constructor
      · rintro ⟨⟨a, b⟩, hm, he⟩
        simp only [Prod.mk.injEq] at he
        obtain ⟨rfl, rfl⟩ := he
        exact hm
      · exact fun hm => ⟨(s, p), hm, rfl⟩
  have := h1.length_eq
  simpa using this.symm

set_option maxRecDepth 100000 in
set_option maxHeartbeats 2000000 in
theorem nadd_any (h : NmAt W pn b1 b2 L) (s : List UInt8) (p : Int) (hs : s.length ≤ maxLen) (hp : (Lit.int .i64 p).wf = true) (hL : L.length < 1000000) :
    Calls Try.prog 12 #[.pointer (some ⟨pn, 0, none⟩), .string ⟨s.toArray⟩, .int .i64 p] W (NEnd pn b1 b2 W (.int .i64 ((addP L s p).1 : Int)) (addP L s p).2) := by
  have HL1 := Lib.hid (h.look1 hs)
  have HL2 := Lib.hid (h.look2 hp)
  have c0 := h.obj.cell 0
  have c1 := h.obj.cell 1
  by_cases hsn : s = []
  · have hE : addP L s p = (2, L) := by unfold addP; rw [if_pos (.inl hsn)]
    rw [hE]
    subst hsn
    have HH := Lib.hid h
    clear h hE
    go_enter Try.func12, Try.ntmps12
    go_wp2
    go_ret
    exact ⟨rfl, HH.out, Fr.refl _ _⟩
  · have d0 : s.isEmpty = false := by simp [hsn]
    by_cases hsl : 255 < s.length
    · have hE : addP L s p = (2, L) := by unfold addP; rw [if_pos (.inr hsl)]
      rw [hE]
      have HH := Lib.hid h
      clear h hE
      have d1 : decide ((255 : Int) < (s.length : Int)) = true := by simp; omega
      go_enter Try.func12, Try.ntmps12
      go_wp2
      go_ret
      exact ⟨rfl, HH.out, Fr.refl _ _⟩
    · have d1 : decide ((255 : Int) < (s.length : Int)) = false := by simp; omega
      cases h1 : get1 L s with
      | some p0 =>
        have hE : addP L s p = (8, L) := by unfold addP; rw [if_neg (by simp [hsn]; omega), if_pos (.inl (by rw [h1]; rfl))]
        rw [hE]
        rw [h1] at HL1
        have HH := Lib.hid h
        clear h hE
        simp only [Option.getD_some, Option.isSome_some] at HL1
        have hl1 := HL1.out
        have hl2 := HL2.out
        go_enter Try.func12, Try.ntmps12
        go_wp2
        go_ret
        exact ⟨rfl, HH.out, Fr.refl _ _⟩
      | none =>
        cases h2 : of1 L p with
        | some s0 =>
          have hE : addP L s p = (8, L) := by unfold addP; rw [if_neg (by simp [hsn]; omega), if_pos (.inr (by rw [h2]; rfl))]
          rw [hE]
          rw [h1] at HL1
          rw [h2] at HL2
          have HH := Lib.hid h
          clear h hE
          simp only [Option.getD_none, Option.isSome_none, Option.getD_some, Option.isSome_some] at HL1 HL2
          have hl1 := HL1.out
          have hl2 := HL2.out
          go_enter Try.func12, Try.ntmps12
          go_wp2
          go_ret
          exact ⟨rfl, HH.out, Fr.refl _ _⟩
        | none =>
          have hE : addP L s p = (0, ins1 (s, p) L) := by unfold addP; rw [if_neg (by simp [hsn]; omega), if_neg (by rw [h1, h2]; simp)]
          rw [hE]
          rw [h1] at HL1
          rw [h2] at HL2
          have HH := Lib.hid h
          clear h hE
          simp only [Option.getD_none, Option.isSome_none] at HL1 HL2
          have hl1 := HL1.out
          have hl2 := HL2.out
          go_enter Try.func12, Try.ntmps12
          obtain ⟨K, m1, m2, hok⟩ := HH.out.all
          have hk2 : get2 K p = none := by rw [hok.get2_of1, h2]
          obtain ⟨v0, st, w1, e1, hg1, hst1⟩ := entry_store (w := W.drew) m1 ks Try.underlying53 zi (by unfold maxLen; omega) (keyS hs) (plainElem_int Try.underlying2 hp)
          obtain ⟨w2, e2, m3, hg2⟩ := hst1 w1 rfl
          have hlK : K.length < 1000000 := by rw [hok.len_eq]; exact hL
          have hg12 := hg1.trans hg2
          have m2' : N2 w2 b2 K := World.ownsMap.kept (w := W.drew) m2 hg12 (fun e9 => HH.out.ne (Option.some.inj e9).symm)
          obtain ⟨v1, st1, w3, e3, hg3, hst3⟩ := entry_store m2' ki Try.underlying54 zs (by unfold maxLen; omega) (keyI hp) (plainElem_string (s := ⟨s.toArray⟩) Try.underlying9 (by simpa [ByteArray.size] using hs))
          obtain ⟨w4, e4, m4, hg4⟩ := hst3 w3 rfl
          have hg34 := hg3.trans hg4
          rw [put_dat1 h1] at m3
          rw [put_dat2 hk2] at m4
          have hNE := HH.out.pn_ne
          have hb0 : Blk W.drew pn 56 #[.map (some b1), .map (some b2)] := HH.out.obj
          have hbw1 := hb0.grown hg1 (fun e9 => hNE.1 (Option.some.inj e9))
          have hbw2 := hbw1.grown hg2 (fun e9 => hNE.1 (Option.some.inj e9))
          have hbw3 := hbw2.grown hg3 (fun e9 => hNE.2 (Option.some.inj e9))
          have hbw4 := hbw3.grown hg4 (fun e9 => hNE.2 (Option.some.inj e9))
          have hEND : Hid (NmAt w4 pn b1 b2 (ins1 (s, p) L) ∧ Fr (fun k => k = b1 ∨ k = b2) W w4) := by
            refine ⟨⟨hbw4, HH.out.ne, ins2 (p, s) K, ?_, ?_, hok.add hsn (by omega) hp h1 h2⟩, ?_⟩
            · unfold N1
              rw [len_ins1]
              exact World.ownsMap.kept m3 hg34 (fun e9 => HH.out.ne (Option.some.inj e9))
            · unfold N2
              rw [len_ins2]
              exact m4
            · exact ((Fr.refl _ W).drew.same (Fr.of_grown hg12 (fun k e9 _ => .inl (Option.some.inj e9).symm))).same (Fr.of_grown hg34 (fun k e9 _ => .inr (Option.some.inj e9).symm))
          simp only [goInt] at e1 e2 e3 e4
          have s0 : W.drew.cell? ⟨pn, 0, none⟩ = some (.map (some b1)) ∧ W.drew.cell? ⟨pn, 1, none⟩ = some (.map (some b2)) := ⟨hb0.cell 0, hb0.cell 1⟩
          have s1 : w1.cell? ⟨pn, 0, none⟩ = some (.map (some b1)) ∧ w1.cell? ⟨pn, 1, none⟩ = some (.map (some b2)) := ⟨hbw1.cell 0, hbw1.cell 1⟩
          have s2 : w2.cell? ⟨pn, 0, none⟩ = some (.map (some b1)) ∧ w2.cell? ⟨pn, 1, none⟩ = some (.map (some b2)) := ⟨hbw2.cell 0, hbw2.cell 1⟩
          have s3 : w3.cell? ⟨pn, 0, none⟩ = some (.map (some b1)) ∧ w3.cell? ⟨pn, 1, none⟩ = some (.map (some b2)) := ⟨hbw3.cell 0, hbw3.cell 1⟩
          have s4 : w4.cell? ⟨pn, 0, none⟩ = some (.map (some b1)) ∧ w4.cell? ⟨pn, 1, none⟩ = some (.map (some b2)) := ⟨hbw4.cell 0, hbw4.cell 1⟩
          clear hbw1 hbw2 hbw3 hbw4 hb0 m1 m2 m3 m4 m2' hg1 hg2 hg3 hg4 hg12 hg34 hst1 hst3 hok hk2 hNE hlK HH HL1 HL2
          go_upto_region 9 with (fail)
          clear hl1 hl2
          go_region_held3 (fun V => V.cell? ⟨pn, 0, none⟩ = some (.map (some b1)) ∧ V.cell? ⟨pn, 1, none⟩ = some (.map (some b2))) (first | exact s0 | exact s1 | exact s2 | exact s3 | exact s4) ((fail))
          all_goals
            go_wp2
            go_ret
            exact ⟨rfl, hEND.out⟩

set_option maxRecDepth 100000 in
set_option maxHeartbeats 2000000 in
theorem nremove_any (h : NmAt W pn b1 b2 L) (s : List UInt8) (hs : s.length ≤ maxLen) :
    Calls Try.prog 13 #[.pointer (some ⟨pn, 0, none⟩), .string ⟨s.toArray⟩] W (NEnd pn b1 b2 W (.bool (removeP L s).1) (removeP L s).2) := by
  have HF := Lib.hid (nfind_any h s hs)
  have c0 := h.obj.cell 0
  have c1 := h.obj.cell 1
  cases h1 : get1 L s with
  | none =>
    have hE : removeP L s = (false, L) := by unfold removeP; rw [h1, del1_none h1]; rfl
    rw [hE]
    rw [h1] at HF
    simp only [Option.getD_none, Option.isSome_none] at HF
    have HH := Lib.hid h
    clear h hE h1
    go_enter Try.func13, Try.ntmps13
    go_wp2_with (go_at_call 17; refine HF.out.mono ?_; rintro e w' ⟨rfl, rfl⟩)
    go_ret
    exact ⟨rfl, HH.out, Fr.refl _ _⟩
  | some p =>
    have hE : removeP L s = (true, del1 L s) := by unfold removeP; rw [h1]; rfl
    rw [hE]
    rw [h1] at HF
    simp only [Option.getD_some, Option.isSome_some] at HF
    have HH := Lib.hid h
    obtain ⟨K, m1, m2, hok⟩ := h.all
    have hmem := hok.get1_iff.1 h1
    have hp := (hok.nm _ hmem).2.2
    simp only at hp
    have M1 := Lib.hid m1
    have M2 := Lib.hid m2
    have HOK := Lib.hid (hok.del hmem)
    have hNE := h.pn_ne
    have HO := Lib.hid h.obj
    have HN := Lib.hid h.ne
    clear h hE h1 m1 m2 hok hmem
    go_enter Try.func13, Try.ntmps13
    go_wp2_with (first
      | (go_at_call 17; refine HF.out.mono ?_; rintro e w' ⟨rfl, rfl⟩)
      | (at_delete; refine wpList_delete_own _ rfl _ _ 53 9 rfl 2 ks Try.underlying53 _ b1 L.length (dat1 L) rfl M1.out _ _ rfl (keyS hs) ?_; intro w1 o1 t1; have k1 : w1.cell? ⟨pn, 1, none⟩ = some (.map (some b2)) := (HO.out.grown t1.grown (fun e9 => hNE.1 (Option.some.inj e9))).cell 1)
      | (at_delete; refine wpList_delete_own _ rfl _ _ 54 2 rfl 9 ki Try.underlying54 _ b2 K.length (dat2 K) rfl (World.ownsMap.kept M2.out t1.grown (fun e9 => HN.out (Option.some.inj e9).symm)) _ _ rfl (keyI hp) ?_; intro w2 o2 t2))
    go_ret
    refine ⟨rfl, ⟨(HO.out.grown t1.grown (fun e9 => hNE.1 (Option.some.inj e9))).grown t2.grown (fun e9 => hNE.2 (Option.some.inj e9)), HN.out, del2 K p, ?_, ?_, HOK.out⟩, (Fr.of_grown t1.grown (fun k e9 _ => .inl (Option.some.inj e9).symm)).same (Fr.of_grown t2.grown (fun k e9 _ => .inr (Option.some.inj e9).symm))⟩
    · rw [del_dat1] at o1
      have := owns_size (World.ownsMap.kept o1 t2.grown (fun e9 => HN.out (Option.some.inj e9)))
      rwa [size_dat1] at this
    · rw [del_dat2] at o2
      have := owns_size o2
      rwa [size_dat2] at this

set_option maxRecDepth 100000 in
set_option maxHeartbeats 2000000 in
theorem ndrop_any (h : NmAt W pn b1 b2 L) (p : Int) (hp : (Lit.int .i64 p).wf = true) :
    Calls Try.prog 15 #[.pointer (some ⟨pn, 0, none⟩), .int .i64 p] W (NEnd pn b1 b2 W (.bool (dropP L p).1) (dropP L p).2) := by
  have HF := Lib.hid (nof_any h p hp)
  cases h1 : of1 L p with
  | none =>
    have hE : dropP L p = (false, L) := by unfold dropP; rw [h1]
    rw [hE]
    rw [h1] at HF
    simp only [Option.getD_none, Option.isSome_none] at HF
    have HH := Lib.hid h
    clear h hE h1
    go_enter Try.func15, Try.ntmps15
    go_wp2_with (go_at_call 19; refine HF.out.mono ?_; rintro e w' ⟨rfl, rfl⟩)
    go_ret
    exact ⟨rfl, HH.out, Fr.refl _ _⟩
  | some s =>
    obtain ⟨K, hok⟩ := h.ok
    have hmem := of1_mem h1
    have hsl := (hok.nm _ hmem).2.1
    have hg := hok.get1_iff.2 hmem
    simp only at hsl
    have hE : dropP L p = (true, del1 L s) := by unfold dropP; rw [h1]
    have hE2 : removeP L s = (true, del1 L s) := by unfold removeP; rw [hg]; rfl
    have HR := Lib.hid (nremove_any h s (by unfold maxLen; omega))
    rw [hE]
    rw [hE2] at HR
    rw [h1] at HF
    simp only [Option.getD_some, Option.isSome_some] at HF
    have HH := Lib.hid h
    clear h hE h1 hE2 hok hmem hg
    go_enter Try.func15, Try.ntmps15
    go_wp2_with (first
      | (go_at_call 19; refine HF.out.mono ?_; rintro e w' ⟨rfl, rfl⟩)
      | (go_at_call 13; refine HR.out.mono ?_; rintro e w' ⟨rfl, hN, hFr⟩))
    go_ret
    exact ⟨rfl, hN, hFr⟩
end
end Go.Proofs.Ytfkolemkmhcbfaa
