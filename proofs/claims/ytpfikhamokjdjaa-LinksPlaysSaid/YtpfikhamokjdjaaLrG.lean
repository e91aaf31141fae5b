/- Links (layer 18): the document's Drop. -/
import Derived.Test.YtpfikhamokjdjaaLrF
namespace Go.Proofs.Ytpfikhamokjdjaa
open Go.RowKit Go.Sort
set_option linter.unusedVariables false

def leftP (a : Int) (ys : WL) : WL := ys.filter fun x => decide (x.to ≠ a) && decide (x.fr ≠ a)
theorem leftP_s {ys : WL} {a : Int} {j : Nat} (h : j < ys.length) : leftP a (ys.take (j + 1)) = leftP a (ys.take j) ++ (if ys[j].to ≠ a ∧ ys[j].fr ≠ a then [ys[j]] else []) := by
  unfold leftP
  rw [take_s ys j h, List.filter_append]
  congr 1
  by_cases h1 : ys[j].to = a <;> by_cases h2 : ys[j].fr = a <;> simp [h1, h2]
theorem leftP_eq {L : PL} {K : WL} (h : LOk L K) (a : Int) : leftP a (wsP K) = wsP (onK a K) := by
  refine wsP_eq ?_ ((wsP_ord h.knd).sublist List.filter_sublist)
  have e : leftP a (wsP K) = (wsP K).filter fun z => !hitW a z := by
    unfold leftP
    refine List.filter_congr fun x _ => ?_
    unfold hitW
    by_cases h1 : x.to = a <;> by_cases h2 : x.fr = a <;> simp [h1, h2]
  rw [e]
  exact (wsP_perm K).filter _
/-- Loop 2 on its way. -/
structure RdR (V2 : World) (a : Int) (ys : WL) (j j2 : Nat) (u v : Value) (wr : World) : Prop where
  told : wr.ownsRow V2.heap.size 33 3 u (toldP a (ys.take j)).length ((toldP a (ys.take j)).flatMap encW)
  left : wr.ownsRow V2.heap.size 33 3 v (leftP a (ys.take j2)).length ((leftP a (ys.take j2)).flatMap encW)
  ne : ∀ g, u.ownBlock = some g → v.ownBlock ≠ some g
  bel : Below V2.heap.size V2 wr
section
variable {V2 wr V w3 : World} {a : Int} {ys : WL} {j j2 : Nat} {u v u' : Value}
theorem RdR.keep (h : RdR V2 a ys j j2 u v wr) (hb : Below wr.heap.size wr V) : RdR V2 a ys j j2 u v V := ⟨own_bel h.told hb, own_bel h.left hb, h.ne, h.bel.trans (hb.mono h.bel.size)⟩
theorem RdR.addT (h : RdR V2 a ys j j2 u v wr) (hb : Below wr.heap.size wr V) (hj : j < ys.length) (ht : ys[j].to = a)
    (ho : w3.ownsRow V2.heap.size 33 3 u' ((toldP a (ys.take j)).length + 1) ((toldP a (ys.take j)).flatMap encW ++ encW ys[j])) (hg : V.grownBy w3 u.ownBlock) (hat : u'.ownBlock = u.ownBlock ∨ u'.ownBlock = some V.heap.size) : RdR V2 a ys (j + 1) j2 u' v w3 := by
  have h9 := h.keep hb
  have hr : ∀ k, u.ownBlock = some k → V2.heap.size ≤ k := fun k e => (World.ownsRow.lt h9.told k e).1
  have hlt : ∀ k, v.ownBlock = some k → k < V.heap.size := fun k e => (World.ownsRow.lt h9.left k e).2
  refine ⟨?_, h9.left.kept hg ?_, fun g e e2 => ?_, h9.bel.grown hg h9.bel.size hr⟩
  · rw [toldP_s hj, if_pos ht, List.length_append, List.flatMap_append]
    simpa using ho
  · cases hv : v.ownBlock with
    | none => exact .inl rfl
    | some g => exact .inr (fun e => h.ne g e.symm hv)
  · rcases hat with h8 | h8
    · exact h.ne g (h8.symm.trans e) e2
    · have := hlt g e2
      rw [h8] at e
      injection e with e
      omega
theorem RdR.noT (h : RdR V2 a ys j j2 u v wr) (hj : j < ys.length) (ht : ys[j].to ≠ a) : RdR V2 a ys (j + 1) j2 u v wr := by
  refine ⟨?_, h.left, h.ne, h.bel⟩
  rw [toldP_s hj, if_neg ht, List.append_nil]
  exact h.told
theorem RdR.addL (h : RdR V2 a ys j2 j u v wr) (hb : Below wr.heap.size wr V) (hj : j < ys.length) (ht : ys[j].to ≠ a ∧ ys[j].fr ≠ a)
    (ho : w3.ownsRow V2.heap.size 33 3 u' ((leftP a (ys.take j)).length + 1) ((leftP a (ys.take j)).flatMap encW ++ encW ys[j])) (hg : V.grownBy w3 v.ownBlock) (hat : u'.ownBlock = v.ownBlock ∨ u'.ownBlock = some V.heap.size) : RdR V2 a ys j2 (j + 1) u u' w3 := by
  have h9 := h.keep hb
  have hr : ∀ k, v.ownBlock = some k → V2.heap.size ≤ k := fun k e => (World.ownsRow.lt h9.left k e).1
  have hlt : ∀ k, u.ownBlock = some k → k < V.heap.size := fun k e => (World.ownsRow.lt h9.told k e).2
  refine ⟨h9.told.kept hg ?_, ?_, fun g e e2 => ?_, h9.bel.grown hg h9.bel.size hr⟩
  · cases hv : u.ownBlock with
    | none => exact .inl rfl
    | some g => exact .inr (fun e => h.ne g hv e.symm)
  · rw [leftP_s hj, if_pos ht, List.length_append, List.flatMap_append]
    simpa using ho
  · rcases hat with h8 | h8
    · exact h.ne g e (h8.symm.trans e2)
    · have := hlt g e
      rw [h8] at e2
      injection e2 with e2
      omega
theorem RdR.noL (h : RdR V2 a ys j2 j u v wr) (hj : j < ys.length) (ht : ¬ (ys[j].to ≠ a ∧ ys[j].fr ≠ a)) : RdR V2 a ys j2 (j + 1) u v wr := by
  refine ⟨h.told, ?_, h.ne, h.bel⟩
  rw [leftP_s hj, if_neg ht, List.append_nil]
  exact h.left
end
section
variable {W V : World} {B pr cP cW : Nat} {AP AW : Option Addr} {P L : PL} {K M : WL}
def RDEnds (W : World) (B pr : Nat) (L : PL) (K : WL) (a : Int) (e : Ending) (w' : World) : Prop :=
  ∃ v1 v2, e = .returned (.tuple #[v1, v2]) ∧ w'.ownsRow W.heap.size 2 1 v1 (ofP L a).length ((ofP L a).map (Value.int .i64)) ∧ w'.ownsRow W.heap.size 33 3 v2 (toldP a (wsP K)).length ((toldP a (wsP K)).flatMap encW) ∧
    (∃ AP cP AW cW, RK w' B pr AP cP AW cW (psP (offP a L)) (wsP (onK a K))) ∧ Fr (fun k => k = pr) W w'
set_option maxRecDepth 100000 in
set_option maxHeartbeats 8000000 in
theorem rdrop_v (h : RK W B pr AP cP AW cW (psP L) (wsP K)) (hok : LOk L K) (hB : B ≤ W.heap.size) (a : Int) (ha : i64ok a) (hL : L.length ≤ 400000) (hK : K.length ≤ 400000) :
    Calls Try.prog 25 #[.pointer (some ⟨pr, 0, none⟩), .int .i64 a] W (RDEnds W B pr L K a) := by
  have HOK := Lib.hid hok
  have HH := Lib.hid h
  have HA := Lib.hid ha
  have HB := Lib.hid hB
  have HOF := Lib.hid (rof_w h hok a hL)
  have hpw := h.obj.lt
  have HUN := Lib.hid (unlL_all hok ha)
  obtain ⟨zs, hzs⟩ : ∃ zs, ofP L a = zs := ⟨_, rfl⟩
  have HZO : Hid (∀ z ∈ zs, i64ok z) := fun z hz => by rw [← hzs] at hz; exact ofP_ok hok hz
  have HZL := Lib.hid (show zs.length ≤ 400000 by rw [← hzs]; exact Nat.le_trans ofP_len hL)
  have HZS := Lib.hid hzs
  rw [hzs] at HOF HUN
  obtain ⟨m, hm⟩ : ∃ m, zs.length = m := ⟨_, rfl⟩
  have HM := Lib.hid hm
  have hmb : m ≤ 400000 := by have := HZL.out; omega
  have HLL := Lib.hid hL
  have HLF := Lib.hid (leftP_eq hok a)
  obtain ⟨ys, hys⟩ : ∃ ys, wsP K = ys := ⟨_, rfl⟩
  have HYS := Lib.hid hys
  obtain ⟨q, hq⟩ : ∃ q, ys.length = q := ⟨_, rfl⟩
  have HQ := Lib.hid hq
  have hqb : q ≤ 400000 := by rw [← hq, ← hys, (wsP_perm K).length_eq]; exact hK
  rw [hys] at HLF HH
  have HOF2 : Hid (Calls Try.prog 26 #[.pointer (some ⟨pr, 0, none⟩), .int .i64 a] W fun e w' => ∃ A c, e = .returned (.slice A m c) ∧ w'.ownsRow W.heap.size 2 1 (.slice A m c) m (zs.map (Value.int .i64)) ∧ Below W.heap.size W w') := HOF.out.mono fun e w' h9 => by
    obtain ⟨v, rfl, h1, h2⟩ := h9
    rw [HM.out] at h1
    obtain ⟨A, c, rfl⟩ := own_slice9 h1
    exact ⟨A, c, rfl, h1, h2⟩
  have HLD : Hid (∀ k : Nat, (unlL L a (zs.take k)).length ≤ L.length) := fun k => by
    have key : ∀ (bs : List Int) (M : PL), (unlL M a bs).length ≤ M.length := fun bs => by
      induction bs with
      | nil => intro M; exact Nat.le_refl _
      | cons b r ih =>
        intro M
        refine Nat.le_trans (ih _) ?_
        show (unlinkP M a b).2.length ≤ M.length
        unfold unlinkP
        split
        · exact List.length_filter_le _ _
        · exact Nat.le_refl _
    exact key _ _
  clear h hok ha hB hL hK hzs hm hys hq HOF
  go_enter Try.func25, Try.ntmps25
  go_wp2_with (go_at_call 26; refine HOF2.out.mono ?_; rintro e V1 ⟨Az, cz, rfl, hr1, hb1⟩; have HR1 := Lib.hid hr1; have HB1 := Lib.hid hb1; clear hr1 hb1)
  go_loopw [7] (fun i wr => ∃ k : Nat, k ≤ m ∧ i = .int .i64 (k : Int) ∧ (∃ AP cP AW cW, RK wr B pr AP cP AW cW (psP (unlL L a (zs.take k))) ys) ∧ Fr (fun k => k = pr) V1 wr) (fun i _ => m + 1 - (intOf i).toNat)
  case atStart => exact ⟨0, Nat.zero_le _, rfl, ⟨_, _, _, _, HH.out.keep HB1.out⟩, .refl _ _⟩
  case round =>
    obtain ⟨k, hk, rfl, hrk, hfr⟩ := hrel
    have HRK := Lib.hid hrk
    have HFR := Lib.hid hfr
    have HRW := Lib.hid (own_fr9 HR1.out hfr (fun g hg hF => by have h9 := (World.ownsRow.lt HR1.out g hg).1; omega))
    clear hrk hfr
    by_cases hlt : k < m
    · have hlt' : decide (k < m) = true := by simpa using hlt
      have hkz : k < zs.length := by rw [HM.out]; exact hlt
      obtain ⟨g, rfl, hcz⟩ := own_at9 (g := 0) (c := cz) HRW.out (by omega)
      have z0 := cellI HRW.out hkz HM.out
      have HNX := Lib.hid (show (unlinkP (unlL L a (zs.take k)) a zs[k]).2 = unlL L a (zs.take (k + 1)) by unfold unlL; rw [take_s zs k hkz, List.foldl_append]; rfl)
      have HZ := Lib.hid (HZO.out _ (List.getElem_mem hkz))
      generalize zs[k] = z at z0 HNX HZ
      obtain ⟨AP1, cP1, AW1, cW1, hrk1⟩ := HRK.out
      have HUL := Lib.hid (runlink_w hrk1 (unlL_ok HOK.out a (zs.take k)) (Nat.le_trans HB.out (Nat.le_trans HB1.out.size HFR.out.size)) a z HA.out HZ.out (Nat.le_trans (HLD.out k) HLL.out))
      have q1 : (0 : Int) ≤ (k : Int) := by omega
      have q2 : (k : Int) < (m : Int) := by omega
      clear hrk1
      go_wp2_with (go_at_call 22; refine HUL.out.mono ?_; rintro e U1 ⟨rfl, A5, c5, A6, c6, hx, hf⟩; rw [HNX.out] at hx; have HX := Lib.hid hx; have HF := Lib.hid (HFR.out.same hf); clear hx hf)
      go_roundw
      case rel => exact ⟨k + 1, hlt, by go_num, ⟨_, _, _, _, HX.out⟩, HF.out⟩
      case measure => simp [intOf]; omega
    · obtain rfl : m = k := by omega
      have hd1 : decide (m < m) = false := by simp
      have htk : zs.take m = zs := List.take_of_length_le (by rw [HM.out]; exact Nat.le_refl _)
      have hrk := HRK.out
      rw [htk, HUN.out] at hrk
      obtain ⟨AP1, cP1, AW1, cW1, hrk1⟩ := hrk
      have HRK1 := Lib.hid hrk1
      have HF0 := Lib.hid ((Fr.of_below HB1.out (fun k => k = pr)).same HFR.out)
      clear htk hrk1 HRK
      go_wp2
      obtain ⟨V2, hV2⟩ : ∃ V2, V2 = wr := ⟨_, rfl⟩
      rw [← hV2] at HRK1 HF0 HRW ⊢
      clear hV2 HFR
      go_loopw [8, 9, 10, 11] (fun u v i _ wx => ∃ j : Nat, j ≤ q ∧ i = .int .i64 (j : Int) ∧ RdR V2 a ys j j u v wx) (fun _ _ i _ _ => q + 1 - (intOf i).toNat)
      case atStart => exact ⟨0, Nat.zero_le _, rfl, World.ownsRow_nil _ _ _ _, World.ownsRow_nil _ _ _ _, (fun g e => by cases e), Below.refl _ _⟩
      case round =>
        obtain ⟨j, hj, rfl, hdr⟩ := hrel
        have HDR := Lib.hid hdr
        have hrk2 := HRK1.out.keep hdr.bel
        have m1 := hrk2.obj.cell 1
        rw [HQ.out] at m1
        have hrw2 := hrk2.w
        rw [HQ.out] at hrw2
        have HRW2 := Lib.hid hrw2
        have HPL := Lib.hid (show pr < wr.heap.size from hrk2.obj.lt)
        clear hdr hrk2 hrw2
        by_cases hlt2 : j < q
        · have hlt2' : decide (j < q) = true := by simpa using hlt2
          have hjy : j < ys.length := by rw [HQ.out]; exact hlt2
          obtain ⟨g, rfl, hcw⟩ := own_at9 (g := 0) (c := cW1) HRW2.out (by omega)
          obtain ⟨z0, z1, z2⟩ := cellW HRW2.out hjy HQ.out
          obtain ⟨x, hx⟩ : ∃ x, ys[j] = x := ⟨_, rfl⟩
          rw [hx] at z0 z1 z2
          have HXE := Lib.hid hx
          have q1 : (0 : Int) ≤ (j : Int) := by omega
          have q2 : (j : Int) < (q : Int) := by omega
          have HTL := Lib.hid (show (toldP a (ys.take j)).length ≤ 400000 by
            have h1 : (toldP a (ys.take j)).length ≤ (ys.take j).length := List.length_filter_le _ _
            rw [List.length_take] at h1
            omega)
          have HTM := Lib.hid (show (leftP a (ys.take j)).length ≤ 400000 by
            have h1 : (leftP a (ys.take j)).length ≤ (ys.take j).length := List.length_filter_le _ _
            rw [List.length_take] at h1
            omega)
          obtain ⟨gx, hgx⟩ : ∃ gx, wr.heap.size = gx := ⟨_, rfl⟩
          have hsz2 : g < wr.heap.size := (World.ownsRow.lt HRW2.out g rfl).2
          have hpl2 := HPL.out
          have HBL : Hid (∀ k, u8.ownBlock = some k → k < gx) := fun k e => by have := (World.ownsRow.lt HDR.out.told k e).2; omega
          have HBL2 : Hid (∀ k, u9.ownBlock = some k → k < gx) := fun k e => by have := (World.ownsRow.lt HDR.out.left k e).2; omega
          clear hx
          go_upto_region 12 with (fail)
          refine wp_world (fun V => RdR V2 a ys j j u8 u9 V ∧ Blk V gx 33 #[.int .i64 x.ref, .int .i64 x.fr, .int .i64 x.to]) ⟨HDR.out.keep (below_alloc _ _), Blk.newAt9 hgx⟩ ?_
          clear HDR hgx z0 z1 z2 hsz2 hpl2 m1
          rintro V ⟨hdv, hbk⟩
          have HDV := Lib.hid hdv
          have HBK := Lib.hid hbk
          have HSV := Lib.hid (show V2.heap.size ≤ V.heap.size from hdv.bel.size)
          have g0 := hbk.cell 0
          have g1 := hbk.cell 1
          have g2 := hbk.cell 2
          clear hdv hbk
          by_cases c1 : x.to = a
          · have HTA := Lib.hid c1
            have d1 : (x.to == a) = true := by simpa using c1
            have d1' : (x.to != a) = false := by simpa using c1
            clear c1
            go_upto_region 13 with (fail)
            go_wp2_with (at_builtin; (refine wpList_app watchT rfl (.tmp 48) (.tmp 50) rfl V2.heap.size u8 _ _ rfl (own_bel HDV.out.told (below_alloc V _)) (some ⟨V.heap.size, 0, none⟩) 1 1 (encW x) rfl rfl (cs_blk9 (Blk.new V _ _)) (by simp [encW, Value.oneCell']) (by unfold maxLen; have := HTL.out; omega) (by have := HTL.out; omega) (by have := HSV.out; simp; omega) ?_); intro v3 w3 ho3 hg3 hat3; have HD2 := Lib.hid ((HDV.out.addT (below_alloc V _) hjy (by rw [HXE.out]; exact HTA.out) (by rw [HXE.out]; exact ho3) hg3 hat3).noL hjy (fun h9 => h9.1 (by rw [HXE.out]; exact HTA.out))); have hbk2 := (HBK.out.alloc _).grown hg3 (fun e => by have h9 := HBL.out gx e.symm; omega); clear g0 g1 g2; have g0 := hbk2.cell 0; have g1 := hbk2.cell 1; have g2 := hbk2.cell 2; clear ho3 hg3 hat3 hbk2)
            clear g0 g1 g2 d1 d1'
            go_roundw
            case rel => exact ⟨j + 1, hlt2, by go_num, HD2.out⟩
            case measure => simp [intOf]; omega
          · have d1 : (x.to == a) = false := by simpa using c1
            have d1' : (x.to != a) = true := by simpa using c1
            by_cases c2 : x.fr = a
            · have d2 : (x.fr != a) = false := by simpa using c2
              have HD2 := Lib.hid ((HDV.out.noT hjy (by rw [HXE.out]; exact c1)).noL hjy (fun h9 => h9.2 (by rw [HXE.out]; exact c2)))
              clear c1 c2
              go_wp2
              clear g0 g1 g2 d1 d1' d2
              go_roundw
              case rel => exact ⟨j + 1, hlt2, by go_num, HD2.out⟩
              case measure => simp [intOf]; omega
            · have d2 : (x.fr != a) = true := by simpa using c2
              have HC := Lib.hid (And.intro c1 c2)
              clear c1 c2
              go_upto_region 15 with (fail)
              go_wp2_with (at_builtin; (refine wpList_app watchT rfl (.tmp 62) (.tmp 64) rfl V2.heap.size u9 _ _ rfl (own_bel HDV.out.left (below_alloc V _)) (some ⟨V.heap.size, 0, none⟩) 1 1 (encW x) rfl rfl (cs_blk9 (Blk.new V _ _)) (by simp [encW, Value.oneCell']) (by unfold maxLen; have := HTM.out; omega) (by have := HTM.out; omega) (by have := HSV.out; simp; omega) ?_); intro v3 w3 ho3 hg3 hat3; have HD2 := Lib.hid ((HDV.out.noT hjy (by rw [HXE.out]; exact HC.out.1)).addL (below_alloc V _) hjy (by rw [HXE.out]; exact HC.out) (by rw [HXE.out]; exact ho3) hg3 hat3); clear ho3 hg3 hat3)
              clear g0 g1 g2 d1 d1' d2
              go_roundw
              case rel => exact ⟨j + 1, hlt2, by go_num, HD2.out⟩
              case measure => simp [intOf]; omega
        · obtain rfl : q = j := by omega
          have hd2 : decide (q < q) = false := by simp
          have htk2 : ys.take q = ys := List.take_of_length_le (by rw [HQ.out]; exact Nat.le_refl _)
          have hdr := HDR.out
          have h1 := hdr.told
          have h2 := hdr.left
          rw [htk2] at h1 h2
          rw [HLF.out] at h2
          have HT9 := Lib.hid h1
          have HL9 := Lib.hid h2
          have HN9 := Lib.hid hdr.ne
          clear h1 h2
          have HRK9 := Lib.hid (HRK1.out.keep HDR.out.bel)
          have HZR := Lib.hid (own_bel HRW.out HDR.out.bel)
          have HBE := Lib.hid HDR.out.bel
          have hpf := HRK9.out.obj.frozen 1
          have hpl2 := HPL.out
          clear htk2 hdr HDR
          obtain ⟨At, ct, rfl⟩ := own_slice9 HT9.out
          obtain ⟨Al, cl, rfl⟩ := own_slice9 HL9.out
          have HSW := Lib.hid (HRK1.out.setW (Nat.le_trans HB.out HF0.out.size) HBE.out HL9.out rfl)
          have HKT : Hid (∀ u : Value, wr.grownBy (wr.setCell ⟨pr, 1, none⟩ u) (some pr)) := fun u => grown_setCell (grown_refl _ (some pr)) (p := ⟨pr, 1, none⟩) (.inl rfl) _
          have HT8 := Lib.hid (fun u => World.ownsRow.kept HT9.out (HKT.out u) (by
            cases h9 : (Value.slice At (toldP a ys).length ct).ownBlock with
            | none => exact .inl rfl
            | some g => exact .inr (fun e => by injection e with e; have h8 := (World.ownsRow.lt HT9.out g h9).1; have := HF0.out.size; omega)))
          have HZ8 := Lib.hid (fun u => World.ownsRow.kept HZR.out (HKT.out u) (by
            cases h9 : (Value.slice Az m cz).ownBlock with
            | none => exact .inl rfl
            | some g => exact .inr (fun e => by injection e with e; have h8 := (World.ownsRow.lt HZR.out g h9).1; omega)))
          generalize (wsP (onK a K)).length = nl at *
          go_wp2
          go_ret2
          refine ⟨_, _, rfl, ?_, ?_, ⟨_, _, _, _, HSW.out.1⟩, HF0.out.same HSW.out.2⟩
          · rw [HZS.out, HM.out]
            exact HZ8.out _
          · rw [HYS.out]
            exact own_low9 (HT8.out _) HF0.out.size
end
end Go.Proofs.Ytpfikhamokjdjaa
