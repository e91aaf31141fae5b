/- Links (layer 18): Drop. -/
import Derived.Test.YtpfikhamokjdjaaLkP
namespace Go.Proofs.Ytpfikhamokjdjaa
open Go.RowKit Go.Maps Go.WideMaps Go.Shelf Go.Sort
set_option linter.unusedVariables false

def unlL (L : PL) (a : Int) (bs : List Int) : PL := bs.foldl (fun L b => (unlinkP L a b).2) L
def hitW (a : Int) (x : WV) : Bool := decide (x.to = a) || decide (x.fr = a)
def drpW (a : Int) (K : WL) (x : WV) : WL := if hitW a x = true then delG keyW K (.int .i64 x.ref) else K
def drpK (K : WL) (a : Int) (ys : WL) : WL := ys.foldl (drpW a) K
def toldP (a : Int) (ys : WL) : WL := ys.filter fun x => decide (x.to = a)
theorem unlL_ok {L : PL} {K : WL} (h : LOk L K) (a : Int) (bs : List Int) : LOk (unlL L a bs) K := by
  unfold unlL
  induction bs generalizing L with
  | nil => exact h
  | cons b r ih =>
    rw [List.foldl_cons]
    refine ih ?_
    unfold unlinkP
    split
    · exact h.del _
    · exact h
theorem mem_ofP {L : PL} {a z : Int} : z ∈ ofP L a ↔ ∃ p ∈ L, othP a p = some z := by
  unfold ofP
  rw [List.mem_mergeSort, List.mem_filterMap]
theorem ofP_ok {L : PL} {K : WL} (h : LOk L K) {a z : Int} (hz : z ∈ ofP L a) : i64ok z := by
  obtain ⟨p, hp, ho⟩ := mem_ofP.1 hz
  obtain ⟨_, h1, h2⟩ := h.ok p hp
  unfold othP at ho
  split at ho
  · cases ho; exact h2
  · split at ho
    · cases ho; exact h1
    · cases ho
theorem ofP_len {L : PL} {a : Int} : (ofP L a).length ≤ L.length := by
  unfold ofP
  rw [List.length_mergeSort]
  exact List.length_filterMap_le _ _
theorem take_s {α : Type} (l : List α) (k : Nat) (h : k < l.length) : l.take (k + 1) = l.take k ++ [l[k]] := by rw [List.take_succ_eq_append_getElem h]
theorem own_fr9 {W W' : World} {base e size n : Nat} {v : Value} {cs : List Value} {F : Nat → Prop} (ho : W.ownsRow base e size v n cs) (hf : Fr F W W') (hg : ∀ g, v.ownBlock = some g → ¬ F g) : W'.ownsRow base e size v n cs := by
  refine ⟨ho.1, ?_⟩
  rcases ho.2 with h | ⟨g, cap, cur, hv, hb, hh, h1, h2, h3, h4⟩
  · exact .inl h
  · exact .inr ⟨g, cap, cur, hv, hb, (hf.block g (Array.getElem?_eq_some_iff.1 hh).1 (hg g (by rw [hv]; rfl))).trans hh, h1, h2, h3, h4⟩
section
variable {w0 W V : World} {pm b1 b2 n : Nat} {L : PL} {K : WL}
theorem LK.grown (h : LK w0 W pm b1 b2 n L K) {row : Option Nat} (hg : W.grownBy V row) (hr : ∀ k, row = some k → w0.heap.size ≤ k ∧ k ≠ pm ∧ k ≠ b1 ∧ k ≠ b2) : LK w0 V pm b1 b2 n L K :=
  { h with
    old := h.old.trans (below_of_grown2 hg h.old.size (fun k e => (hr k e).1))
    obj := h.obj.grown hg (fun e => (hr _ e.symm).2.1 rfl)
    p := h.p.grown hg (fun e => (hr _ e.symm).2.2.1 rfl)
    w := h.w.grown hg (fun e => (hr _ e.symm).2.2.2 rfl)
    hi := ⟨Nat.lt_of_lt_of_le h.hi.1 hg.size, Nat.lt_of_lt_of_le h.hi.2.1 hg.size, Nat.lt_of_lt_of_le h.hi.2.2 hg.size⟩ }
/-- Drop's end. -/
def DrEnds (w0 W : World) (pm b1 b2 n : Nat) (L : PL) (K : WL) (a : Int) (e : Ending) (w' : World) : Prop :=
  ∃ v1 v2 ys, e = .returned (.tuple #[v1, v2]) ∧ List.Perm ys K ∧ wsOrd ys ∧ w'.ownsRow W.heap.size 2 1 v1 (ofP L a).length ((ofP L a).map (Value.int .i64)) ∧
    w'.ownsRow W.heap.size 33 3 v2 (toldP a ys).length ((toldP a ys).flatMap encW) ∧ LK w0 w' pm b1 b2 n (unlL L a (ofP L a)) (drpK K a ys) ∧ Fr (fun k => k = b1 ∨ k = b2) W w'
theorem cellI {W : World} {base g cap n : Nat} {zs : List Int} (h : W.ownsRow base 2 1 (.slice (some ⟨g, 0, none⟩) n cap) n (zs.map (Value.int .i64))) {k : Nat} (hk : k < zs.length) (hn : zs.length = n) : W.cell? ⟨g, k, none⟩ = some (.int .i64 zs[k]) := by
  have := h.cellAt k (by omega)
  rw [this]
  simp [hk]
/-- Loop 2 on its way. -/
structure DrR (w0 V2 : World) (pm b1 b2 n : Nat) (L1 : PL) (K : WL) (a : Int) (ys : WL) (jk j : Nat) (u : Value) (wr : World) : Prop where
  lk : LK w0 wr pm b1 b2 n L1 (drpK K a (ys.take jk))
  row : wr.ownsRow V2.heap.size 33 3 u (toldP a (ys.take j)).length ((toldP a (ys.take j)).flatMap encW)
  fr : Fr (fun k => k = b1 ∨ k = b2 ∨ V2.heap.size ≤ k) V2 wr
section
variable {V2 wr w3 : World} {L1 : PL} {a : Int} {ys : WL} {jk j : Nat} {u u' : Value}
theorem DrR.keep (h : DrR w0 V2 pm b1 b2 n L1 K a ys jk j u wr) (hb : Below wr.heap.size wr V) : DrR w0 V2 pm b1 b2 n L1 K a ys jk j u V := ⟨h.lk.keep hb, own_bel h.row hb, h.fr.same (Fr.of_below hb _)⟩
theorem toldP_s (h : j < ys.length) : toldP a (ys.take (j + 1)) = toldP a (ys.take j) ++ (if ys[j].to = a then [ys[j]] else []) := by
  unfold toldP
  rw [take_s ys j h, List.filter_append]
  congr 1
  by_cases h9 : ys[j].to = a <;> simp [h9]
theorem drpK_s (h : j < ys.length) : drpK K a (ys.take (j + 1)) = drpW a (drpK K a (ys.take j)) ys[j] := by
  unfold drpK
  rw [take_s ys j h, List.foldl_append]
  rfl
theorem DrR.told (h : DrR w0 V2 pm b1 b2 n L1 K a ys jk j u wr) (hb : Below wr.heap.size wr V) (hV2 : w0.heap.size ≤ V2.heap.size ∧ pm < V2.heap.size ∧ b1 < V2.heap.size ∧ b2 < V2.heap.size) (hj : j < ys.length) (ht : ys[j].to = a)
    (ho : w3.ownsRow V2.heap.size 33 3 u' ((toldP a (ys.take j)).length + 1) ((toldP a (ys.take j)).flatMap encW ++ encW ys[j])) (hg : V.grownBy w3 u.ownBlock) : DrR w0 V2 pm b1 b2 n L1 K a ys jk (j + 1) u' w3 := by
  have h9 := h.keep hb
  have hr : ∀ k, u.ownBlock = some k → V2.heap.size ≤ k := fun k e => (World.ownsRow.lt h9.row k e).1
  refine ⟨h9.lk.grown hg (fun k e => by have := hr k e; omega), ?_, h9.fr.same (Fr.of_grown hg (fun k e _ => .inr (.inr (hr k e))))⟩
  rw [toldP_s hj, if_pos ht, List.length_append, List.flatMap_append]
  simpa using ho
theorem DrR.untold (h : DrR w0 V2 pm b1 b2 n L1 K a ys jk j u wr) (hj : j < ys.length) (ht : ys[j].to ≠ a) : DrR w0 V2 pm b1 b2 n L1 K a ys jk (j + 1) u wr := by
  refine ⟨h.lk, ?_, h.fr⟩
  rw [toldP_s hj, if_neg ht, List.append_nil]
  exact h.row
theorem DrR.del (h : DrR w0 V2 pm b1 b2 n L1 K a ys j (j + 1) u wr) (hj : j < ys.length) (hh : hitW a ys[j] = true) (hV2 : w0.heap.size ≤ V2.heap.size ∧ pm < V2.heap.size ∧ b1 < V2.heap.size ∧ b2 < V2.heap.size) (hg : wr.grownBy V (some b2)) (hm : WM V b2 n (delG keyW (drpK K a (ys.take j)) (.int .i64 ys[j].ref))) : DrR w0 V2 pm b1 b2 n L1 K a ys (j + 1) (j + 1) u V := by
  obtain ⟨k1, k2⟩ := h.lk.turnW (Nat.le_refl n) hg hm (h.lk.lk.delW _)
  refine ⟨?_, own_fr9 h.row k2 (fun g hg hF => by have := (World.ownsRow.lt h.row g hg).1; omega), h.fr.same (k2.weak fun k _ hk => by omega)⟩
  rw [drpK_s hj]
  unfold drpW
  rw [if_pos hh]
  exact k1
theorem DrR.undel (h : DrR w0 V2 pm b1 b2 n L1 K a ys j (j + 1) u wr) (hj : j < ys.length) (hh : hitW a ys[j] = false) : DrR w0 V2 pm b1 b2 n L1 K a ys (j + 1) (j + 1) u wr := by
  refine ⟨?_, h.row, h.fr⟩
  rw [drpK_s hj]
  unfold drpW
  rw [if_neg (by simp [hh])]
  exact h.lk
end
theorem cellW {W : World} {base g cap n : Nat} {zs : WL} (h : W.ownsRow base 33 3 (.slice (some ⟨g, 0, none⟩) n cap) n (zs.flatMap encW)) {k : Nat} (hk : k < zs.length) (hn : zs.length = n) :
    W.cell? ⟨g, k * 3, none⟩ = some (.int .i64 zs[k].ref) ∧ W.cell? ⟨g, k * 3 + 1, none⟩ = some (.int .i64 zs[k].fr) ∧ W.cell? ⟨g, k * 3 + 2, none⟩ = some (.int .i64 zs[k].to) := by
  have key : ∀ j, j < 3 → W.cell? ⟨g, k * 3 + j, none⟩ = (encW zs[k])[j]? := fun j hj => by
    rw [h.cellAt (k * 3 + j) (by omega), flat_get (enc := encW) (k := 3) (fun _ => rfl) zs (k * 3 + j) (by omega)]
    have e1 : (k * 3 + j) / 3 = k := by omega
    have e2 : (k * 3 + j) % 3 = j := by omega
    rw [e1, e2, getElem!_pos zs k hk]
  exact ⟨key 0 (by omega), key 1 (by omega), key 2 (by omega)⟩
set_option maxRecDepth 100000 in
set_option maxHeartbeats 4000000 in
theorem drop_v (h : LK w0 W pm b1 b2 n L K) (a : Int) (ha : i64ok a) (hL : L.length ≤ 1000000) (hK : K.length ≤ 1000000) :
    Calls Try.prog 12 #[.pointer (some ⟨pm, 0, none⟩), .int .i64 a] W (DrEnds w0 W pm b1 b2 n L K a) := by
  have HH := Lib.hid h
  have HA := Lib.hid ha
  have HKL := Lib.hid hK
  have HOF := Lib.hid (of_v h a hL)
  have HZL := Lib.hid (show (ofP L a).length ≤ 1000000 from Nat.le_trans ofP_len hL)
  have HZO : Hid (∀ z ∈ ofP L a, i64ok z) := fun z hz => ofP_ok h.lk hz
  obtain ⟨zs, hzs⟩ : ∃ zs, ofP L a = zs := ⟨_, rfl⟩
  rw [hzs] at HOF HZL HZO
  obtain ⟨m, hm⟩ : ∃ m, zs.length = m := ⟨_, rfl⟩
  have HM := Lib.hid hm
  have hmb : m ≤ 1000000 := by have := HZL.out; omega
  have HZS := Lib.hid hzs
  have HHI := Lib.hid h.hi
  clear h ha hL hK hm hzs
  go_enter Try.func12, Try.ntmps12
  go_upto_region 2 with (go_at_call 13; refine HOF.out.mono ?_; rintro e V1 ⟨v1, rfl, hr1, hb1⟩)
  rw [HM.out] at hr1
  have HR1 := Lib.hid hr1
  have HB1 := Lib.hid hb1
  obtain ⟨A, c, rfl⟩ : ∃ A c, v1 = .slice A m c := by
    rcases hr1.2 with ⟨h1, h2⟩ | ⟨g, cap, cur, h1, _⟩
    · exact ⟨none, 0, by rw [h1, h2]⟩
    · exact ⟨_, _, h1⟩
  clear hr1 hb1
  go_wp2
  go_loopw [7, 15] (fun _ i wr => ∃ k : Nat, k ≤ m ∧ i = .int .i64 (k : Int) ∧ LK w0 wr pm b1 b2 n (unlL L a (zs.take k)) K ∧ Fr (fun k => k = b1 ∨ k = b2) V1 wr) (fun _ i _ => m + 1 - (intOf i).toNat)
  case atStart => exact ⟨0, Nat.zero_le _, rfl, HH.out.keep HB1.out, .refl _ _⟩
  case round =>
    obtain ⟨k, hk, rfl, hlk, hfr⟩ := hrel
    have HLK := Lib.hid hlk
    have HFR := Lib.hid hfr
    clear hlk hfr
    by_cases hlt : k < m
    · have hkz : k < zs.length := by rw [HM.out]; exact hlt
      have hrw : wr.ownsRow W.heap.size 2 1 (.slice A m c) m (zs.map (Value.int .i64)) := own_fr9 HR1.out HFR.out (fun g hg hF => by have h9 := (World.ownsRow.lt HR1.out g hg).1; have := HHI.out; omega)
      obtain ⟨g, rfl⟩ : ∃ g, A = some ⟨g, 0, none⟩ := by
        obtain ⟨g, cap, hv, _, _⟩ := hrw.form (by omega)
        exact ⟨g, (Value.slice.inj hv).1⟩
      have hcap : (m : Int) ≤ c := by
        rcases hrw.2 with ⟨h1, h2⟩ | ⟨g', cap, cur, h1, _, _, h2, _⟩
        · omega
        · have := (Value.slice.inj h1).2.2; omega
      have hcell := cellI hrw hkz HM.out
      have HU := Lib.hid (unlink_v HLK.out a zs[k] HA.out (HZO.out _ (List.getElem_mem hkz)))
      have HNX := Lib.hid (show (unlinkP (unlL L a (zs.take k)) a zs[k]).2 = unlL L a (zs.take (k + 1)) by unfold unlL; rw [take_s zs k hkz, List.foldl_append]; rfl)
      generalize zs[k] = z at hcell HU HNX
      have hlt' : decide (k < m) = true := by simpa using hlt
      clear hrw
      go_wp2_with (go_at_call 18; refine HU.out.mono ?_; rintro e V3 ⟨rfl, h1, h2⟩; rw [HNX.out] at h1; have H1 := Lib.hid h1; have H2 := Lib.hid h2; clear h1 h2)
      go_roundw
      case rel => exact ⟨k + 1, hlt, by go_num, H1.out, HFR.out.same H2.out⟩
      case measure => simp [intOf]; omega
    · obtain rfl : k = m := by omega
      have hd1 : decide (k < k) = false := by simp
      have htk : zs.take k = zs := List.take_of_length_le (by rw [HM.out]; exact Nat.le_refl _)
      rw [htk] at HLK
      clear htk
      have HWS := Lib.hid (watches_v HLK.out HKL.out)
      have HFW := Lib.hid ((Fr.of_below HB1.out (fun k => k = b1 ∨ k = b2)).same HFR.out)
      have HR1' : Hid (wr.ownsRow W.heap.size 2 1 (.slice A k c) k (zs.map (Value.int .i64))) := own_fr9 HR1.out HFR.out (fun g hg hF => by have h9 := (World.ownsRow.lt HR1.out g hg).1; have := HHI.out; omega)
      clear HR1 HB1 HFR
      have HWS2 : Hid (Calls Try.prog 14 #[.pointer (some ⟨pm, 0, none⟩)] wr fun e w' => ∃ (ys : WL) (A2 : Option Addr) (c2 q : Nat), e = .returned (.slice A2 q c2) ∧ ys.length = q ∧ List.Perm ys K ∧ wsOrd ys ∧ w'.ownsRow wr.heap.size 33 3 (.slice A2 q c2) q (ys.flatMap encW) ∧ Below wr.heap.size wr w') := HWS.out.mono fun e w' h9 => by
        obtain ⟨v, ys, rfl, h1, h2, h3, h4⟩ := h9
        rcases h3.2 with ⟨h5, h6⟩ | ⟨g, cap, cur, h5, _⟩
        · subst h5
          exact ⟨ys, none, 0, 0, rfl, h6, h1, h2, by rw [h6] at h3; exact h3, h4⟩
        · subst h5
          exact ⟨ys, _, cap, ys.length, rfl, rfl, h1, h2, h3, h4⟩
      clear HWS HOF HH HZO
      go_wp2_with (go_at_call 14; refine HWS2.out.mono ?_; rintro e V2 ⟨ys, A2, c2, q, rfl, hq, hp2, ho2, hr2, hb2⟩; have HQ := Lib.hid hq; have HP2 := Lib.hid hp2; have HO2 := Lib.hid ho2; have HR2 := Lib.hid hr2; have HB2 := Lib.hid hb2; clear hq hp2 ho2 hr2 hb2)
      have hqb : q ≤ 1000000 := by rw [← HQ.out, HP2.out.length_eq]; exact HKL.out
      have HKO : Hid (∀ x ∈ ys, i64ok x.ref) := fun x hx => (HLK.out.lk.kok x (HP2.out.mem_iff.1 hx)).1
      go_loopw [5, 9, 27] (fun u _ i wr2 => ∃ j : Nat, j ≤ q ∧ i = .int .i64 (j : Int) ∧ DrR w0 V2 pm b1 b2 n (unlL L a zs) K a ys j j u wr2) (fun _ _ i _ => q + 1 - (intOf i).toNat)
      case atStart =>
        refine ⟨0, Nat.zero_le _, rfl, HLK.out.keep HB2.out, World.ownsRow_nil _ _ _ _, .refl _ _⟩
      case round =>
        obtain ⟨j, hj, rfl, hdr⟩ := hrel
        have HDR := Lib.hid hdr
        clear hdr
        by_cases hlt2 : j < q
        · have hjy : j < ys.length := by rw [HQ.out]; exact hlt2
          have hrw := own_fr9 HR2.out HDR.out.fr (fun g hg hF => by have h9 := World.ownsRow.lt HR2.out g hg; have := HHI.out; have := HFW.out.size; omega)
          obtain ⟨g, rfl⟩ : ∃ g, A2 = some ⟨g, 0, none⟩ := by
            obtain ⟨g, cap, hv, _, _⟩ := hrw.form (by omega)
            exact ⟨g, (Value.slice.inj hv).1⟩
          have hcap : (q : Int) ≤ c2 := by
            rcases hrw.2 with ⟨h1, h2⟩ | ⟨g', cap, cur, h1, _, _, h2, _⟩
            · omega
            · have := (Value.slice.inj h1).2.2; omega
          obtain ⟨z0, z1, z2⟩ := cellW hrw hjy HQ.out
          obtain ⟨x, hx⟩ : ∃ x, ys[j] = x := ⟨_, rfl⟩
          rw [hx] at z0 z1 z2
          have HXE := Lib.hid hx
          have HXR := Lib.hid (show i64ok x.ref by rw [← hx]; exact HKO.out _ (List.getElem_mem hjy))
          have HV2 : Hid (w0.heap.size ≤ V2.heap.size ∧ pm < V2.heap.size ∧ b1 < V2.heap.size ∧ b2 < V2.heap.size) := by
            have h1 := HHI.out; have h2 := HFW.out.size; have h3 := HB2.out.size; have h4 := HLK.out.lo
            exact ⟨by omega, by omega, by omega, by omega⟩
          have HTL := Lib.hid (show (toldP a (ys.take j)).length ≤ 1000000 by
            have h1 : (toldP a (ys.take j)).length ≤ (ys.take j).length := List.length_filter_le _ _
            rw [List.length_take] at h1
            omega)
          have hlt2' : decide (j < q) = true := by simpa using hlt2
          obtain ⟨gx, hgx⟩ : ∃ gx, wr.heap.size = gx := ⟨_, rfl⟩
          have hsz2 : g < wr.heap.size := (World.ownsRow.lt hrw g rfl).2
          have HOB : Hid (∀ k, u5.ownBlock = some k → k < gx) := fun k e => by have := (World.ownsRow.lt HDR.out.row k e).2; omega
          clear hx hrw
          go_upto_region 10 with (fail)
          refine wp_world (fun V => DrR w0 V2 pm b1 b2 n (unlL L a zs) K a ys j j u5 V ∧ Blk V gx 33 #[.int .i64 x.ref, .int .i64 x.fr, .int .i64 x.to]) ⟨HDR.out.keep (below_alloc _ _), Blk.newAt9 hgx⟩ ?_
          clear HDR hgx z0 z1 z2 hsz2
          rintro V ⟨hdv, hbk⟩
          have HDV := Lib.hid hdv
          have HBK := Lib.hid hbk
          have HSV := Lib.hid (show V2.heap.size ≤ V.heap.size from hdv.fr.size)
          have g0 := hbk.cell 0
          have g1 := hbk.cell 1
          have g2 := hbk.cell 2
          clear hdv hbk
          by_cases c1 : x.to = a
          · have HHT := Lib.hid (show hitW a x = true by unfold hitW; simp [c1])
            have HTA := Lib.hid c1
            have d1 : (x.to == a) = true := by simpa using c1
            clear c1
            go_upto_region 11 with (fail)
            go_wp2_with (at_builtin; (refine wpList_app watchT rfl (.tmp 35) (.tmp 37) rfl V2.heap.size u5 _ _ rfl (own_bel HDV.out.row (below_alloc V _)) (some ⟨V.heap.size, 0, none⟩) 1 1 (encW x) rfl rfl (cs_blk9 (Blk.new V _ _)) (by simp [encW, Value.oneCell']) (by unfold maxLen; have := HTL.out; omega) (by have := HTL.out; omega) (by have := HSV.out; simp; omega) ?_); intro v3 w3 ho3 hg3 hat3; have HD2 := Lib.hid (HDV.out.told (below_alloc V _) HV2.out hjy (by rw [HXE.out]; exact HTA.out) (by rw [HXE.out]; exact ho3) hg3); have hbk2 := (HBK.out.alloc _).grown hg3 (fun e => by have h9 := HOB.out gx e.symm; omega); have HBK2 := Lib.hid hbk2; clear g0 g1 g2; have g0 := hbk2.cell 0; have g1 := hbk2.cell 1; have g2 := hbk2.cell 2; clear ho3 hg3 hat3 hbk2)
            refine wp_world (fun U => DrR w0 V2 pm b1 b2 n (unlL L a zs) K a ys j (j + 1) v3 U ∧ Blk U gx 33 #[.int .i64 x.ref, .int .i64 x.fr, .int .i64 x.to]) ⟨HD2.out, HBK2.out⟩ ?_
            clear HD2 HBK2 g0 g1 g2
            rintro U ⟨hd3, hbk3⟩
            have HD3 := Lib.hid hd3
            have m1 := hd3.lk.obj.cell 1
            have g0 := hbk3.cell 0
            clear hd3 hbk3
            go_still_tail 6, (by kernel_rfl)
            refine wpList_world (fun U => DrR w0 V2 pm b1 b2 n (unlL L a zs) K a ys j (j + 1) v3 U) (HD3.out.keep (Below.refl _ _).drew) ?_
            clear HD3 m1 g0
            rintro U4 hd4
            have HD4 := Lib.hid hd4
            clear hd4
            go_wp2_with (at_delete; refine wpList_delete_own _ rfl _ _ 54 2 rfl 33 ki64 Try.underlying54 _ b2 n (datG keyW wD (drpK K a (ys.take j))) rfl HD4.out.lk.w _ _ rfl (keyI64 HXR.out) ?_; intro w9 o9 t9; rw [del_datG] at o9; have HEN9 := Lib.hid (HD4.out.del hjy (by rw [HXE.out]; exact HHT.out) HV2.out t9.grown (by rw [HXE.out]; exact o9)); clear o9 t9)
            go_roundw
            case rel => exact ⟨j + 1, hlt2, by go_num, HEN9.out⟩
            case measure => simp [intOf]; omega
          · have hnt : ys[j].to ≠ a := by rw [HXE.out]; exact c1
            have d1 : (x.to == a) = false := by simpa using c1
            have HD2 := Lib.hid (HDV.out.untold hjy hnt)
            have HBK2 := HBK
            by_cases c2' : x.fr = a
            · have HHT := Lib.hid (show hitW a x = true by unfold hitW; simp [c2'])
              have d2 : (x.fr == a) = true := by simpa using c2'
              clear c1 c2' hnt
              go_upto_region 13 with (fail)
              refine wp_world (fun U => DrR w0 V2 pm b1 b2 n (unlL L a zs) K a ys j (j + 1) u5 U ∧ Blk U gx 33 #[.int .i64 x.ref, .int .i64 x.fr, .int .i64 x.to]) ⟨HD2.out, HBK2.out⟩ ?_
              clear HD2 HBK2 g0 g1 g2
              rintro U ⟨hd3, hbk3⟩
              have HD3 := Lib.hid hd3
              have m1 := hd3.lk.obj.cell 1
              have g0 := hbk3.cell 0
              clear hd3 hbk3
              go_still_tail 6, (by kernel_rfl)
              refine wpList_world (fun U => DrR w0 V2 pm b1 b2 n (unlL L a zs) K a ys j (j + 1) u5 U) (HD3.out.keep (Below.refl _ _).drew) ?_
              clear HD3 m1 g0
              rintro U4 hd4
              have HD4 := Lib.hid hd4
              clear hd4
              go_wp2_with (at_delete; refine wpList_delete_own _ rfl _ _ 54 2 rfl 33 ki64 Try.underlying54 _ b2 n (datG keyW wD (drpK K a (ys.take j))) rfl HD4.out.lk.w _ _ rfl (keyI64 HXR.out) ?_; intro w9 o9 t9; rw [del_datG] at o9; have HEN9 := Lib.hid (HD4.out.del hjy (by rw [HXE.out]; exact HHT.out) HV2.out t9.grown (by rw [HXE.out]; exact o9)); clear o9 t9)
              go_roundw
              case rel => exact ⟨j + 1, hlt2, by go_num, HEN9.out⟩
              case measure => simp [intOf]; omega
            · have HHT := Lib.hid (show hitW a x = false by unfold hitW; simp [c1, c2'])
              have d2 : (x.fr == a) = false := by simpa using c2'
              clear c1 c2' hnt
              go_wp2
              have HEN9 := Lib.hid (HD2.out.undel hjy (by rw [HXE.out]; exact HHT.out))
              go_roundw
              case rel => exact ⟨j + 1, hlt2, by go_num, HEN9.out⟩
              case measure => simp [intOf]; omega
        · obtain rfl : j = q := by omega
          have hd2 : decide (j < j) = false := by simp
          have htk2 : ys.take j = ys := List.take_of_length_le (by rw [HQ.out]; exact Nat.le_refl _)
          have hEN := HDR.out.lk
          have hRW := HDR.out.row
          rw [htk2] at hEN hRW
          have HEN := Lib.hid hEN
          have HRW := Lib.hid hRW
          clear htk2 hEN hRW
          go_wp2
          go_ret2
          rw [← HZS.out] at HEN
          have HRV := Lib.hid (own_fr9 (own_bel HR1'.out HB2.out) HDR.out.fr (fun g hg hF => by have h9 := World.ownsRow.lt HR1'.out g hg; have := HHI.out; have := HB2.out.size; omega))
          refine ⟨_, _, ys, rfl, HP2.out, HO2.out, ?_, own_low9 HRW.out (by have := HFW.out.size; have := HB2.out.size; omega), HEN.out, (HFW.out.same (Fr.of_below HB2.out _)).trans HDR.out.fr (fun i hi hF => by have := HFW.out.size; have := HB2.out.size; omega)⟩
          rw [HZS.out, HM.out]
          exact HRV.out
end
end Go.Proofs.Ytpfikhamokjdjaa
