/- Layer 13: the walk of the document's Rising. Written by magenx.py. Layer 13: the walk of the document's All. Written by mageny.py. Layer 13: the walk of the document's Match. Written by magenz.py. -/
import Derived.Test.YtmpknhdfglbocaaGreatMaW
import Derived.Test.YtmpknhdfglbocaaGreatMaH
namespace Go.Proofs.YtmpknhdfglbocaaGreat
section
open Go.RowKit
set_option linter.unusedVariables false

/-- How a function ends that gives bindings. -/
def RisEnd (W : World) (R : List BV) (e : Ending) (w' : World) : Prop :=
  ∃ (A : Option Addr) (c : Nat) (E : List (BG (TE w'))), e = .returned (.slice A E.length c) ∧ vE E = R ∧ RdB w' A c E ∧ Below W.heap.size W w'

set_option maxRecDepth 100000 in
set_option maxHeartbeats 8000000 in
theorem rising_any (w : World) (E : List (BG (TE w))) (A : Option Addr) (c : Nat) (hB : RdB w A c E) (hlen : E.length ≤ 2000000) :
    Calls Tryz.prog 33 #[.slice A E.length c] w (RisEnd w (risG (vE E))) := by
  have hlc := hB.1
  have hcm := hB.2.1
  have HB := Lib.hid hB
  obtain ⟨n, hn⟩ : ∃ n, E.length = n := ⟨_, rfl⟩
  have HN := Lib.hid hn
  have HFIN : Hid (∀ (V : World) (v : Value), Below w.heap.size w V → V.ownsRow w.heap.size 52 5 v (risG E).length (bL (risG E)) → RisEnd w (risG (vE E)) (.returned v) V) := fun V v hb ho => by
    obtain ⟨A2, c2, rfl⟩ := own_shape ho
    exact ⟨A2, c2, upE hb (risG E), by rw [upE_len], by rw [vE_up]; exact (risG_map _ _).symm, (rdb_of_own ho rfl).up hb, hb⟩
  rw [hn] at hlc hlen ⊢
  clear hB hn
  go_enter Tryz.func33, Tryz.ntmps33
  go_wp2
  go_loopw [3, 4] (fun o i wr => ∃ j : Nat, j ≤ n ∧ i = .int .i64 j ∧ wr.ownsRow w.heap.size 52 5 o (risG (E.take j)).length (bL (risG (E.take j))) ∧ Below w.heap.size w wr) (fun _ i _ => n - (intOf i).toNat)
  case atStart => exact ⟨0, Nat.zero_le _, rfl, by rw [List.take_zero]; exact World.ownsRow_nil _ _ _ _, Below.refl _ _⟩
  case round =>
    obtain ⟨j, hj, rfl, ho, hb⟩ := hrel
    by_cases hlt : j < n
    · have hil : j < E.length := by rw [HN.out]; exact hlt
      obtain ⟨b, o, rfl, e0, e1, e2, e3, e4⟩ := (HB.out.below hb).item hil
      have HTK := Lib.hid (risG_take hil)
      have hll := risG_len (E.take j)
      rw [List.length_take] at hll
      generalize E[j] = q at *
      obtain ⟨qn, qe⟩ := q
      simp only at e0 e1 e2 e3 e4
      obtain ⟨L, hL⟩ : ∃ L, risG (E.take j) = L := ⟨_, rfl⟩
      rw [hL] at ho HTK hll
      obtain ⟨nl, hnl⟩ : ∃ nl, L.length = nl := ⟨_, rfl⟩
      rw [hnl] at ho hll
      obtain ⟨Ao, co, rfl⟩ := own_shape ho
      have hrl := rdb_of_own ho hnl
      have hlo := hrl.1
      have hlo2 := hrl.2.1
      rw [hnl] at hlo
      have HRL := Lib.hid hrl
      have HO := Lib.hid ho
      have HBW := Lib.hid hb
      have HNL := Lib.hid hnl
      have hnl2 : nl ≤ 2000000 := by omega
      have q1 : (0 : Int) ≤ (j : Int) := by omega
      have q2 : (j : Int) < (n : Int) := by omega
      have hd : decide (j < n) = true := by simp; omega
      have HE : Hid (∀ U, Below wr.heap.size wr U → U.cell? ⟨b, o + j * 5, none⟩ = some (.string ⟨qn.toArray⟩) ∧ U.cell? ⟨b, o + j * 5 + 1, none⟩ = some (.int .i64 qe.t.kind) ∧ U.cell? ⟨b, o + j * 5 + 2, none⟩ = some (.int .i64 qe.t.int) ∧ U.cell? ⟨b, o + j * 5 + 3, none⟩ = some (.string ⟨qe.t.name.toArray⟩) ∧ U.cell? ⟨b, o + j * 5 + 4, none⟩ = some (.slice qe.A qe.t.items.length qe.c)) := by
        have hk : ∀ {ad : Addr} {v : Value}, wr.cell? ad = some v → ∀ U, Below wr.heap.size wr U → U.cell? ad = some v := fun h U hu => (hu.cell (World.block_lt_of_cell? wr _ h)).trans h
        exact fun U hu => ⟨hk e0 U hu, hk e1 U hu, hk e2 U hu, hk e3 U hu, hk e4 U hu⟩
      clear hL hll hnl ho hb hrl e0 e1 e2 e3 e4 hil
      obtain ⟨w1, rfl⟩ : ∃ x, x = wr := ⟨_, rfl⟩
      go_wp2
      go_loopw [5] (fun kk ww => ∃ k : Nat, k ≤ nl ∧ kk = .int .i64 k ∧ (∀ x ∈ L.take k, Op.bytesLess x.1 qn = true) ∧ Below w1.heap.size w1 ww) (fun kk _ => nl - (intOf kk).toNat)
      case atStart => exact ⟨0, Nat.zero_le _, rfl, by simp, Below.refl _ _⟩
      case round =>
        obtain ⟨k, hk, rfl, hall, hbb⟩ := hrel
        have HALL := Lib.hid hall
        have HBB := Lib.hid hbb
        have e0 := (HE.out _ hbb).1
        clear hall
        by_cases hlk : k < nl
        · have hkl : k < L.length := by rw [HNL.out]; exact hlk
          obtain ⟨g, og, rfl, f0, f1, f2, f3, f4⟩ := (HRL.out.below hbb).item hkl
          have hk1 : (0 : Int) ≤ (k : Int) := by omega
          have hk2 : (k : Int) < (nl : Int) := by omega
          have hdk : decide (k < nl) = true := by simp; omega
          have HLT := Lib.hid (fun h => less_take (b := (qn, qe)) hkl HALL.out h)
          have HEQ := Lib.hid (insG_set (qn, qe) L k hkl HALL.out)
          have HNE : Hid (Op.bytesLess L[k].1 qn = false → (L[k].1 == qn) = false → insG (qn, qe) L = L.take k ++ [(qn, qe)] ++ L.drop k) := fun h1 h2 => insG_put (qn, qe) L k (by omega) HALL.out (fun h => ⟨h1, h2⟩)
          have HSET := Lib.hid (bL_set L k hkl qe)
          generalize L[k] = p at *
          obtain ⟨pn, pe⟩ := p
          simp only at f0 f1 f2 f3 f4 HLT HEQ HNE HSET
          clear f1 f2 f3 f4 hbb
          cases hls : Op.bytesLess pn qn with
          | true =>
            have HLS := Lib.hid (HLT.out hls)
            go_wp2
            go_quiet (fail)
            go_wp2
            go_roundw
            case rel => exact ⟨k + 1, by omega, by go_num, HLS.out, below_step HBB.out (below_drewN (Below.refl _ _) _)⟩
            case measure => simp [intOf]; omega
          | false =>
            cases hpq : (pn == qn) with
            | true =>
              have HIN := Lib.hid (HEQ.out hls hpq)
              go_wp2
              go_quiet (fail)
              go_wp2
              go_quiet (fail)
              go_upto_region 9 with (fail)
              have hog : og = 0 := by
                rcases HO.out.2 with ⟨hv, _⟩ | ⟨g', cap', cur, hv, _⟩
                · have := (Value.slice.inj hv).1; cases this
                · have := (Value.slice.inj hv).1
                  injection this with h1
                  injection h1
              subst hog
              refine wp_world (fun U => Below w1.heap.size w1 U) (below_step HBB.out (below_drewN (below_drewN (Below.refl _ _) _) _)) ?_
              rintro w2 hb2
              have HB2 := Lib.hid (below_step HBW.out hb2)
              have HB21 := Lib.hid hb2
              have hw2 : w.heap.size ≤ w2.heap.size := HB2.out.size
              have HE2 : Hid (∀ U, Below w2.heap.size w2 U → U.cell? ⟨b, o + j * 5, none⟩ = some (.string ⟨qn.toArray⟩) ∧ U.cell? ⟨b, o + j * 5 + 1, none⟩ = some (.int .i64 qe.t.kind) ∧ U.cell? ⟨b, o + j * 5 + 2, none⟩ = some (.int .i64 qe.t.int) ∧ U.cell? ⟨b, o + j * 5 + 3, none⟩ = some (.string ⟨qe.t.name.toArray⟩) ∧ U.cell? ⟨b, o + j * 5 + 4, none⟩ = some (.slice qe.A qe.t.items.length qe.c)) := fun U hu => HE.out U (below_step hb2 hu)
              have HOW := Lib.hid (own_keepB HO.out HB21.out)
              obtain ⟨z0, z1, z2, z3, z4⟩ := HE2.out w2 (Below.refl _ _)
              have hgl := (World.ownsRow.lt HO.out g rfl).1
              have hj1 : k * 5 + 1 < nl * 5 := by omega
              have hcl : ∀ t : Nat, k * 5 + t < nl * 5 → ∃ u, w2.cell? ⟨g, k * 5 + t, none⟩ = some u := fun t ht => by
                rw [HOW.out.cellAt (k * 5 + t) ht]
                exact ⟨_, List.getElem?_eq_getElem (by rw [flat_len bc_len, HNL.out]; exact ht)⟩
              obtain ⟨u1, g1⟩ := hcl 1 (by omega)
              obtain ⟨u2, g2⟩ := hcl (1 + 1) (by omega)
              obtain ⟨u3, g3⟩ := hcl (1 + 2) (by omega)
              obtain ⟨u4, g4⟩ := hcl (1 + 3) (by omega)
              rw [← Nat.add_assoc] at g2 g3 g4
              have x1 := HOW.out.frozenAt (k * 5 + 1)
              have x2 := HOW.out.frozenAt (k * 5 + 1 + 1)
              have x3 := HOW.out.frozenAt (k * 5 + 1 + 2)
              have x4 := HOW.out.frozenAt (k * 5 + 1 + 3)
              clear f0 e0 z0
              have HGL := Lib.hid hgl
              clear hgl hj1 hcl
              go_wp2
              go_roundw
              case rel =>
                have s1 := (HOW.out.stored (k * 5 + 1) (.int .i64 qe.t.kind)).1
                have s2 := (s1.stored (k * 5 + 1 + 1) (.int .i64 qe.t.int)).1
                have s3 := (s2.stored (k * 5 + 1 + 2) (.string ⟨qe.t.name.toArray⟩)).1
                have s4 := (s3.stored (k * 5 + 1 + 3) (.slice qe.A qe.t.items.length qe.c)).1
                exact ⟨j + 1, by omega, by go_num, by rw [HTK.out, HIN.out, List.length_set, HNL.out, HSET.out]; exact s4, Below.setCell (Below.setCell (Below.setCell (Below.setCell HB2.out HGL.out _) HGL.out _) HGL.out _) HGL.out _⟩
              case measure => simp [intOf]; omega
            | false =>
              have HIN := Lib.hid (HNE.out hls hpq)
              go_wp2
              go_quiet (fail)
              go_wp2
              go_quiet (fail)
              go_upto_region 10 with (fail)
              have hog : og = 0 := by
                rcases HO.out.2 with ⟨hv, _⟩ | ⟨g', cap', cur, hv, _⟩
                · have := (Value.slice.inj hv).1; cases this
                · have := (Value.slice.inj hv).1
                  injection this with h1
                  injection h1
              subst hog
              refine wp_world (fun U => Below w1.heap.size w1 U) (below_step HBB.out (below_drewN (below_drewN (Below.refl _ _) _) _)) ?_
              rintro w2 hb2
              have HB2 := Lib.hid (below_step HBW.out hb2)
              have HB21 := Lib.hid hb2
              have hw2 : w.heap.size ≤ w2.heap.size := HB2.out.size
              have HE2 : Hid (∀ U, Below w2.heap.size w2 U → U.cell? ⟨b, o + j * 5, none⟩ = some (.string ⟨qn.toArray⟩) ∧ U.cell? ⟨b, o + j * 5 + 1, none⟩ = some (.int .i64 qe.t.kind) ∧ U.cell? ⟨b, o + j * 5 + 2, none⟩ = some (.int .i64 qe.t.int) ∧ U.cell? ⟨b, o + j * 5 + 3, none⟩ = some (.string ⟨qe.t.name.toArray⟩) ∧ U.cell? ⟨b, o + j * 5 + 4, none⟩ = some (.slice qe.A qe.t.items.length qe.c)) := fun U hu => HE.out U (below_step hb2 hu)
              clear f0 e0
              have HC1 : Hid (∀ U, Below w2.heap.size w2 U → Cs U (some ⟨g, 0, none⟩) (bL (L.take k))) := fun U hu => csB_below (rdb_take HRL.out k) (below_step HB21.out hu)
              have HL1 : Hid ((bL (L.take k)).length = k * 5) := by unfold Hid; rw [flat_len bc_len, List.length_take, HNL.out, Nat.min_eq_left (by omega)]
              have HL3 : Hid ((bL (L.drop k)).length = (nl - k) * 5) := by unfold Hid; rw [flat_len bc_len, List.length_drop, HNL.out]
              obtain ⟨A3, hA3, hcs3⟩ : ∃ A3 : Addr, (if co = k then some (⟨g, 0, none⟩ : Addr) else some ⟨g, k * 5, none⟩) = some A3 ∧ ∀ U, Below w2.heap.size w2 U → Cs U (some A3) (bL (L.drop k)) := by
                by_cases hc : co = k
                · refine ⟨⟨g, 0, none⟩, by simp [hc], fun U hu => .inl ?_⟩
                  rw [List.drop_eq_nil_of_le (by rw [HNL.out]; omega)]
                  rfl
                · refine ⟨⟨g, k * 5, none⟩, by simp [hc], fun U hu => ?_⟩
                  have := rdb_drop HRL.out k (by rw [HNL.out]; omega)
                  rw [Nat.zero_add] at this
                  exact csB_below this (below_step HB21.out hu)
              have HC3 := Lib.hid hcs3
              have HDONE : Hid (∀ (U : World) (v : Value), U.ownsRow w2.heap.size 52 5 v (0 + k + 1 + (nl - k)) ((([] ++ bL (L.take k)) ++ [.string ⟨qn.toArray⟩, .int .i64 qe.t.kind, .int .i64 qe.t.int, .string ⟨qe.t.name.toArray⟩, .slice qe.A qe.t.items.length qe.c]) ++ bL (L.drop k)) → U.ownsRow w.heap.size 52 5 v (risG (E.take (j + 1))).length (bL (risG (E.take (j + 1))))) := fun U v ho => by
                rw [HTK.out, HIN.out]
                have h1 : (L.take k ++ [(qn, qe)] ++ L.drop k).length = 0 + k + 1 + (nl - k) := by
                  rw [List.length_append, List.length_append, List.length_take, List.length_drop, HNL.out, Nat.min_eq_left (by omega)]
                  simp
                rw [h1, bL_append, bL_append]
                rw [List.nil_append] at ho
                exact own_low ho hw2
              have hkc : k ≤ co := by omega
              have hkn : k ≤ nl := by omega
              clear hcs3
              refine wp_region_W 14 (fun V => Below w2.heap.size w2 V) (by kernel_rfl) ?_ (fun hS0 => ?_)
              · exact (Below.refl _ _).drew
              (refine wpAnyW_take (i := 1) (v := ?_) rfl (by kernel_rfl) (by kernel_rfl) (by kernel_rfl) (by kernel_rfl) (fun _ _ _ h => h) (Or.inl ⟨by kernel_rfl, ?_⟩) (by assumption) ?_; rotate_left; focus (intro V9 hS9; go_simp; (try (with_reducible rfl)); done))
              try simp only [Act.put, List.getElem_toArray, List.getElem_cons_succ, List.getElem_cons_zero, List.setIfInBounds_toArray, List.set_cons_succ, List.set_cons_zero]
              (refine wpAnyW_take (i := 2) (v := ?_) rfl (by kernel_rfl) (by kernel_rfl) (by kernel_rfl) (by kernel_rfl) (fun _ _ _ h => h) (Or.inl ⟨by kernel_rfl, ?_⟩) (by assumption) ?_; rotate_left; focus (intro V9 hS9; go_simp; (try (with_reducible rfl)); done))
              try simp only [Act.put, List.getElem_toArray, List.getElem_cons_succ, List.getElem_cons_zero, List.setIfInBounds_toArray, List.set_cons_succ, List.set_cons_zero]
              (refine wpAnyW_take (i := 3) (v := ?_) rfl (by kernel_rfl) (by kernel_rfl) (by kernel_rfl) (by kernel_rfl) (fun _ _ _ h => h) (Or.inl ⟨by kernel_rfl, ?_⟩) (by assumption) ?_; rotate_left; focus (intro V9 hS9; go_simp; (try (with_reducible rfl)); done))
              try simp only [Act.put, List.getElem_toArray, List.getElem_cons_succ, List.getElem_cons_zero, List.setIfInBounds_toArray, List.set_cons_succ, List.set_cons_zero]
              (refine wpAnyW_take (i := 5) (v := ?_) rfl (by kernel_rfl) (by kernel_rfl) (by kernel_rfl) (by kernel_rfl) (fun _ _ _ h => h) (Or.inl ⟨by kernel_rfl, ?_⟩) (by assumption) ?_; rotate_left; focus (intro V9 hS9; go_simp; (try (with_reducible rfl)); done))
              try simp only [Act.put, List.getElem_toArray, List.getElem_cons_succ, List.getElem_cons_zero, List.setIfInBounds_toArray, List.set_cons_succ, List.set_cons_zero]
              (refine wpAnyW_take (i := 6) (v := ?_) rfl (by kernel_rfl) (by kernel_rfl) (by kernel_rfl) (by kernel_rfl) (fun _ _ _ h => h) (Or.inl ⟨by kernel_rfl, ?_⟩) (by assumption) ?_; rotate_left; focus (intro V9 hS9; go_simp; (try (with_reducible rfl)); done))
              try simp only [Act.put, List.getElem_toArray, List.getElem_cons_succ, List.getElem_cons_zero, List.setIfInBounds_toArray, List.set_cons_succ, List.set_cons_zero]
              (refine wpAnyW_take (i := 7) (v := ?_) rfl (by kernel_rfl) (by kernel_rfl) (by kernel_rfl) (by kernel_rfl) (fun _ _ _ h => h) (Or.inl ⟨by kernel_rfl, ?_⟩) (by assumption) ?_; rotate_left; focus (intro V9 hS9; go_simp; (try (with_reducible rfl)); done))
              try simp only [Act.put, List.getElem_toArray, List.getElem_cons_succ, List.getElem_cons_zero, List.setIfInBounds_toArray, List.set_cons_succ, List.set_cons_zero]
              (refine wpAnyW_take (i := 8) (v := ?_) rfl (by kernel_rfl) (by kernel_rfl) (by kernel_rfl) (by kernel_rfl) (fun _ _ _ h => h) (Or.inl ⟨by kernel_rfl, ?_⟩) (by assumption) ?_; rotate_left; focus (intro V9 hS9; obtain ⟨z0, z1, z2, z3, z4⟩ := HE2.out V9 hS9; go_simp; (try (with_reducible rfl)); done))
              try simp only [Act.put, List.getElem_toArray, List.getElem_cons_succ, List.getElem_cons_zero, List.setIfInBounds_toArray, List.set_cons_succ, List.set_cons_zero]
              (refine wpAnyW_take (i := 11) (v := ?_) rfl (by kernel_rfl) (by kernel_rfl) (by kernel_rfl) (by kernel_rfl) (fun _ _ _ h => h) (Or.inl ⟨by kernel_rfl, ?_⟩) (by assumption) ?_; rotate_left; focus (intro V9 hS9; go_simp; (try (with_reducible rfl)); done))
              try simp only [Act.put, List.getElem_toArray, List.getElem_cons_succ, List.getElem_cons_zero, List.setIfInBounds_toArray, List.set_cons_succ, List.set_cons_zero]
              (refine wpAnyW_take (i := 12) (v := ?_) rfl (by kernel_rfl) (by kernel_rfl) (by kernel_rfl) (by kernel_rfl) (fun _ _ _ h => h) (Or.inl ⟨by kernel_rfl, ?_⟩) (by assumption) ?_; rotate_left; focus (intro V9 hS9; go_simp; (try (with_reducible rfl)); done))
              try simp only [Act.put, List.getElem_toArray, List.getElem_cons_succ, List.getElem_cons_zero, List.setIfInBounds_toArray, List.set_cons_succ, List.set_cons_zero]
              (refine wpAnyW_take (i := 13) (v := ?_) rfl (by kernel_rfl) (by kernel_rfl) (by kernel_rfl) (by kernel_rfl) (fun _ _ _ h => h) (Or.inl ⟨by kernel_rfl, ?_⟩) (by assumption) ?_; rotate_left; focus (intro V9 hS9; go_simp; (try (with_reducible rfl)); done))
              try simp only [Act.put, List.getElem_toArray, List.getElem_cons_succ, List.getElem_cons_zero, List.setIfInBounds_toArray, List.set_cons_succ, List.set_cons_zero]
              refine wpAnyW_world (fun V => Below w2.heap.size w2 V) hS0 ?_
              rintro V5 hb5
              refine wpAnyW_ready (rs := [0, 9]) (by kernel_rfl) (by simp) ?_
              refine AllReadyW.cons rfl (fun K hK => ?_) (AllReadyW.cons rfl (fun K hK => ?_) AllReadyW.nil)
              · go_simp
                refine hK.out _ _ (below_step hb5 (below_alloc _ _)) (fun _ => ?_)
                clear hK K
                try simp only [Act.put, List.getElem_toArray, List.getElem_cons_succ, List.getElem_cons_zero, List.setIfInBounds_toArray, List.set_cons_succ, List.set_cons_zero]
                refine wpAnyW_world (fun V => Below w2.heap.size w2 V ∧ V.ownsRow w2.heap.size 52 5 (.slice (some ⟨V5.heap.size, 0, none⟩) 0 0) 0 []) ⟨below_step hb5 (below_alloc _ _), own_made w2.heap.size 52 5 (Below.size hb5)⟩ ?_
                rintro V6 ⟨hb6, ho6⟩
                refine wpAnyW_ready (rs := [4, 9]) (by kernel_rfl) (by simp) ?_
                refine AllReadyW.cons rfl (fun K hK => ?_) (AllReadyW.cons rfl (fun K hK => ?_) AllReadyW.nil)
                · refine step_appO bindT (by kernel_rfl) (.tmp 57) (.tmp 60) rfl w2.heap.size 0 [] _ ho6 (some ⟨g, 0, none⟩) k co (bL (L.take k)) (by rfl) (by rfl) HL1.out (HC1.out _ hb6) (flat_one' bc_one _) (by unfold maxLen; omega) (by omega) (Below.size hb6) ?_
                  intro v1 V7 ho7 hg7 _
                  have hb7 : Below w2.heap.size w2 V7 := hb6.grown hg7 (Below.size hb6) (fun j hj => (World.ownsRow.lt ho6 j hj).1)
                  refine hK.out _ _ hb7 (fun _ => ?_)
                  clear hK K
                  try simp only [Act.put, List.getElem_toArray, List.getElem_cons_succ, List.getElem_cons_zero, List.setIfInBounds_toArray, List.set_cons_succ, List.set_cons_zero]
                  refine wpAnyW_ready (rs := [9]) (by kernel_rfl) (by simp) ?_
                  refine AllReadyW.cons rfl (fun K hK => ?_) AllReadyW.nil
                  go_simp
                  refine hK.out _ _ (below_step hb7 (below_alloc _ _)) (fun _ => ?_)
                  clear hK K
                  try simp only [Act.put, List.getElem_toArray, List.getElem_cons_succ, List.getElem_cons_zero, List.setIfInBounds_toArray, List.set_cons_succ, List.set_cons_zero]
                  refine wpAnyW_world (fun V => Below w2.heap.size w2 V ∧ V.ownsRow w2.heap.size 52 5 v1 (0 + k) ([] ++ bL (L.take k)) ∧ Cs V (some ⟨V7.heap.size, 0, none⟩) [.string ⟨qn.toArray⟩, .int .i64 qe.t.kind, .int .i64 qe.t.int, .string ⟨qe.t.name.toArray⟩, .slice qe.A qe.t.items.length qe.c] ∧ V7.heap.size < V.heap.size) ⟨below_step hb7 (below_alloc _ _), ho7.alloc _, blk_cs (Blk.new V7 52 #[.string ⟨qn.toArray⟩, .int .i64 qe.t.kind, .int .i64 qe.t.int, .string ⟨qe.t.name.toArray⟩, .slice qe.A qe.t.items.length qe.c]), by simp⟩ ?_
                  rintro V8 ⟨hb8, ho8, hc8, hl8⟩
                  refine wpAnyW_ready (rs := [10]) (by kernel_rfl) (by simp) ?_
                  refine AllReadyW.cons rfl (fun K hK => ?_) AllReadyW.nil
                  refine step_appO bindT (by kernel_rfl) (.tmp 61) (.tmp 66) rfl w2.heap.size (0 + k) ([] ++ bL (L.take k)) v1 ho8 (some ⟨V7.heap.size, 0, none⟩) 1 1 [.string ⟨qn.toArray⟩, .int .i64 qe.t.kind, .int .i64 qe.t.int, .string ⟨qe.t.name.toArray⟩, .slice qe.A qe.t.items.length qe.c] (by rfl) (by rfl) (by rfl) hc8 (bc_one9 _ _ _ _ _ _ _) (by unfold maxLen; omega) (by omega) (Below.size hb8) ?_
                  intro v2 VY hoY hgY _
                  have hbY : Below w2.heap.size w2 VY := hb8.grown hgY (Below.size hb8) (fun j hj => (World.ownsRow.lt ho8 j hj).1)
                  refine hK.out _ _ hbY (fun _ => ?_)
                  clear hK K
                  try simp only [Act.put, List.getElem_toArray, List.getElem_cons_succ, List.getElem_cons_zero, List.setIfInBounds_toArray, List.set_cons_succ, List.set_cons_zero]
                  refine wpAnyW_ready (rs := [14]) (by kernel_rfl) (by simp) ?_
                  refine AllReadyW.consE rfl (by kernel_rfl) (fun K hK => ?_) AllReadyW.nil
                  refine step_appO bindT (by kernel_rfl) (.tmp 67) (.tmp 70) rfl w2.heap.size (0 + k + 1) (([] ++ bL (L.take k)) ++ [.string ⟨qn.toArray⟩, .int .i64 qe.t.kind, .int .i64 qe.t.int, .string ⟨qe.t.name.toArray⟩, .slice qe.A qe.t.items.length qe.c]) v2 hoY (some A3) (nl - k) (co - k) (bL (L.drop k)) (by rfl) (by rfl) HL3.out (HC3.out _ hbY) (flat_one' bc_one _) (by unfold maxLen; omega) (by omega) (Below.size hbY) ?_
                  intro v3 VZ hoZ hgZ _
                  have hbZ : Below w2.heap.size w2 VZ := hbY.grown hgZ (Below.size hbY) (fun j hj => (World.ownsRow.lt hoY j hj).1)
                  refine hK.out _ _ ?_
                  clear hK K
                  try simp only [Act.put, List.getElem_toArray, List.getElem_cons_succ, List.getElem_cons_zero, List.setIfInBounds_toArray, List.set_cons_succ, List.set_cons_zero]
                  refine wpAnyW_ready (rs := [15]) (by kernel_rfl) (by simp) ?_
                  refine AllReadyW.consE rfl (by kernel_rfl) (fun K hK => ?_) AllReadyW.nil
                  go_simp
                  refine hK.out _ _ ?_
                  clear hK K
                  try simp only [Act.put, List.getElem_toArray, List.getElem_cons_succ, List.getElem_cons_zero, List.setIfInBounds_toArray, List.set_cons_succ, List.set_cons_zero]
                  refine wpAnyW_done (by kernel_rfl) ?_ _
                  have hfin := HDONE.out VZ v3 hoZ
                  go_wp2
                  go_roundw
                  case rel => exact ⟨j + 1, by omega, by go_num, hfin, below_step HB2.out hbZ⟩
                  case measure => simp [intOf]; omega
                · go_simp
                  refine hK.out _ _ (below_step hb6 (below_alloc _ _)) (fun _ => ?_)
                  clear hK K
                  try simp only [Act.put, List.getElem_toArray, List.getElem_cons_succ, List.getElem_cons_zero, List.setIfInBounds_toArray, List.set_cons_succ, List.set_cons_zero]
                  refine wpAnyW_world (fun V => Below w2.heap.size w2 V ∧ V.ownsRow w2.heap.size 52 5 (.slice (some ⟨V5.heap.size, 0, none⟩) 0 0) 0 [] ∧ Cs V (some ⟨V6.heap.size, 0, none⟩) [.string ⟨qn.toArray⟩, .int .i64 qe.t.kind, .int .i64 qe.t.int, .string ⟨qe.t.name.toArray⟩, .slice qe.A qe.t.items.length qe.c] ∧ V6.heap.size < V.heap.size) ⟨below_step hb6 (below_alloc _ _), ho6.alloc _, blk_cs (Blk.new V6 52 #[.string ⟨qn.toArray⟩, .int .i64 qe.t.kind, .int .i64 qe.t.int, .string ⟨qe.t.name.toArray⟩, .slice qe.A qe.t.items.length qe.c]), by simp⟩ ?_
                  rintro V7 ⟨hb7, ho7, hc7, hl7⟩
                  refine wpAnyW_ready (rs := [4]) (by kernel_rfl) (by simp) ?_
                  refine AllReadyW.cons rfl (fun K hK => ?_) AllReadyW.nil
                  refine step_appO bindT (by kernel_rfl) (.tmp 57) (.tmp 60) rfl w2.heap.size 0 [] _ ho7 (some ⟨g, 0, none⟩) k co (bL (L.take k)) (by rfl) (by rfl) HL1.out (HC1.out _ hb7) (flat_one' bc_one _) (by unfold maxLen; omega) (by omega) (Below.size hb7) ?_
                  intro v1 V8 ho8 hg8 _
                  have hb8 : Below w2.heap.size w2 V8 := hb7.grown hg8 (Below.size hb7) (fun j hj => (World.ownsRow.lt ho7 j hj).1)
                  have hl9 : V5.heap.size < V6.heap.size := (World.ownsRow.lt ho6 _ rfl).2
                  have hc8 := csB_grown hc7 hg8 (by intro a ha; injection ha with ha; subst ha; simp [Value.ownBlock]; try omega)
                  refine hK.out _ _ hb8 (fun _ => ?_)
                  clear hK K
                  try simp only [Act.put, List.getElem_toArray, List.getElem_cons_succ, List.getElem_cons_zero, List.setIfInBounds_toArray, List.set_cons_succ, List.set_cons_zero]
                  refine wpAnyW_ready (rs := [10]) (by kernel_rfl) (by simp) ?_
                  refine AllReadyW.cons rfl (fun K hK => ?_) AllReadyW.nil
                  refine step_appO bindT (by kernel_rfl) (.tmp 61) (.tmp 66) rfl w2.heap.size (0 + k) ([] ++ bL (L.take k)) v1 ho8 (some ⟨V6.heap.size, 0, none⟩) 1 1 [.string ⟨qn.toArray⟩, .int .i64 qe.t.kind, .int .i64 qe.t.int, .string ⟨qe.t.name.toArray⟩, .slice qe.A qe.t.items.length qe.c] (by rfl) (by rfl) (by rfl) hc8 (bc_one9 _ _ _ _ _ _ _) (by unfold maxLen; omega) (by omega) (Below.size hb8) ?_
                  intro v2 VY hoY hgY _
                  have hbY : Below w2.heap.size w2 VY := hb8.grown hgY (Below.size hb8) (fun j hj => (World.ownsRow.lt ho8 j hj).1)
                  refine hK.out _ _ hbY (fun _ => ?_)
                  clear hK K
                  try simp only [Act.put, List.getElem_toArray, List.getElem_cons_succ, List.getElem_cons_zero, List.setIfInBounds_toArray, List.set_cons_succ, List.set_cons_zero]
                  refine wpAnyW_ready (rs := [14]) (by kernel_rfl) (by simp) ?_
                  refine AllReadyW.consE rfl (by kernel_rfl) (fun K hK => ?_) AllReadyW.nil
                  refine step_appO bindT (by kernel_rfl) (.tmp 67) (.tmp 70) rfl w2.heap.size (0 + k + 1) (([] ++ bL (L.take k)) ++ [.string ⟨qn.toArray⟩, .int .i64 qe.t.kind, .int .i64 qe.t.int, .string ⟨qe.t.name.toArray⟩, .slice qe.A qe.t.items.length qe.c]) v2 hoY (some A3) (nl - k) (co - k) (bL (L.drop k)) (by rfl) (by rfl) HL3.out (HC3.out _ hbY) (flat_one' bc_one _) (by unfold maxLen; omega) (by omega) (Below.size hbY) ?_
                  intro v3 VZ hoZ hgZ _
                  have hbZ : Below w2.heap.size w2 VZ := hbY.grown hgZ (Below.size hbY) (fun j hj => (World.ownsRow.lt hoY j hj).1)
                  refine hK.out _ _ ?_
                  clear hK K
                  try simp only [Act.put, List.getElem_toArray, List.getElem_cons_succ, List.getElem_cons_zero, List.setIfInBounds_toArray, List.set_cons_succ, List.set_cons_zero]
                  refine wpAnyW_ready (rs := [15]) (by kernel_rfl) (by simp) ?_
                  refine AllReadyW.consE rfl (by kernel_rfl) (fun K hK => ?_) AllReadyW.nil
                  go_simp
                  refine hK.out _ _ ?_
                  clear hK K
                  try simp only [Act.put, List.getElem_toArray, List.getElem_cons_succ, List.getElem_cons_zero, List.setIfInBounds_toArray, List.set_cons_succ, List.set_cons_zero]
                  refine wpAnyW_done (by kernel_rfl) ?_ _
                  have hfin := HDONE.out VZ v3 hoZ
                  go_wp2
                  go_roundw
                  case rel => exact ⟨j + 1, by omega, by go_num, hfin, below_step HB2.out hbZ⟩
                  case measure => simp [intOf]; omega
              · go_simp
                refine hK.out _ _ (below_step hb5 (below_alloc _ _)) (fun _ => ?_)
                clear hK K
                try simp only [Act.put, List.getElem_toArray, List.getElem_cons_succ, List.getElem_cons_zero, List.setIfInBounds_toArray, List.set_cons_succ, List.set_cons_zero]
                refine wpAnyW_world (fun V => Below w2.heap.size w2 V ∧ Cs V (some ⟨V5.heap.size, 0, none⟩) [.string ⟨qn.toArray⟩, .int .i64 qe.t.kind, .int .i64 qe.t.int, .string ⟨qe.t.name.toArray⟩, .slice qe.A qe.t.items.length qe.c] ∧ V5.heap.size < V.heap.size) ⟨below_step hb5 (below_alloc _ _), blk_cs (Blk.new V5 52 #[.string ⟨qn.toArray⟩, .int .i64 qe.t.kind, .int .i64 qe.t.int, .string ⟨qe.t.name.toArray⟩, .slice qe.A qe.t.items.length qe.c]), by simp⟩ ?_
                rintro V6 ⟨hb6, hc6, hl6⟩
                refine wpAnyW_ready (rs := [0]) (by kernel_rfl) (by simp) ?_
                refine AllReadyW.cons rfl (fun K hK => ?_) AllReadyW.nil
                go_simp
                refine hK.out _ _ (below_step hb6 (below_alloc _ _)) (fun _ => ?_)
                clear hK K
                try simp only [Act.put, List.getElem_toArray, List.getElem_cons_succ, List.getElem_cons_zero, List.setIfInBounds_toArray, List.set_cons_succ, List.set_cons_zero]
                refine wpAnyW_world (fun V => Below w2.heap.size w2 V ∧ V.ownsRow w2.heap.size 52 5 (.slice (some ⟨V6.heap.size, 0, none⟩) 0 0) 0 [] ∧ Cs V (some ⟨V5.heap.size, 0, none⟩) [.string ⟨qn.toArray⟩, .int .i64 qe.t.kind, .int .i64 qe.t.int, .string ⟨qe.t.name.toArray⟩, .slice qe.A qe.t.items.length qe.c] ∧ V5.heap.size < V.heap.size) ⟨below_step hb6 (below_alloc _ _), own_made w2.heap.size 52 5 (Below.size hb6), csB_below hc6 (below_alloc _ _), by simp; omega⟩ ?_
                rintro V7 ⟨hb7, ho7, hc7, hl7⟩
                refine wpAnyW_ready (rs := [4]) (by kernel_rfl) (by simp) ?_
                refine AllReadyW.cons rfl (fun K hK => ?_) AllReadyW.nil
                refine step_appO bindT (by kernel_rfl) (.tmp 57) (.tmp 60) rfl w2.heap.size 0 [] _ ho7 (some ⟨g, 0, none⟩) k co (bL (L.take k)) (by rfl) (by rfl) HL1.out (HC1.out _ hb7) (flat_one' bc_one _) (by unfold maxLen; omega) (by omega) (Below.size hb7) ?_
                intro v1 V8 ho8 hg8 _
                have hb8 : Below w2.heap.size w2 V8 := hb7.grown hg8 (Below.size hb7) (fun j hj => (World.ownsRow.lt ho7 j hj).1)
                have hc8 := csB_grown hc7 hg8 (by intro a ha; injection ha with ha; subst ha; simp [Value.ownBlock]; try omega)
                refine hK.out _ _ hb8 (fun _ => ?_)
                clear hK K
                try simp only [Act.put, List.getElem_toArray, List.getElem_cons_succ, List.getElem_cons_zero, List.setIfInBounds_toArray, List.set_cons_succ, List.set_cons_zero]
                refine wpAnyW_ready (rs := [10]) (by kernel_rfl) (by simp) ?_
                refine AllReadyW.cons rfl (fun K hK => ?_) AllReadyW.nil
                refine step_appO bindT (by kernel_rfl) (.tmp 61) (.tmp 66) rfl w2.heap.size (0 + k) ([] ++ bL (L.take k)) v1 ho8 (some ⟨V5.heap.size, 0, none⟩) 1 1 [.string ⟨qn.toArray⟩, .int .i64 qe.t.kind, .int .i64 qe.t.int, .string ⟨qe.t.name.toArray⟩, .slice qe.A qe.t.items.length qe.c] (by rfl) (by rfl) (by rfl) hc8 (bc_one9 _ _ _ _ _ _ _) (by unfold maxLen; omega) (by omega) (Below.size hb8) ?_
                intro v2 VY hoY hgY _
                have hbY : Below w2.heap.size w2 VY := hb8.grown hgY (Below.size hb8) (fun j hj => (World.ownsRow.lt ho8 j hj).1)
                refine hK.out _ _ hbY (fun _ => ?_)
                clear hK K
                try simp only [Act.put, List.getElem_toArray, List.getElem_cons_succ, List.getElem_cons_zero, List.setIfInBounds_toArray, List.set_cons_succ, List.set_cons_zero]
                refine wpAnyW_ready (rs := [14]) (by kernel_rfl) (by simp) ?_
                refine AllReadyW.consE rfl (by kernel_rfl) (fun K hK => ?_) AllReadyW.nil
                refine step_appO bindT (by kernel_rfl) (.tmp 67) (.tmp 70) rfl w2.heap.size (0 + k + 1) (([] ++ bL (L.take k)) ++ [.string ⟨qn.toArray⟩, .int .i64 qe.t.kind, .int .i64 qe.t.int, .string ⟨qe.t.name.toArray⟩, .slice qe.A qe.t.items.length qe.c]) v2 hoY (some A3) (nl - k) (co - k) (bL (L.drop k)) (by rfl) (by rfl) HL3.out (HC3.out _ hbY) (flat_one' bc_one _) (by unfold maxLen; omega) (by omega) (Below.size hbY) ?_
                intro v3 VZ hoZ hgZ _
                have hbZ : Below w2.heap.size w2 VZ := hbY.grown hgZ (Below.size hbY) (fun j hj => (World.ownsRow.lt hoY j hj).1)
                refine hK.out _ _ ?_
                clear hK K
                try simp only [Act.put, List.getElem_toArray, List.getElem_cons_succ, List.getElem_cons_zero, List.setIfInBounds_toArray, List.set_cons_succ, List.set_cons_zero]
                refine wpAnyW_ready (rs := [15]) (by kernel_rfl) (by simp) ?_
                refine AllReadyW.consE rfl (by kernel_rfl) (fun K hK => ?_) AllReadyW.nil
                go_simp
                refine hK.out _ _ ?_
                clear hK K
                try simp only [Act.put, List.getElem_toArray, List.getElem_cons_succ, List.getElem_cons_zero, List.setIfInBounds_toArray, List.set_cons_succ, List.set_cons_zero]
                refine wpAnyW_done (by kernel_rfl) ?_ _
                have hfin := HDONE.out VZ v3 hoZ
                go_wp2
                go_roundw
                case rel => exact ⟨j + 1, by omega, by go_num, hfin, below_step HB2.out hbZ⟩
                case measure => simp [intOf]; omega
        · obtain rfl : k = nl := by omega
          have hdk : decide (k < k) = false := by simp
          have HIN : Hid (insG (qn, qe) L = L.take k ++ [(qn, qe)] ++ L.drop k) := insG_put (qn, qe) L k (by rw [HNL.out]; exact Nat.le_refl _) HALL.out (fun h => by rw [HNL.out] at h; omega)
          rcases HO.out.2 with ⟨hv, _⟩ | ⟨g, cap', cur, hv, _⟩
          · obtain ⟨rfl, hn0, rfl⟩ := Value.slice.inj hv
            have hn0 : k = 0 := by omega
            subst hn0
            clear hv
            go_wp2
            go_quiet (fail)
            go_wp2
            go_quiet (fail)
            go_upto_region 10 with (fail)
            refine wp_world (fun U => Below w1.heap.size w1 U) (below_step HBB.out (below_drewN (below_drewN (Below.refl _ _) _) _)) ?_
            rintro w2 hb2
            have HB2 := Lib.hid (below_step HBW.out hb2)
            have HB21 := Lib.hid hb2
            have hw2 : w.heap.size ≤ w2.heap.size := HB2.out.size
            have HE2 : Hid (∀ U, Below w2.heap.size w2 U → U.cell? ⟨b, o + j * 5, none⟩ = some (.string ⟨qn.toArray⟩) ∧ U.cell? ⟨b, o + j * 5 + 1, none⟩ = some (.int .i64 qe.t.kind) ∧ U.cell? ⟨b, o + j * 5 + 2, none⟩ = some (.int .i64 qe.t.int) ∧ U.cell? ⟨b, o + j * 5 + 3, none⟩ = some (.string ⟨qe.t.name.toArray⟩) ∧ U.cell? ⟨b, o + j * 5 + 4, none⟩ = some (.slice qe.A qe.t.items.length qe.c)) := fun U hu => HE.out U (below_step hb2 hu)
            clear e0
            have HDONE : Hid (∀ (U : World) (v : Value), U.ownsRow w2.heap.size 52 5 v (0 + 0 + 1 + 0) ((([] ++ []) ++ [.string ⟨qn.toArray⟩, .int .i64 qe.t.kind, .int .i64 qe.t.int, .string ⟨qe.t.name.toArray⟩, .slice qe.A qe.t.items.length qe.c]) ++ []) → U.ownsRow w.heap.size 52 5 v (risG (E.take (j + 1))).length (bL (risG (E.take (j + 1))))) := fun U v ho => by
              rw [HTK.out, HIN.out, List.eq_nil_of_length_eq_zero HNL.out]
              exact own_low ho hw2
            refine wp_region_W 14 (fun V => Below w2.heap.size w2 V) (by kernel_rfl) ?_ (fun hS0 => ?_)
            · exact (Below.refl _ _).drew
            (refine wpAnyW_take (i := 1) (v := ?_) rfl (by kernel_rfl) (by kernel_rfl) (by kernel_rfl) (by kernel_rfl) (fun _ _ _ h => h) (Or.inl ⟨by kernel_rfl, ?_⟩) (by assumption) ?_; rotate_left; focus (intro V9 hS9; go_simp; (try (with_reducible rfl)); done))
            try simp only [Act.put, List.getElem_toArray, List.getElem_cons_succ, List.getElem_cons_zero, List.setIfInBounds_toArray, List.set_cons_succ, List.set_cons_zero]
            (refine wpAnyW_take (i := 2) (v := ?_) rfl (by kernel_rfl) (by kernel_rfl) (by kernel_rfl) (by kernel_rfl) (fun _ _ _ h => h) (Or.inl ⟨by kernel_rfl, ?_⟩) (by assumption) ?_; rotate_left; focus (intro V9 hS9; go_simp; (try (with_reducible rfl)); done))
            try simp only [Act.put, List.getElem_toArray, List.getElem_cons_succ, List.getElem_cons_zero, List.setIfInBounds_toArray, List.set_cons_succ, List.set_cons_zero]
            (refine wpAnyW_take (i := 3) (v := ?_) rfl (by kernel_rfl) (by kernel_rfl) (by kernel_rfl) (by kernel_rfl) (fun _ _ _ h => h) (Or.inl ⟨by kernel_rfl, ?_⟩) (by assumption) ?_; rotate_left; focus (intro V9 hS9; go_simp; (try (with_reducible rfl)); done))
            try simp only [Act.put, List.getElem_toArray, List.getElem_cons_succ, List.getElem_cons_zero, List.setIfInBounds_toArray, List.set_cons_succ, List.set_cons_zero]
            (refine wpAnyW_take (i := 5) (v := ?_) rfl (by kernel_rfl) (by kernel_rfl) (by kernel_rfl) (by kernel_rfl) (fun _ _ _ h => h) (Or.inl ⟨by kernel_rfl, ?_⟩) (by assumption) ?_; rotate_left; focus (intro V9 hS9; go_simp; (try (with_reducible rfl)); done))
            try simp only [Act.put, List.getElem_toArray, List.getElem_cons_succ, List.getElem_cons_zero, List.setIfInBounds_toArray, List.set_cons_succ, List.set_cons_zero]
            (refine wpAnyW_take (i := 6) (v := ?_) rfl (by kernel_rfl) (by kernel_rfl) (by kernel_rfl) (by kernel_rfl) (fun _ _ _ h => h) (Or.inl ⟨by kernel_rfl, ?_⟩) (by assumption) ?_; rotate_left; focus (intro V9 hS9; go_simp; (try (with_reducible rfl)); done))
            try simp only [Act.put, List.getElem_toArray, List.getElem_cons_succ, List.getElem_cons_zero, List.setIfInBounds_toArray, List.set_cons_succ, List.set_cons_zero]
            (refine wpAnyW_take (i := 7) (v := ?_) rfl (by kernel_rfl) (by kernel_rfl) (by kernel_rfl) (by kernel_rfl) (fun _ _ _ h => h) (Or.inl ⟨by kernel_rfl, ?_⟩) (by assumption) ?_; rotate_left; focus (intro V9 hS9; go_simp; (try (with_reducible rfl)); done))
            try simp only [Act.put, List.getElem_toArray, List.getElem_cons_succ, List.getElem_cons_zero, List.setIfInBounds_toArray, List.set_cons_succ, List.set_cons_zero]
            (refine wpAnyW_take (i := 8) (v := ?_) rfl (by kernel_rfl) (by kernel_rfl) (by kernel_rfl) (by kernel_rfl) (fun _ _ _ h => h) (Or.inl ⟨by kernel_rfl, ?_⟩) (by assumption) ?_; rotate_left; focus (intro V9 hS9; obtain ⟨z0, z1, z2, z3, z4⟩ := HE2.out V9 hS9; go_simp; (try (with_reducible rfl)); done))
            try simp only [Act.put, List.getElem_toArray, List.getElem_cons_succ, List.getElem_cons_zero, List.setIfInBounds_toArray, List.set_cons_succ, List.set_cons_zero]
            (refine wpAnyW_take (i := 11) (v := ?_) rfl (by kernel_rfl) (by kernel_rfl) (by kernel_rfl) (by kernel_rfl) (fun _ _ _ h => h) (Or.inl ⟨by kernel_rfl, ?_⟩) (by assumption) ?_; rotate_left; focus (intro V9 hS9; go_simp; (try (with_reducible rfl)); done))
            try simp only [Act.put, List.getElem_toArray, List.getElem_cons_succ, List.getElem_cons_zero, List.setIfInBounds_toArray, List.set_cons_succ, List.set_cons_zero]
            (refine wpAnyW_take (i := 12) (v := ?_) rfl (by kernel_rfl) (by kernel_rfl) (by kernel_rfl) (by kernel_rfl) (fun _ _ _ h => h) (Or.inl ⟨by kernel_rfl, ?_⟩) (by assumption) ?_; rotate_left; focus (intro V9 hS9; go_simp; (try (with_reducible rfl)); done))
            try simp only [Act.put, List.getElem_toArray, List.getElem_cons_succ, List.getElem_cons_zero, List.setIfInBounds_toArray, List.set_cons_succ, List.set_cons_zero]
            (refine wpAnyW_take (i := 13) (v := ?_) rfl (by kernel_rfl) (by kernel_rfl) (by kernel_rfl) (by kernel_rfl) (fun _ _ _ h => h) (Or.inl ⟨by kernel_rfl, ?_⟩) (by assumption) ?_; rotate_left; focus (intro V9 hS9; go_simp; (try (with_reducible rfl)); done))
            try simp only [Act.put, List.getElem_toArray, List.getElem_cons_succ, List.getElem_cons_zero, List.setIfInBounds_toArray, List.set_cons_succ, List.set_cons_zero]
            refine wpAnyW_world (fun V => Below w2.heap.size w2 V) hS0 ?_
            rintro V5 hb5
            refine wpAnyW_ready (rs := [0, 9]) (by kernel_rfl) (by simp) ?_
            refine AllReadyW.cons rfl (fun K hK => ?_) (AllReadyW.cons rfl (fun K hK => ?_) AllReadyW.nil)
            · go_simp
              refine hK.out _ _ (below_step hb5 (below_alloc _ _)) (fun _ => ?_)
              clear hK K
              try simp only [Act.put, List.getElem_toArray, List.getElem_cons_succ, List.getElem_cons_zero, List.setIfInBounds_toArray, List.set_cons_succ, List.set_cons_zero]
              refine wpAnyW_world (fun V => Below w2.heap.size w2 V ∧ V.ownsRow w2.heap.size 52 5 (.slice (some ⟨V5.heap.size, 0, none⟩) 0 0) 0 []) ⟨below_step hb5 (below_alloc _ _), own_made w2.heap.size 52 5 (Below.size hb5)⟩ ?_
              rintro V6 ⟨hb6, ho6⟩
              refine wpAnyW_ready (rs := [4, 9]) (by kernel_rfl) (by simp) ?_
              refine AllReadyW.cons rfl (fun K hK => ?_) (AllReadyW.cons rfl (fun K hK => ?_) AllReadyW.nil)
              · refine step_appO bindT (by kernel_rfl) (.tmp 57) (.tmp 60) rfl w2.heap.size 0 [] _ ho6 none 0 0 [] (by rfl) (by rfl) (by rfl) (.inl rfl) (by simp) (by unfold maxLen; omega) (by omega) (Below.size hb6) ?_
                intro v1 V7 ho7 hg7 _
                have hb7 : Below w2.heap.size w2 V7 := hb6.grown hg7 (Below.size hb6) (fun j hj => (World.ownsRow.lt ho6 j hj).1)
                refine hK.out _ _ hb7 (fun _ => ?_)
                clear hK K
                try simp only [Act.put, List.getElem_toArray, List.getElem_cons_succ, List.getElem_cons_zero, List.setIfInBounds_toArray, List.set_cons_succ, List.set_cons_zero]
                refine wpAnyW_ready (rs := [9]) (by kernel_rfl) (by simp) ?_
                refine AllReadyW.cons rfl (fun K hK => ?_) AllReadyW.nil
                go_simp
                refine hK.out _ _ (below_step hb7 (below_alloc _ _)) (fun _ => ?_)
                clear hK K
                try simp only [Act.put, List.getElem_toArray, List.getElem_cons_succ, List.getElem_cons_zero, List.setIfInBounds_toArray, List.set_cons_succ, List.set_cons_zero]
                refine wpAnyW_world (fun V => Below w2.heap.size w2 V ∧ V.ownsRow w2.heap.size 52 5 v1 (0 + 0) ([] ++ []) ∧ Cs V (some ⟨V7.heap.size, 0, none⟩) [.string ⟨qn.toArray⟩, .int .i64 qe.t.kind, .int .i64 qe.t.int, .string ⟨qe.t.name.toArray⟩, .slice qe.A qe.t.items.length qe.c] ∧ V7.heap.size < V.heap.size) ⟨below_step hb7 (below_alloc _ _), ho7.alloc _, blk_cs (Blk.new V7 52 #[.string ⟨qn.toArray⟩, .int .i64 qe.t.kind, .int .i64 qe.t.int, .string ⟨qe.t.name.toArray⟩, .slice qe.A qe.t.items.length qe.c]), by simp⟩ ?_
                rintro V8 ⟨hb8, ho8, hc8, hl8⟩
                refine wpAnyW_ready (rs := [10]) (by kernel_rfl) (by simp) ?_
                refine AllReadyW.cons rfl (fun K hK => ?_) AllReadyW.nil
                refine step_appO bindT (by kernel_rfl) (.tmp 61) (.tmp 66) rfl w2.heap.size (0 + 0) ([] ++ []) v1 ho8 (some ⟨V7.heap.size, 0, none⟩) 1 1 [.string ⟨qn.toArray⟩, .int .i64 qe.t.kind, .int .i64 qe.t.int, .string ⟨qe.t.name.toArray⟩, .slice qe.A qe.t.items.length qe.c] (by rfl) (by rfl) (by rfl) hc8 (bc_one9 _ _ _ _ _ _ _) (by unfold maxLen; omega) (by omega) (Below.size hb8) ?_
                intro v2 VY hoY hgY _
                have hbY : Below w2.heap.size w2 VY := hb8.grown hgY (Below.size hb8) (fun j hj => (World.ownsRow.lt ho8 j hj).1)
                refine hK.out _ _ hbY (fun _ => ?_)
                clear hK K
                try simp only [Act.put, List.getElem_toArray, List.getElem_cons_succ, List.getElem_cons_zero, List.setIfInBounds_toArray, List.set_cons_succ, List.set_cons_zero]
                refine wpAnyW_ready (rs := [14]) (by kernel_rfl) (by simp) ?_
                refine AllReadyW.consE rfl (by kernel_rfl) (fun K hK => ?_) AllReadyW.nil
                refine step_appO bindT (by kernel_rfl) (.tmp 67) (.tmp 70) rfl w2.heap.size (0 + 0 + 1) (([] ++ []) ++ [.string ⟨qn.toArray⟩, .int .i64 qe.t.kind, .int .i64 qe.t.int, .string ⟨qe.t.name.toArray⟩, .slice qe.A qe.t.items.length qe.c]) v2 hoY none 0 0 [] (by rfl) (by rfl) (by rfl) (.inl rfl) (by simp) (by unfold maxLen; omega) (by omega) (Below.size hbY) ?_
                intro v3 VZ hoZ hgZ _
                have hbZ : Below w2.heap.size w2 VZ := hbY.grown hgZ (Below.size hbY) (fun j hj => (World.ownsRow.lt hoY j hj).1)
                refine hK.out _ _ ?_
                clear hK K
                try simp only [Act.put, List.getElem_toArray, List.getElem_cons_succ, List.getElem_cons_zero, List.setIfInBounds_toArray, List.set_cons_succ, List.set_cons_zero]
                refine wpAnyW_ready (rs := [15]) (by kernel_rfl) (by simp) ?_
                refine AllReadyW.consE rfl (by kernel_rfl) (fun K hK => ?_) AllReadyW.nil
                go_simp
                refine hK.out _ _ ?_
                clear hK K
                try simp only [Act.put, List.getElem_toArray, List.getElem_cons_succ, List.getElem_cons_zero, List.setIfInBounds_toArray, List.set_cons_succ, List.set_cons_zero]
                refine wpAnyW_done (by kernel_rfl) ?_ _
                have hfin := HDONE.out VZ v3 hoZ
                go_wp2
                go_roundw
                case rel => exact ⟨j + 1, by omega, by go_num, hfin, below_step HB2.out hbZ⟩
                case measure => simp [intOf]; omega
              · go_simp
                refine hK.out _ _ (below_step hb6 (below_alloc _ _)) (fun _ => ?_)
                clear hK K
                try simp only [Act.put, List.getElem_toArray, List.getElem_cons_succ, List.getElem_cons_zero, List.setIfInBounds_toArray, List.set_cons_succ, List.set_cons_zero]
                refine wpAnyW_world (fun V => Below w2.heap.size w2 V ∧ V.ownsRow w2.heap.size 52 5 (.slice (some ⟨V5.heap.size, 0, none⟩) 0 0) 0 [] ∧ Cs V (some ⟨V6.heap.size, 0, none⟩) [.string ⟨qn.toArray⟩, .int .i64 qe.t.kind, .int .i64 qe.t.int, .string ⟨qe.t.name.toArray⟩, .slice qe.A qe.t.items.length qe.c] ∧ V6.heap.size < V.heap.size) ⟨below_step hb6 (below_alloc _ _), ho6.alloc _, blk_cs (Blk.new V6 52 #[.string ⟨qn.toArray⟩, .int .i64 qe.t.kind, .int .i64 qe.t.int, .string ⟨qe.t.name.toArray⟩, .slice qe.A qe.t.items.length qe.c]), by simp⟩ ?_
                rintro V7 ⟨hb7, ho7, hc7, hl7⟩
                refine wpAnyW_ready (rs := [4]) (by kernel_rfl) (by simp) ?_
                refine AllReadyW.cons rfl (fun K hK => ?_) AllReadyW.nil
                refine step_appO bindT (by kernel_rfl) (.tmp 57) (.tmp 60) rfl w2.heap.size 0 [] _ ho7 none 0 0 [] (by rfl) (by rfl) (by rfl) (.inl rfl) (by simp) (by unfold maxLen; omega) (by omega) (Below.size hb7) ?_
                intro v1 V8 ho8 hg8 _
                have hb8 : Below w2.heap.size w2 V8 := hb7.grown hg8 (Below.size hb7) (fun j hj => (World.ownsRow.lt ho7 j hj).1)
                have hl9 : V5.heap.size < V6.heap.size := (World.ownsRow.lt ho6 _ rfl).2
                have hc8 := csB_grown hc7 hg8 (by intro a ha; injection ha with ha; subst ha; simp [Value.ownBlock]; try omega)
                refine hK.out _ _ hb8 (fun _ => ?_)
                clear hK K
                try simp only [Act.put, List.getElem_toArray, List.getElem_cons_succ, List.getElem_cons_zero, List.setIfInBounds_toArray, List.set_cons_succ, List.set_cons_zero]
                refine wpAnyW_ready (rs := [10]) (by kernel_rfl) (by simp) ?_
                refine AllReadyW.cons rfl (fun K hK => ?_) AllReadyW.nil
                refine step_appO bindT (by kernel_rfl) (.tmp 61) (.tmp 66) rfl w2.heap.size (0 + 0) ([] ++ []) v1 ho8 (some ⟨V6.heap.size, 0, none⟩) 1 1 [.string ⟨qn.toArray⟩, .int .i64 qe.t.kind, .int .i64 qe.t.int, .string ⟨qe.t.name.toArray⟩, .slice qe.A qe.t.items.length qe.c] (by rfl) (by rfl) (by rfl) hc8 (bc_one9 _ _ _ _ _ _ _) (by unfold maxLen; omega) (by omega) (Below.size hb8) ?_
                intro v2 VY hoY hgY _
                have hbY : Below w2.heap.size w2 VY := hb8.grown hgY (Below.size hb8) (fun j hj => (World.ownsRow.lt ho8 j hj).1)
                refine hK.out _ _ hbY (fun _ => ?_)
                clear hK K
                try simp only [Act.put, List.getElem_toArray, List.getElem_cons_succ, List.getElem_cons_zero, List.setIfInBounds_toArray, List.set_cons_succ, List.set_cons_zero]
                refine wpAnyW_ready (rs := [14]) (by kernel_rfl) (by simp) ?_
                refine AllReadyW.consE rfl (by kernel_rfl) (fun K hK => ?_) AllReadyW.nil
                refine step_appO bindT (by kernel_rfl) (.tmp 67) (.tmp 70) rfl w2.heap.size (0 + 0 + 1) (([] ++ []) ++ [.string ⟨qn.toArray⟩, .int .i64 qe.t.kind, .int .i64 qe.t.int, .string ⟨qe.t.name.toArray⟩, .slice qe.A qe.t.items.length qe.c]) v2 hoY none 0 0 [] (by rfl) (by rfl) (by rfl) (.inl rfl) (by simp) (by unfold maxLen; omega) (by omega) (Below.size hbY) ?_
                intro v3 VZ hoZ hgZ _
                have hbZ : Below w2.heap.size w2 VZ := hbY.grown hgZ (Below.size hbY) (fun j hj => (World.ownsRow.lt hoY j hj).1)
                refine hK.out _ _ ?_
                clear hK K
                try simp only [Act.put, List.getElem_toArray, List.getElem_cons_succ, List.getElem_cons_zero, List.setIfInBounds_toArray, List.set_cons_succ, List.set_cons_zero]
                refine wpAnyW_ready (rs := [15]) (by kernel_rfl) (by simp) ?_
                refine AllReadyW.consE rfl (by kernel_rfl) (fun K hK => ?_) AllReadyW.nil
                go_simp
                refine hK.out _ _ ?_
                clear hK K
                try simp only [Act.put, List.getElem_toArray, List.getElem_cons_succ, List.getElem_cons_zero, List.setIfInBounds_toArray, List.set_cons_succ, List.set_cons_zero]
                refine wpAnyW_done (by kernel_rfl) ?_ _
                have hfin := HDONE.out VZ v3 hoZ
                go_wp2
                go_roundw
                case rel => exact ⟨j + 1, by omega, by go_num, hfin, below_step HB2.out hbZ⟩
                case measure => simp [intOf]; omega
            · go_simp
              refine hK.out _ _ (below_step hb5 (below_alloc _ _)) (fun _ => ?_)
              clear hK K
              try simp only [Act.put, List.getElem_toArray, List.getElem_cons_succ, List.getElem_cons_zero, List.setIfInBounds_toArray, List.set_cons_succ, List.set_cons_zero]
              refine wpAnyW_world (fun V => Below w2.heap.size w2 V ∧ Cs V (some ⟨V5.heap.size, 0, none⟩) [.string ⟨qn.toArray⟩, .int .i64 qe.t.kind, .int .i64 qe.t.int, .string ⟨qe.t.name.toArray⟩, .slice qe.A qe.t.items.length qe.c] ∧ V5.heap.size < V.heap.size) ⟨below_step hb5 (below_alloc _ _), blk_cs (Blk.new V5 52 #[.string ⟨qn.toArray⟩, .int .i64 qe.t.kind, .int .i64 qe.t.int, .string ⟨qe.t.name.toArray⟩, .slice qe.A qe.t.items.length qe.c]), by simp⟩ ?_
              rintro V6 ⟨hb6, hc6, hl6⟩
              refine wpAnyW_ready (rs := [0]) (by kernel_rfl) (by simp) ?_
              refine AllReadyW.cons rfl (fun K hK => ?_) AllReadyW.nil
              go_simp
              refine hK.out _ _ (below_step hb6 (below_alloc _ _)) (fun _ => ?_)
              clear hK K
              try simp only [Act.put, List.getElem_toArray, List.getElem_cons_succ, List.getElem_cons_zero, List.setIfInBounds_toArray, List.set_cons_succ, List.set_cons_zero]
              refine wpAnyW_world (fun V => Below w2.heap.size w2 V ∧ V.ownsRow w2.heap.size 52 5 (.slice (some ⟨V6.heap.size, 0, none⟩) 0 0) 0 [] ∧ Cs V (some ⟨V5.heap.size, 0, none⟩) [.string ⟨qn.toArray⟩, .int .i64 qe.t.kind, .int .i64 qe.t.int, .string ⟨qe.t.name.toArray⟩, .slice qe.A qe.t.items.length qe.c] ∧ V5.heap.size < V.heap.size) ⟨below_step hb6 (below_alloc _ _), own_made w2.heap.size 52 5 (Below.size hb6), csB_below hc6 (below_alloc _ _), by simp; omega⟩ ?_
              rintro V7 ⟨hb7, ho7, hc7, hl7⟩
              refine wpAnyW_ready (rs := [4]) (by kernel_rfl) (by simp) ?_
              refine AllReadyW.cons rfl (fun K hK => ?_) AllReadyW.nil
              refine step_appO bindT (by kernel_rfl) (.tmp 57) (.tmp 60) rfl w2.heap.size 0 [] _ ho7 none 0 0 [] (by rfl) (by rfl) (by rfl) (.inl rfl) (by simp) (by unfold maxLen; omega) (by omega) (Below.size hb7) ?_
              intro v1 V8 ho8 hg8 _
              have hb8 : Below w2.heap.size w2 V8 := hb7.grown hg8 (Below.size hb7) (fun j hj => (World.ownsRow.lt ho7 j hj).1)
              have hc8 := csB_grown hc7 hg8 (by intro a ha; injection ha with ha; subst ha; simp [Value.ownBlock]; try omega)
              refine hK.out _ _ hb8 (fun _ => ?_)
              clear hK K
              try simp only [Act.put, List.getElem_toArray, List.getElem_cons_succ, List.getElem_cons_zero, List.setIfInBounds_toArray, List.set_cons_succ, List.set_cons_zero]
              refine wpAnyW_ready (rs := [10]) (by kernel_rfl) (by simp) ?_
              refine AllReadyW.cons rfl (fun K hK => ?_) AllReadyW.nil
              refine step_appO bindT (by kernel_rfl) (.tmp 61) (.tmp 66) rfl w2.heap.size (0 + 0) ([] ++ []) v1 ho8 (some ⟨V5.heap.size, 0, none⟩) 1 1 [.string ⟨qn.toArray⟩, .int .i64 qe.t.kind, .int .i64 qe.t.int, .string ⟨qe.t.name.toArray⟩, .slice qe.A qe.t.items.length qe.c] (by rfl) (by rfl) (by rfl) hc8 (bc_one9 _ _ _ _ _ _ _) (by unfold maxLen; omega) (by omega) (Below.size hb8) ?_
              intro v2 VY hoY hgY _
              have hbY : Below w2.heap.size w2 VY := hb8.grown hgY (Below.size hb8) (fun j hj => (World.ownsRow.lt ho8 j hj).1)
              refine hK.out _ _ hbY (fun _ => ?_)
              clear hK K
              try simp only [Act.put, List.getElem_toArray, List.getElem_cons_succ, List.getElem_cons_zero, List.setIfInBounds_toArray, List.set_cons_succ, List.set_cons_zero]
              refine wpAnyW_ready (rs := [14]) (by kernel_rfl) (by simp) ?_
              refine AllReadyW.consE rfl (by kernel_rfl) (fun K hK => ?_) AllReadyW.nil
              refine step_appO bindT (by kernel_rfl) (.tmp 67) (.tmp 70) rfl w2.heap.size (0 + 0 + 1) (([] ++ []) ++ [.string ⟨qn.toArray⟩, .int .i64 qe.t.kind, .int .i64 qe.t.int, .string ⟨qe.t.name.toArray⟩, .slice qe.A qe.t.items.length qe.c]) v2 hoY none 0 0 [] (by rfl) (by rfl) (by rfl) (.inl rfl) (by simp) (by unfold maxLen; omega) (by omega) (Below.size hbY) ?_
              intro v3 VZ hoZ hgZ _
              have hbZ : Below w2.heap.size w2 VZ := hbY.grown hgZ (Below.size hbY) (fun j hj => (World.ownsRow.lt hoY j hj).1)
              refine hK.out _ _ ?_
              clear hK K
              try simp only [Act.put, List.getElem_toArray, List.getElem_cons_succ, List.getElem_cons_zero, List.setIfInBounds_toArray, List.set_cons_succ, List.set_cons_zero]
              refine wpAnyW_ready (rs := [15]) (by kernel_rfl) (by simp) ?_
              refine AllReadyW.consE rfl (by kernel_rfl) (fun K hK => ?_) AllReadyW.nil
              go_simp
              refine hK.out _ _ ?_
              clear hK K
              try simp only [Act.put, List.getElem_toArray, List.getElem_cons_succ, List.getElem_cons_zero, List.setIfInBounds_toArray, List.set_cons_succ, List.set_cons_zero]
              refine wpAnyW_done (by kernel_rfl) ?_ _
              have hfin := HDONE.out VZ v3 hoZ
              go_wp2
              go_roundw
              case rel => exact ⟨j + 1, by omega, by go_num, hfin, below_step HB2.out hbZ⟩
              case measure => simp [intOf]; omega
          · obtain ⟨rfl, _, hco⟩ := Value.slice.inj hv
            clear hv hco
            go_wp2
            go_quiet (fail)
            go_wp2
            go_quiet (fail)
            go_upto_region 10 with (fail)
            refine wp_world (fun U => Below w1.heap.size w1 U) (below_step HBB.out (below_drewN (below_drewN (Below.refl _ _) _) _)) ?_
            rintro w2 hb2
            have HB2 := Lib.hid (below_step HBW.out hb2)
            have HB21 := Lib.hid hb2
            have hw2 : w.heap.size ≤ w2.heap.size := HB2.out.size
            have HE2 : Hid (∀ U, Below w2.heap.size w2 U → U.cell? ⟨b, o + j * 5, none⟩ = some (.string ⟨qn.toArray⟩) ∧ U.cell? ⟨b, o + j * 5 + 1, none⟩ = some (.int .i64 qe.t.kind) ∧ U.cell? ⟨b, o + j * 5 + 2, none⟩ = some (.int .i64 qe.t.int) ∧ U.cell? ⟨b, o + j * 5 + 3, none⟩ = some (.string ⟨qe.t.name.toArray⟩) ∧ U.cell? ⟨b, o + j * 5 + 4, none⟩ = some (.slice qe.A qe.t.items.length qe.c)) := fun U hu => HE.out U (below_step hb2 hu)
            clear e0
            have HC1 : Hid (∀ U, Below w2.heap.size w2 U → Cs U (some ⟨g, 0, none⟩) (bL (L.take k))) := fun U hu => csB_below (rdb_take HRL.out k) (below_step HB21.out hu)
            have HL1 : Hid ((bL (L.take k)).length = k * 5) := by unfold Hid; rw [flat_len bc_len, List.length_take, HNL.out, Nat.min_eq_left (by omega)]
            have HL3 : Hid ((bL (L.drop k)).length = 0 * 5) := by unfold Hid; rw [flat_len bc_len, List.length_drop, HNL.out, Nat.sub_self]
            obtain ⟨A3, hA3, hcs3⟩ : ∃ A3 : Addr, (if co = k then some (⟨g, 0, none⟩ : Addr) else some ⟨g, k * 5, none⟩) = some A3 ∧ ∀ U, Below w2.heap.size w2 U → Cs U (some A3) (bL (L.drop k)) := by
              by_cases hc : co = k
              · refine ⟨⟨g, 0, none⟩, by simp [hc], fun U hu => .inl ?_⟩
                rw [List.drop_eq_nil_of_le (by rw [HNL.out]; omega)]
                rfl
              · refine ⟨⟨g, k * 5, none⟩, by simp [hc], fun U hu => ?_⟩
                have := rdb_drop HRL.out k (by rw [HNL.out]; omega)
                rw [Nat.zero_add] at this
                exact csB_below this (below_step HB21.out hu)
            have HC3 := Lib.hid hcs3
            have HDONE : Hid (∀ (U : World) (v : Value), U.ownsRow w2.heap.size 52 5 v (0 + k + 1 + 0) ((([] ++ bL (L.take k)) ++ [.string ⟨qn.toArray⟩, .int .i64 qe.t.kind, .int .i64 qe.t.int, .string ⟨qe.t.name.toArray⟩, .slice qe.A qe.t.items.length qe.c]) ++ bL (L.drop k)) → U.ownsRow w.heap.size 52 5 v (risG (E.take (j + 1))).length (bL (risG (E.take (j + 1))))) := fun U v ho => by
              rw [HTK.out, HIN.out]
              have h1 : (L.take k ++ [(qn, qe)] ++ L.drop k).length = 0 + k + 1 + 0 := by
                rw [List.length_append, List.length_append, List.length_take, List.length_drop, HNL.out, Nat.min_eq_left (by omega)]
                simp
              rw [h1, bL_append, bL_append]
              rw [List.nil_append] at ho
              exact own_low ho hw2
            have hkc : k ≤ co := by omega
            have hkn : k ≤ k := by omega
            clear hcs3
            refine wp_region_W 14 (fun V => Below w2.heap.size w2 V) (by kernel_rfl) ?_ (fun hS0 => ?_)
            · exact (Below.refl _ _).drew
            (refine wpAnyW_take (i := 1) (v := ?_) rfl (by kernel_rfl) (by kernel_rfl) (by kernel_rfl) (by kernel_rfl) (fun _ _ _ h => h) (Or.inl ⟨by kernel_rfl, ?_⟩) (by assumption) ?_; rotate_left; focus (intro V9 hS9; go_simp; (try (with_reducible rfl)); done))
            try simp only [Act.put, List.getElem_toArray, List.getElem_cons_succ, List.getElem_cons_zero, List.setIfInBounds_toArray, List.set_cons_succ, List.set_cons_zero]
            (refine wpAnyW_take (i := 2) (v := ?_) rfl (by kernel_rfl) (by kernel_rfl) (by kernel_rfl) (by kernel_rfl) (fun _ _ _ h => h) (Or.inl ⟨by kernel_rfl, ?_⟩) (by assumption) ?_; rotate_left; focus (intro V9 hS9; go_simp; (try (with_reducible rfl)); done))
            try simp only [Act.put, List.getElem_toArray, List.getElem_cons_succ, List.getElem_cons_zero, List.setIfInBounds_toArray, List.set_cons_succ, List.set_cons_zero]
            (refine wpAnyW_take (i := 3) (v := ?_) rfl (by kernel_rfl) (by kernel_rfl) (by kernel_rfl) (by kernel_rfl) (fun _ _ _ h => h) (Or.inl ⟨by kernel_rfl, ?_⟩) (by assumption) ?_; rotate_left; focus (intro V9 hS9; go_simp; (try (with_reducible rfl)); done))
            try simp only [Act.put, List.getElem_toArray, List.getElem_cons_succ, List.getElem_cons_zero, List.setIfInBounds_toArray, List.set_cons_succ, List.set_cons_zero]
            (refine wpAnyW_take (i := 5) (v := ?_) rfl (by kernel_rfl) (by kernel_rfl) (by kernel_rfl) (by kernel_rfl) (fun _ _ _ h => h) (Or.inl ⟨by kernel_rfl, ?_⟩) (by assumption) ?_; rotate_left; focus (intro V9 hS9; go_simp; (try (with_reducible rfl)); done))
            try simp only [Act.put, List.getElem_toArray, List.getElem_cons_succ, List.getElem_cons_zero, List.setIfInBounds_toArray, List.set_cons_succ, List.set_cons_zero]
            (refine wpAnyW_take (i := 6) (v := ?_) rfl (by kernel_rfl) (by kernel_rfl) (by kernel_rfl) (by kernel_rfl) (fun _ _ _ h => h) (Or.inl ⟨by kernel_rfl, ?_⟩) (by assumption) ?_; rotate_left; focus (intro V9 hS9; go_simp; (try (with_reducible rfl)); done))
            try simp only [Act.put, List.getElem_toArray, List.getElem_cons_succ, List.getElem_cons_zero, List.setIfInBounds_toArray, List.set_cons_succ, List.set_cons_zero]
            (refine wpAnyW_take (i := 7) (v := ?_) rfl (by kernel_rfl) (by kernel_rfl) (by kernel_rfl) (by kernel_rfl) (fun _ _ _ h => h) (Or.inl ⟨by kernel_rfl, ?_⟩) (by assumption) ?_; rotate_left; focus (intro V9 hS9; go_simp; (try (with_reducible rfl)); done))
            try simp only [Act.put, List.getElem_toArray, List.getElem_cons_succ, List.getElem_cons_zero, List.setIfInBounds_toArray, List.set_cons_succ, List.set_cons_zero]
            (refine wpAnyW_take (i := 8) (v := ?_) rfl (by kernel_rfl) (by kernel_rfl) (by kernel_rfl) (by kernel_rfl) (fun _ _ _ h => h) (Or.inl ⟨by kernel_rfl, ?_⟩) (by assumption) ?_; rotate_left; focus (intro V9 hS9; obtain ⟨z0, z1, z2, z3, z4⟩ := HE2.out V9 hS9; go_simp; (try (with_reducible rfl)); done))
            try simp only [Act.put, List.getElem_toArray, List.getElem_cons_succ, List.getElem_cons_zero, List.setIfInBounds_toArray, List.set_cons_succ, List.set_cons_zero]
            (refine wpAnyW_take (i := 11) (v := ?_) rfl (by kernel_rfl) (by kernel_rfl) (by kernel_rfl) (by kernel_rfl) (fun _ _ _ h => h) (Or.inl ⟨by kernel_rfl, ?_⟩) (by assumption) ?_; rotate_left; focus (intro V9 hS9; go_simp; (try (with_reducible rfl)); done))
            try simp only [Act.put, List.getElem_toArray, List.getElem_cons_succ, List.getElem_cons_zero, List.setIfInBounds_toArray, List.set_cons_succ, List.set_cons_zero]
            (refine wpAnyW_take (i := 12) (v := ?_) rfl (by kernel_rfl) (by kernel_rfl) (by kernel_rfl) (by kernel_rfl) (fun _ _ _ h => h) (Or.inl ⟨by kernel_rfl, ?_⟩) (by assumption) ?_; rotate_left; focus (intro V9 hS9; go_simp; (try (with_reducible rfl)); done))
            try simp only [Act.put, List.getElem_toArray, List.getElem_cons_succ, List.getElem_cons_zero, List.setIfInBounds_toArray, List.set_cons_succ, List.set_cons_zero]
            (refine wpAnyW_take (i := 13) (v := ?_) rfl (by kernel_rfl) (by kernel_rfl) (by kernel_rfl) (by kernel_rfl) (fun _ _ _ h => h) (Or.inl ⟨by kernel_rfl, ?_⟩) (by assumption) ?_; rotate_left; focus (intro V9 hS9; go_simp; (try (with_reducible rfl)); done))
            try simp only [Act.put, List.getElem_toArray, List.getElem_cons_succ, List.getElem_cons_zero, List.setIfInBounds_toArray, List.set_cons_succ, List.set_cons_zero]
            refine wpAnyW_world (fun V => Below w2.heap.size w2 V) hS0 ?_
            rintro V5 hb5
            refine wpAnyW_ready (rs := [0, 9]) (by kernel_rfl) (by simp) ?_
            refine AllReadyW.cons rfl (fun K hK => ?_) (AllReadyW.cons rfl (fun K hK => ?_) AllReadyW.nil)
            · go_simp
              refine hK.out _ _ (below_step hb5 (below_alloc _ _)) (fun _ => ?_)
              clear hK K
              try simp only [Act.put, List.getElem_toArray, List.getElem_cons_succ, List.getElem_cons_zero, List.setIfInBounds_toArray, List.set_cons_succ, List.set_cons_zero]
              refine wpAnyW_world (fun V => Below w2.heap.size w2 V ∧ V.ownsRow w2.heap.size 52 5 (.slice (some ⟨V5.heap.size, 0, none⟩) 0 0) 0 []) ⟨below_step hb5 (below_alloc _ _), own_made w2.heap.size 52 5 (Below.size hb5)⟩ ?_
              rintro V6 ⟨hb6, ho6⟩
              refine wpAnyW_ready (rs := [4, 9]) (by kernel_rfl) (by simp) ?_
              refine AllReadyW.cons rfl (fun K hK => ?_) (AllReadyW.cons rfl (fun K hK => ?_) AllReadyW.nil)
              · refine step_appO bindT (by kernel_rfl) (.tmp 57) (.tmp 60) rfl w2.heap.size 0 [] _ ho6 (some ⟨g, 0, none⟩) k co (bL (L.take k)) (by rfl) (by rfl) HL1.out (HC1.out _ hb6) (flat_one' bc_one _) (by unfold maxLen; omega) (by omega) (Below.size hb6) ?_
                intro v1 V7 ho7 hg7 _
                have hb7 : Below w2.heap.size w2 V7 := hb6.grown hg7 (Below.size hb6) (fun j hj => (World.ownsRow.lt ho6 j hj).1)
                refine hK.out _ _ hb7 (fun _ => ?_)
                clear hK K
                try simp only [Act.put, List.getElem_toArray, List.getElem_cons_succ, List.getElem_cons_zero, List.setIfInBounds_toArray, List.set_cons_succ, List.set_cons_zero]
                refine wpAnyW_ready (rs := [9]) (by kernel_rfl) (by simp) ?_
                refine AllReadyW.cons rfl (fun K hK => ?_) AllReadyW.nil
                go_simp
                refine hK.out _ _ (below_step hb7 (below_alloc _ _)) (fun _ => ?_)
                clear hK K
                try simp only [Act.put, List.getElem_toArray, List.getElem_cons_succ, List.getElem_cons_zero, List.setIfInBounds_toArray, List.set_cons_succ, List.set_cons_zero]
                refine wpAnyW_world (fun V => Below w2.heap.size w2 V ∧ V.ownsRow w2.heap.size 52 5 v1 (0 + k) ([] ++ bL (L.take k)) ∧ Cs V (some ⟨V7.heap.size, 0, none⟩) [.string ⟨qn.toArray⟩, .int .i64 qe.t.kind, .int .i64 qe.t.int, .string ⟨qe.t.name.toArray⟩, .slice qe.A qe.t.items.length qe.c] ∧ V7.heap.size < V.heap.size) ⟨below_step hb7 (below_alloc _ _), ho7.alloc _, blk_cs (Blk.new V7 52 #[.string ⟨qn.toArray⟩, .int .i64 qe.t.kind, .int .i64 qe.t.int, .string ⟨qe.t.name.toArray⟩, .slice qe.A qe.t.items.length qe.c]), by simp⟩ ?_
                rintro V8 ⟨hb8, ho8, hc8, hl8⟩
                refine wpAnyW_ready (rs := [10]) (by kernel_rfl) (by simp) ?_
                refine AllReadyW.cons rfl (fun K hK => ?_) AllReadyW.nil
                refine step_appO bindT (by kernel_rfl) (.tmp 61) (.tmp 66) rfl w2.heap.size (0 + k) ([] ++ bL (L.take k)) v1 ho8 (some ⟨V7.heap.size, 0, none⟩) 1 1 [.string ⟨qn.toArray⟩, .int .i64 qe.t.kind, .int .i64 qe.t.int, .string ⟨qe.t.name.toArray⟩, .slice qe.A qe.t.items.length qe.c] (by rfl) (by rfl) (by rfl) hc8 (bc_one9 _ _ _ _ _ _ _) (by unfold maxLen; omega) (by omega) (Below.size hb8) ?_
                intro v2 VY hoY hgY _
                have hbY : Below w2.heap.size w2 VY := hb8.grown hgY (Below.size hb8) (fun j hj => (World.ownsRow.lt ho8 j hj).1)
                refine hK.out _ _ hbY (fun _ => ?_)
                clear hK K
                try simp only [Act.put, List.getElem_toArray, List.getElem_cons_succ, List.getElem_cons_zero, List.setIfInBounds_toArray, List.set_cons_succ, List.set_cons_zero]
                refine wpAnyW_ready (rs := [14]) (by kernel_rfl) (by simp) ?_
                refine AllReadyW.consE rfl (by kernel_rfl) (fun K hK => ?_) AllReadyW.nil
                refine step_appO bindT (by kernel_rfl) (.tmp 67) (.tmp 70) rfl w2.heap.size (0 + k + 1) (([] ++ bL (L.take k)) ++ [.string ⟨qn.toArray⟩, .int .i64 qe.t.kind, .int .i64 qe.t.int, .string ⟨qe.t.name.toArray⟩, .slice qe.A qe.t.items.length qe.c]) v2 hoY (some A3) 0 (co - k) (bL (L.drop k)) (by rfl) (by rfl) HL3.out (HC3.out _ hbY) (flat_one' bc_one _) (by unfold maxLen; omega) (by omega) (Below.size hbY) ?_
                intro v3 VZ hoZ hgZ _
                have hbZ : Below w2.heap.size w2 VZ := hbY.grown hgZ (Below.size hbY) (fun j hj => (World.ownsRow.lt hoY j hj).1)
                refine hK.out _ _ ?_
                clear hK K
                try simp only [Act.put, List.getElem_toArray, List.getElem_cons_succ, List.getElem_cons_zero, List.setIfInBounds_toArray, List.set_cons_succ, List.set_cons_zero]
                refine wpAnyW_ready (rs := [15]) (by kernel_rfl) (by simp) ?_
                refine AllReadyW.consE rfl (by kernel_rfl) (fun K hK => ?_) AllReadyW.nil
                go_simp
                refine hK.out _ _ ?_
                clear hK K
                try simp only [Act.put, List.getElem_toArray, List.getElem_cons_succ, List.getElem_cons_zero, List.setIfInBounds_toArray, List.set_cons_succ, List.set_cons_zero]
                refine wpAnyW_done (by kernel_rfl) ?_ _
                have hfin := HDONE.out VZ v3 hoZ
                go_wp2
                go_roundw
                case rel => exact ⟨j + 1, by omega, by go_num, hfin, below_step HB2.out hbZ⟩
                case measure => simp [intOf]; omega
              · go_simp
                refine hK.out _ _ (below_step hb6 (below_alloc _ _)) (fun _ => ?_)
                clear hK K
                try simp only [Act.put, List.getElem_toArray, List.getElem_cons_succ, List.getElem_cons_zero, List.setIfInBounds_toArray, List.set_cons_succ, List.set_cons_zero]
                refine wpAnyW_world (fun V => Below w2.heap.size w2 V ∧ V.ownsRow w2.heap.size 52 5 (.slice (some ⟨V5.heap.size, 0, none⟩) 0 0) 0 [] ∧ Cs V (some ⟨V6.heap.size, 0, none⟩) [.string ⟨qn.toArray⟩, .int .i64 qe.t.kind, .int .i64 qe.t.int, .string ⟨qe.t.name.toArray⟩, .slice qe.A qe.t.items.length qe.c] ∧ V6.heap.size < V.heap.size) ⟨below_step hb6 (below_alloc _ _), ho6.alloc _, blk_cs (Blk.new V6 52 #[.string ⟨qn.toArray⟩, .int .i64 qe.t.kind, .int .i64 qe.t.int, .string ⟨qe.t.name.toArray⟩, .slice qe.A qe.t.items.length qe.c]), by simp⟩ ?_
                rintro V7 ⟨hb7, ho7, hc7, hl7⟩
                refine wpAnyW_ready (rs := [4]) (by kernel_rfl) (by simp) ?_
                refine AllReadyW.cons rfl (fun K hK => ?_) AllReadyW.nil
                refine step_appO bindT (by kernel_rfl) (.tmp 57) (.tmp 60) rfl w2.heap.size 0 [] _ ho7 (some ⟨g, 0, none⟩) k co (bL (L.take k)) (by rfl) (by rfl) HL1.out (HC1.out _ hb7) (flat_one' bc_one _) (by unfold maxLen; omega) (by omega) (Below.size hb7) ?_
                intro v1 V8 ho8 hg8 _
                have hb8 : Below w2.heap.size w2 V8 := hb7.grown hg8 (Below.size hb7) (fun j hj => (World.ownsRow.lt ho7 j hj).1)
                have hl9 : V5.heap.size < V6.heap.size := (World.ownsRow.lt ho6 _ rfl).2
                have hc8 := csB_grown hc7 hg8 (by intro a ha; injection ha with ha; subst ha; simp [Value.ownBlock]; try omega)
                refine hK.out _ _ hb8 (fun _ => ?_)
                clear hK K
                try simp only [Act.put, List.getElem_toArray, List.getElem_cons_succ, List.getElem_cons_zero, List.setIfInBounds_toArray, List.set_cons_succ, List.set_cons_zero]
                refine wpAnyW_ready (rs := [10]) (by kernel_rfl) (by simp) ?_
                refine AllReadyW.cons rfl (fun K hK => ?_) AllReadyW.nil
                refine step_appO bindT (by kernel_rfl) (.tmp 61) (.tmp 66) rfl w2.heap.size (0 + k) ([] ++ bL (L.take k)) v1 ho8 (some ⟨V6.heap.size, 0, none⟩) 1 1 [.string ⟨qn.toArray⟩, .int .i64 qe.t.kind, .int .i64 qe.t.int, .string ⟨qe.t.name.toArray⟩, .slice qe.A qe.t.items.length qe.c] (by rfl) (by rfl) (by rfl) hc8 (bc_one9 _ _ _ _ _ _ _) (by unfold maxLen; omega) (by omega) (Below.size hb8) ?_
                intro v2 VY hoY hgY _
                have hbY : Below w2.heap.size w2 VY := hb8.grown hgY (Below.size hb8) (fun j hj => (World.ownsRow.lt ho8 j hj).1)
                refine hK.out _ _ hbY (fun _ => ?_)
                clear hK K
                try simp only [Act.put, List.getElem_toArray, List.getElem_cons_succ, List.getElem_cons_zero, List.setIfInBounds_toArray, List.set_cons_succ, List.set_cons_zero]
                refine wpAnyW_ready (rs := [14]) (by kernel_rfl) (by simp) ?_
                refine AllReadyW.consE rfl (by kernel_rfl) (fun K hK => ?_) AllReadyW.nil
                refine step_appO bindT (by kernel_rfl) (.tmp 67) (.tmp 70) rfl w2.heap.size (0 + k + 1) (([] ++ bL (L.take k)) ++ [.string ⟨qn.toArray⟩, .int .i64 qe.t.kind, .int .i64 qe.t.int, .string ⟨qe.t.name.toArray⟩, .slice qe.A qe.t.items.length qe.c]) v2 hoY (some A3) 0 (co - k) (bL (L.drop k)) (by rfl) (by rfl) HL3.out (HC3.out _ hbY) (flat_one' bc_one _) (by unfold maxLen; omega) (by omega) (Below.size hbY) ?_
                intro v3 VZ hoZ hgZ _
                have hbZ : Below w2.heap.size w2 VZ := hbY.grown hgZ (Below.size hbY) (fun j hj => (World.ownsRow.lt hoY j hj).1)
                refine hK.out _ _ ?_
                clear hK K
                try simp only [Act.put, List.getElem_toArray, List.getElem_cons_succ, List.getElem_cons_zero, List.setIfInBounds_toArray, List.set_cons_succ, List.set_cons_zero]
                refine wpAnyW_ready (rs := [15]) (by kernel_rfl) (by simp) ?_
                refine AllReadyW.consE rfl (by kernel_rfl) (fun K hK => ?_) AllReadyW.nil
                go_simp
                refine hK.out _ _ ?_
                clear hK K
                try simp only [Act.put, List.getElem_toArray, List.getElem_cons_succ, List.getElem_cons_zero, List.setIfInBounds_toArray, List.set_cons_succ, List.set_cons_zero]
                refine wpAnyW_done (by kernel_rfl) ?_ _
                have hfin := HDONE.out VZ v3 hoZ
                go_wp2
                go_roundw
                case rel => exact ⟨j + 1, by omega, by go_num, hfin, below_step HB2.out hbZ⟩
                case measure => simp [intOf]; omega
            · go_simp
              refine hK.out _ _ (below_step hb5 (below_alloc _ _)) (fun _ => ?_)
              clear hK K
              try simp only [Act.put, List.getElem_toArray, List.getElem_cons_succ, List.getElem_cons_zero, List.setIfInBounds_toArray, List.set_cons_succ, List.set_cons_zero]
              refine wpAnyW_world (fun V => Below w2.heap.size w2 V ∧ Cs V (some ⟨V5.heap.size, 0, none⟩) [.string ⟨qn.toArray⟩, .int .i64 qe.t.kind, .int .i64 qe.t.int, .string ⟨qe.t.name.toArray⟩, .slice qe.A qe.t.items.length qe.c] ∧ V5.heap.size < V.heap.size) ⟨below_step hb5 (below_alloc _ _), blk_cs (Blk.new V5 52 #[.string ⟨qn.toArray⟩, .int .i64 qe.t.kind, .int .i64 qe.t.int, .string ⟨qe.t.name.toArray⟩, .slice qe.A qe.t.items.length qe.c]), by simp⟩ ?_
              rintro V6 ⟨hb6, hc6, hl6⟩
              refine wpAnyW_ready (rs := [0]) (by kernel_rfl) (by simp) ?_
              refine AllReadyW.cons rfl (fun K hK => ?_) AllReadyW.nil
              go_simp
              refine hK.out _ _ (below_step hb6 (below_alloc _ _)) (fun _ => ?_)
              clear hK K
              try simp only [Act.put, List.getElem_toArray, List.getElem_cons_succ, List.getElem_cons_zero, List.setIfInBounds_toArray, List.set_cons_succ, List.set_cons_zero]
              refine wpAnyW_world (fun V => Below w2.heap.size w2 V ∧ V.ownsRow w2.heap.size 52 5 (.slice (some ⟨V6.heap.size, 0, none⟩) 0 0) 0 [] ∧ Cs V (some ⟨V5.heap.size, 0, none⟩) [.string ⟨qn.toArray⟩, .int .i64 qe.t.kind, .int .i64 qe.t.int, .string ⟨qe.t.name.toArray⟩, .slice qe.A qe.t.items.length qe.c] ∧ V5.heap.size < V.heap.size) ⟨below_step hb6 (below_alloc _ _), own_made w2.heap.size 52 5 (Below.size hb6), csB_below hc6 (below_alloc _ _), by simp; omega⟩ ?_
              rintro V7 ⟨hb7, ho7, hc7, hl7⟩
              refine wpAnyW_ready (rs := [4]) (by kernel_rfl) (by simp) ?_
              refine AllReadyW.cons rfl (fun K hK => ?_) AllReadyW.nil
              refine step_appO bindT (by kernel_rfl) (.tmp 57) (.tmp 60) rfl w2.heap.size 0 [] _ ho7 (some ⟨g, 0, none⟩) k co (bL (L.take k)) (by rfl) (by rfl) HL1.out (HC1.out _ hb7) (flat_one' bc_one _) (by unfold maxLen; omega) (by omega) (Below.size hb7) ?_
              intro v1 V8 ho8 hg8 _
              have hb8 : Below w2.heap.size w2 V8 := hb7.grown hg8 (Below.size hb7) (fun j hj => (World.ownsRow.lt ho7 j hj).1)
              have hc8 := csB_grown hc7 hg8 (by intro a ha; injection ha with ha; subst ha; simp [Value.ownBlock]; try omega)
              refine hK.out _ _ hb8 (fun _ => ?_)
              clear hK K
              try simp only [Act.put, List.getElem_toArray, List.getElem_cons_succ, List.getElem_cons_zero, List.setIfInBounds_toArray, List.set_cons_succ, List.set_cons_zero]
              refine wpAnyW_ready (rs := [10]) (by kernel_rfl) (by simp) ?_
              refine AllReadyW.cons rfl (fun K hK => ?_) AllReadyW.nil
              refine step_appO bindT (by kernel_rfl) (.tmp 61) (.tmp 66) rfl w2.heap.size (0 + k) ([] ++ bL (L.take k)) v1 ho8 (some ⟨V5.heap.size, 0, none⟩) 1 1 [.string ⟨qn.toArray⟩, .int .i64 qe.t.kind, .int .i64 qe.t.int, .string ⟨qe.t.name.toArray⟩, .slice qe.A qe.t.items.length qe.c] (by rfl) (by rfl) (by rfl) hc8 (bc_one9 _ _ _ _ _ _ _) (by unfold maxLen; omega) (by omega) (Below.size hb8) ?_
              intro v2 VY hoY hgY _
              have hbY : Below w2.heap.size w2 VY := hb8.grown hgY (Below.size hb8) (fun j hj => (World.ownsRow.lt ho8 j hj).1)
              refine hK.out _ _ hbY (fun _ => ?_)
              clear hK K
              try simp only [Act.put, List.getElem_toArray, List.getElem_cons_succ, List.getElem_cons_zero, List.setIfInBounds_toArray, List.set_cons_succ, List.set_cons_zero]
              refine wpAnyW_ready (rs := [14]) (by kernel_rfl) (by simp) ?_
              refine AllReadyW.consE rfl (by kernel_rfl) (fun K hK => ?_) AllReadyW.nil
              refine step_appO bindT (by kernel_rfl) (.tmp 67) (.tmp 70) rfl w2.heap.size (0 + k + 1) (([] ++ bL (L.take k)) ++ [.string ⟨qn.toArray⟩, .int .i64 qe.t.kind, .int .i64 qe.t.int, .string ⟨qe.t.name.toArray⟩, .slice qe.A qe.t.items.length qe.c]) v2 hoY (some A3) 0 (co - k) (bL (L.drop k)) (by rfl) (by rfl) HL3.out (HC3.out _ hbY) (flat_one' bc_one _) (by unfold maxLen; omega) (by omega) (Below.size hbY) ?_
              intro v3 VZ hoZ hgZ _
              have hbZ : Below w2.heap.size w2 VZ := hbY.grown hgZ (Below.size hbY) (fun j hj => (World.ownsRow.lt hoY j hj).1)
              refine hK.out _ _ ?_
              clear hK K
              try simp only [Act.put, List.getElem_toArray, List.getElem_cons_succ, List.getElem_cons_zero, List.setIfInBounds_toArray, List.set_cons_succ, List.set_cons_zero]
              refine wpAnyW_ready (rs := [15]) (by kernel_rfl) (by simp) ?_
              refine AllReadyW.consE rfl (by kernel_rfl) (fun K hK => ?_) AllReadyW.nil
              go_simp
              refine hK.out _ _ ?_
              clear hK K
              try simp only [Act.put, List.getElem_toArray, List.getElem_cons_succ, List.getElem_cons_zero, List.setIfInBounds_toArray, List.set_cons_succ, List.set_cons_zero]
              refine wpAnyW_done (by kernel_rfl) ?_ _
              have hfin := HDONE.out VZ v3 hoZ
              go_wp2
              go_roundw
              case rel => exact ⟨j + 1, by omega, by go_num, hfin, below_step HB2.out hbZ⟩
              case measure => simp [intOf]; omega
    · obtain rfl : j = n := by omega
      have hd : decide (j < j) = false := by simp
      have h1 : E.take j = E := List.take_of_length_le (by rw [HN.out]; exact Nat.le_refl _)
      rw [h1] at ho
      have HO := Lib.hid ho
      have HBW := Lib.hid hb
      clear ho hb h1
      go_wp2
      go_ret
      exact HFIN.out _ _ HBW.out HO.out
end
section
open Go.RowKit
set_option linter.unusedVariables false

/-- How All and Match end. -/
def RAEnd (W : World) (R : Option (List BV)) (e : Ending) (w' : World) : Prop :=
  ∃ (A : Option Addr) (c : Nat) (E : List (BG (TE w'))), e = .returned (.tuple #[.slice A E.length c, .bool R.isSome]) ∧ vE E = R.getD [] ∧ RdB w' A c E ∧ Below W.heap.size W w'
theorem RAEnd.no {W V : World} {R : Option (List BV)} (hR : R = none) (hb : Below W.heap.size W V) : RAEnd W R (.returned (.tuple #[.slice none 0 0, .bool false])) V := by
  subst hR
  exact ⟨none, 0, [], rfl, rfl, RdB.nil_ (by omega), hb⟩

set_option maxRecDepth 100000 in
set_option maxHeartbeats 8000000 in
theorem rall_any {K : List (List UInt8)} (hK2 : K.length ≤ 1000000) (W : World) (l : List ND) (lA : Option Addr) (lc : Nat) (ts : List TV) (tA : Option Addr) (tc : Nat) (E : List (BG (TE W))) (A : Option Addr) (c : Nat) (hR : RdN NoB W lA lc l) (hnm : ND.allL (fun w => w ∈ K) l) (hT : RdM W tA tc ts) (hE : RdB W A c E) (hL : LimN K ((vE E).map (·.1))) :
    Calls Tryz.prog 11 #[.slice lA l.length lc, .slice tA ts.length tc, .slice A E.length c] W (RAEnd W (allP l ts (vE E))) := by
  have htc := hT.1
  have htc2 := hT.2.1
  have hlc := hR.1
  have hlc2 := hR.2.1
  have HT := Lib.hid hT
  have HR := Lib.hid hR
  have HNM := Lib.hid hnm
  have HRE := Lib.hid hE
  have HLE := Lib.hid hL
  obtain ⟨m, hm⟩ : ∃ m, l.length = m := ⟨_, rfl⟩
  obtain ⟨mt, hmt⟩ : ∃ m, ts.length = m := ⟨_, rfl⟩
  obtain ⟨ne, hne⟩ : ∃ ne, E.length = ne := ⟨_, rfl⟩
  have HM := Lib.hid hm
  have HMT := Lib.hid hmt
  have HNE := Lib.hid hne
  obtain ⟨RES, hres⟩ : ∃ R, allP l ts (vE E) = R := ⟨_, rfl⟩
  rw [hres, hm, hmt, hne]
  rw [hm] at hlc
  rw [hmt] at htc
  have HRES := Lib.hid hres
  clear hR hnm hT hE hL hm hmt hne hres
  by_cases hq : m = mt
  rotate_left
  · have d1 : ((m : Int) != (mt : Int)) = true := by simp; omega
    have HNO := Lib.hid (show RES = none by rw [← HRES.out]; unfold allP; rw [if_neg (by rw [HM.out, HMT.out]; exact fun h => hq h.1)])
    go_enter Tryz.func11, Tryz.ntmps11
    go_wp2
    refine bodyPost_ret (v := .tuple #[.slice none 0 0, .bool false]) (by simp [results, Tryz.results11, go_sem]) rfl ?_
    exact RAEnd.no HNO.out (Below.refl _ _)
  subst hq
  have HNOP : Hid (patL l = false → RES = none) := fun h => by rw [← HRES.out]; unfold allP; rw [if_neg (by rw [h]; simp)]
  have HYES : Hid (patL l = true → RES = if (matchL l ts (vE E)).2 then some (risG (matchL l ts (vE E)).1) else none) := fun h => by rw [← HRES.out]; unfold allP; rw [if_pos ⟨by rw [HM.out, HMT.out], h⟩]
  clear HRES
  go_enter Tryz.func11, Tryz.ntmps11
  go_wp2
  go_loopw [8] (fun i wr => ∃ k : Nat, k ≤ m ∧ i = .int .i64 k ∧ patL (l.take k) = true ∧ Below W.heap.size W wr) (fun i _ => m - (intOf i).toNat)
  case atStart => exact ⟨0, Nat.zero_le _, rfl, by simp [patL], Below.refl _ _⟩
  case round =>
    obtain ⟨k, hk, rfl, hall, hb⟩ := hrel
    have HALL := Lib.hid hall
    clear hall
    by_cases hlt : k < m
    · have hkl : k < l.length := by rw [HM.out]; exact hlt
      obtain ⟨b, o, x, rfl, hx, hok, e0, e1, e2, e3, e4, e5, e6⟩ := rdn_item (HR.out.below hb) hkl
      have HC := Lib.hid (rpat_any x.t.parts x wr (Nat.le_refl _) hok)
      have HTK := Lib.hid (patL_take l k hkl)
      have HTL := Lib.hid (patL_no l k hkl)
      rw [← hx] at HTK HTL
      have q1 : (0 : Int) ≤ (k : Int) := by omega
      have q2 : (k : Int) < (m : Int) := by omega
      have hd2 : decide (k < m) = true := by simp; omega
      clear hx hok hkl
      cases hti : patB x.t with
      | true =>
        rw [hti] at HC HTK
        go_wp2_with (go_at_call 17; refine HC.out.mono ?_; rintro e w5 ⟨rfl, hb5⟩)
        go_roundw
        case rel => exact ⟨k + 1, by omega, by go_num, by rw [HTK.out, HALL.out]; rfl, below_step hb hb5⟩
        case measure => simp [intOf]; omega
      | false =>
        rw [hti] at HC
        go_wp2_with (go_at_call 17; refine HC.out.mono ?_; rintro e w5 ⟨rfl, hb5⟩)
        refine bodyPost_ret (v := .tuple #[.slice none 0 0, .bool false]) (by simp [results, Tryz.results11, go_sem]) rfl ?_
        exact RAEnd.no (HNOP.out (HTL.out hti)) (below_step hb hb5)
    · obtain rfl : k = m := by omega
      have hd2 : decide (k < k) = false := by simp
      have h9 := HALL.out
      rw [List.take_of_length_le (by rw [HM.out]; exact Nat.le_refl _)] at h9
      have HPL := Lib.hid h9
      have HY := Lib.hid (HYES.out h9)
      have HB1 := Lib.hid hb
      clear h9 HALL hb HYES HNOP hd2 hlt hk
      obtain ⟨m, rfl⟩ : ∃ x, x = k := ⟨_, rfl⟩
      obtain ⟨w1, rfl⟩ : ∃ x, x = wr := ⟨_, rfl⟩
      have hd2 : decide (m < m) = false := by simp
      go_wp2
      clear hd2
      go_loopw [2, 9, 10] (fun ev ok i wr => ∃ (k : Nat) (A1 : Option Addr) (c1 : Nat) (E1 : List (BG (TE wr))), k ≤ m ∧ i = .int .i64 k ∧ ev = .slice A1 E1.length c1 ∧ ok = .bool (matchL (l.take k) (ts.take k) (vE E)).2 ∧ vE E1 = (matchL (l.take k) (ts.take k) (vE E)).1 ∧ RdB wr A1 c1 E1 ∧ LimN K ((vE E1).map (·.1)) ∧ Below w1.heap.size w1 wr) (fun _ _ i _ => m - (intOf i).toNat)
      case atStart => exact ⟨0, A, c, upE HB1.out E, Nat.zero_le _, rfl, by rw [upE_len, HNE.out], by simp [matchL], by rw [vE_up]; simp [matchL], (HRE.out.below HB1.out).up HB1.out, by rw [vE_up]; exact HLE.out, Below.refl _ _⟩
      case round =>
        obtain ⟨k, A1, c1, E1, hk, rfl, rfl, rfl, hv, hrd, hlim, hb⟩ := hrel
        obtain ⟨bo, hbo⟩ : ∃ b, (matchL (l.take k) (ts.take k) (vE E)).2 = b := ⟨_, rfl⟩
        obtain ⟨n1, hn1⟩ : ∃ n, E1.length = n := ⟨_, rfl⟩
        have HBO := Lib.hid hbo
        have HV := Lib.hid hv
        have HRD := Lib.hid hrd
        have HLM := Lib.hid hlim
        have HBW := Lib.hid (below_step HB1.out hb)
        have HN1 := Lib.hid hn1
        rw [hbo, hn1]
        clear hbo hv hrd hlim hn1
        by_cases hlt : k < m
        · have hd : decide (k < m) = true := by simp; omega
          cases bo with
          | true =>
            have hkl : k < l.length := by rw [HM.out]; exact hlt
            have hkt : k < ts.length := by rw [HMT.out]; exact hlt
            obtain ⟨b, o, x, rfl, hx, hok, e0, e1, e2, e3, e4, e5, e6⟩ := rdn_item (HR.out.below HBW.out) hkl
            obtain ⟨b2, o2, A2, c2, rfl, f0, f1, f2, f3, hR1⟩ := (HT.out.below HBW.out).item hkt
            have hd0 : Below wr.heap.size wr wr.drew := (Below.refl _ _).drew
            have hc := rmatch_any hK2 x.t.parts x wr.drew ⟨ts[k], A2, c2, hR1.below hd0⟩ (upE hd0 E1) A1 c1 (Nat.le_refl _) (hok.below hd0) (by rw [hx]; exact patL_at HPL.out hkl) (by rw [hx]; exact ndall_at HNM.out hkl) ((HRD.out.below hd0).up hd0) (by rw [vE_up]; exact HLM.out)
            rw [upE_len, vE_up, HN1.out] at hc
            have htk := matchL_take l ts (vE E) k hkl hkt HBO.out
            rw [← hx, ← HV.out] at htk
            simp only at hc
            generalize ts[k] = tt at *
            have HC := Lib.hid hc
            have HTK := Lib.hid htk
            have HYX : Hid (∀ U, Below wr.heap.size wr U → U.cell? ⟨b, o + k * 7, none⟩ = some (.int .i64 x.t.kind) ∧ U.cell? ⟨b, o + k * 7 + 1, none⟩ = some (.int .i64 x.t.int) ∧ U.cell? ⟨b, o + k * 7 + 2, none⟩ = some (.string ⟨x.t.name.toArray⟩) ∧ U.cell? ⟨b, o + k * 7 + 3, none⟩ = some (.int .i64 x.t.at_) ∧ U.cell? ⟨b, o + k * 7 + 4, none⟩ = some (.slice x.A x.t.kids.length x.c) ∧ U.cell? ⟨b, o + k * 7 + 5, none⟩ = some (.slice x.B x.t.clauses.length x.d) ∧ U.cell? ⟨b, o + k * 7 + 6, none⟩ = some (.slice x.C x.t.body.length x.e) ∧ U.cell? ⟨b2, o2 + k * 4, none⟩ = some (.int .i64 tt.kind) ∧ U.cell? ⟨b2, o2 + k * 4 + 1, none⟩ = some (.int .i64 tt.int) ∧ U.cell? ⟨b2, o2 + k * 4 + 2, none⟩ = some (.string ⟨tt.name.toArray⟩) ∧ U.cell? ⟨b2, o2 + k * 4 + 3, none⟩ = some (.slice A2 tt.items.length c2)) := by
              have hk : ∀ {ad : Addr} {v : Value}, wr.cell? ad = some v → ∀ U, Below wr.heap.size wr U → U.cell? ad = some v := fun h U hu => (hu.cell (World.block_lt_of_cell? wr _ h)).trans h
              exact fun U hu => ⟨hk e0 U hu, hk e1 U hu, hk e2 U hu, hk e3 U hu, hk e4 U hu, hk e5 U hu, hk e6 U hu, hk f0 U hu, hk f1 U hu, hk f2 U hu, hk f3 U hu⟩
            have q1 : (0 : Int) ≤ (k : Int) := by omega
            have q2 : (k : Int) < (m : Int) := by omega
            clear hx hok hkl hkt hc htk hR1 e0 e1 e2 e3 e4 e5 e6 f0 f1 f2 f3
            go_wp2
            refine wp_region_W 9 (fun U => Below wr.heap.size wr U) (by kernel_rfl) ?_ (fun hS0 => ?_)
            · exact (Below.refl _ _).drew
            (refine wpAnyW_take (i := 0) (v := ?_) rfl (by kernel_rfl) (by kernel_rfl) (by kernel_rfl) (by kernel_rfl) (fun _ _ _ h => h) (Or.inl ⟨by kernel_rfl, ?_⟩) (by assumption) ?_; rotate_left; focus (intro V9 hS9; obtain ⟨z2, z3, z4, z5, z6, z7, z8, z9, z10, z11, z12⟩ := HYX.out V9 hS9; go_simp; (try (with_reducible rfl)); done))
            try simp only [Act.put, List.getElem_toArray, List.getElem_cons_zero, List.setIfInBounds_toArray, List.set_cons_succ, List.set_cons_zero]
            (refine wpAnyW_take (i := 1) (v := ?_) rfl (by kernel_rfl) (by kernel_rfl) (by kernel_rfl) (by kernel_rfl) (fun _ _ _ h => h) (Or.inl ⟨by kernel_rfl, ?_⟩) (by assumption) ?_; rotate_left; focus (intro V9 hS9; obtain ⟨z2, z3, z4, z5, z6, z7, z8, z9, z10, z11, z12⟩ := HYX.out V9 hS9; go_simp; (try (with_reducible rfl)); done))
            try simp only [Act.put, List.getElem_toArray, List.getElem_cons_succ, List.getElem_cons_zero, List.setIfInBounds_toArray, List.set_cons_succ, List.set_cons_zero]
            (refine wpAnyW_take (i := 2) (v := ?_) rfl (by kernel_rfl) (by kernel_rfl) (by kernel_rfl) (by kernel_rfl) (fun _ _ _ h => h) (Or.inl ⟨by kernel_rfl, ?_⟩) (by assumption) ?_; rotate_left; focus (intro V9 hS9; obtain ⟨z2, z3, z4, z5, z6, z7, z8, z9, z10, z11, z12⟩ := HYX.out V9 hS9; go_simp; (try (with_reducible rfl)); done))
            try simp only [Act.put, List.getElem_toArray, List.getElem_cons_succ, List.getElem_cons_zero, List.setIfInBounds_toArray, List.set_cons_succ, List.set_cons_zero]
            (refine wpAnyW_take (i := 3) (v := ?_) rfl (by kernel_rfl) (by kernel_rfl) (by kernel_rfl) (by kernel_rfl) (fun _ _ _ h => h) (Or.inl ⟨by kernel_rfl, ?_⟩) (by assumption) ?_; rotate_left; focus (intro V9 hS9; obtain ⟨z2, z3, z4, z5, z6, z7, z8, z9, z10, z11, z12⟩ := HYX.out V9 hS9; go_simp; (try (with_reducible rfl)); done))
            try simp only [Act.put, List.getElem_toArray, List.getElem_cons_succ, List.getElem_cons_zero, List.setIfInBounds_toArray, List.set_cons_succ, List.set_cons_zero]
            (refine wpAnyW_take (i := 4) (v := ?_) rfl (by kernel_rfl) (by kernel_rfl) (by kernel_rfl) (by kernel_rfl) (fun _ _ _ h => h) (Or.inl ⟨by kernel_rfl, ?_⟩) (by assumption) ?_; rotate_left; focus (intro V9 hS9; obtain ⟨z2, z3, z4, z5, z6, z7, z8, z9, z10, z11, z12⟩ := HYX.out V9 hS9; go_simp; (try (with_reducible rfl)); done))
            try simp only [Act.put, List.getElem_toArray, List.getElem_cons_succ, List.getElem_cons_zero, List.setIfInBounds_toArray, List.set_cons_succ, List.set_cons_zero]
            (refine wpAnyW_take (i := 5) (v := ?_) rfl (by kernel_rfl) (by kernel_rfl) (by kernel_rfl) (by kernel_rfl) (fun _ _ _ h => h) (Or.inl ⟨by kernel_rfl, ?_⟩) (by assumption) ?_; rotate_left; focus (intro V9 hS9; obtain ⟨z2, z3, z4, z5, z6, z7, z8, z9, z10, z11, z12⟩ := HYX.out V9 hS9; go_simp; (try (with_reducible rfl)); done))
            try simp only [Act.put, List.getElem_toArray, List.getElem_cons_succ, List.getElem_cons_zero, List.setIfInBounds_toArray, List.set_cons_succ, List.set_cons_zero]
            (refine wpAnyW_take (i := 6) (v := ?_) rfl (by kernel_rfl) (by kernel_rfl) (by kernel_rfl) (by kernel_rfl) (fun _ _ _ h => h) (Or.inl ⟨by kernel_rfl, ?_⟩) (by assumption) ?_; rotate_left; focus (intro V9 hS9; obtain ⟨z2, z3, z4, z5, z6, z7, z8, z9, z10, z11, z12⟩ := HYX.out V9 hS9; go_simp; (try (with_reducible rfl)); done))
            try simp only [Act.put, List.getElem_toArray, List.getElem_cons_succ, List.getElem_cons_zero, List.setIfInBounds_toArray, List.set_cons_succ, List.set_cons_zero]
            (refine wpAnyW_take (i := 7) (v := ?_) rfl (by kernel_rfl) (by kernel_rfl) (by kernel_rfl) (by kernel_rfl) (fun _ _ _ h => h) (Or.inl ⟨by kernel_rfl, ?_⟩) (by assumption) ?_; rotate_left; focus (intro V9 hS9; obtain ⟨z2, z3, z4, z5, z6, z7, z8, z9, z10, z11, z12⟩ := HYX.out V9 hS9; go_simp; (try (with_reducible rfl)); done))
            try simp only [Act.put, List.getElem_toArray, List.getElem_cons_succ, List.getElem_cons_zero, List.setIfInBounds_toArray, List.set_cons_succ, List.set_cons_zero]
            (refine wpAnyW_take (i := 8) (v := ?_) rfl (by kernel_rfl) (by kernel_rfl) (by kernel_rfl) (by kernel_rfl) (fun _ _ _ h => h) (Or.inl ⟨by kernel_rfl, ?_⟩) (by assumption) ?_; rotate_left; focus (intro V9 hS9; obtain ⟨z2, z3, z4, z5, z6, z7, z8, z9, z10, z11, z12⟩ := HYX.out V9 hS9; go_simp; (try (with_reducible rfl)); done))
            try simp only [Act.put, List.getElem_toArray, List.getElem_cons_succ, List.getElem_cons_zero, List.setIfInBounds_toArray, List.set_cons_succ, List.set_cons_zero]
            refine wpAnyW_ready (rs := [9]) (by kernel_rfl) (by simp) ?_
            refine AllReadyW.consE rfl (by kernel_rfl) (fun K hK => ?_) AllReadyW.nil
            go_simp
            refine HC.out.mono ?_
            rintro e w5 ⟨A9, c9, E9, rfl, h19, h29, h39, hb9⟩
            refine hK.out _ _ ?_
            clear hK K
            try simp only [Act.put, List.getElem_toArray, List.getElem_cons_succ, List.getElem_cons_zero, List.setIfInBounds_toArray, List.set_cons_succ, List.set_cons_zero]
            refine wpAnyW_ready (rs := [10]) (by kernel_rfl) (by simp) ?_
            refine AllReadyW.consE rfl (by kernel_rfl) (fun K hK => ?_) AllReadyW.nil
            go_simp
            refine hK.out _ _ ?_
            clear hK K
            try simp only [Act.put, List.getElem_toArray, List.getElem_cons_succ, List.getElem_cons_zero, List.setIfInBounds_toArray, List.set_cons_succ, List.set_cons_zero]
            refine wpAnyW_ready (rs := [11, 12]) (by kernel_rfl) (by simp) ?_
            refine AllReadyW.consE rfl (by kernel_rfl) (fun K hK => ?_) (AllReadyW.consE rfl (by kernel_rfl) (fun K hK => ?_) AllReadyW.nil)
            · go_simp
              refine hK.out _ _ ?_
              clear hK K
              try simp only [Act.put, List.getElem_toArray, List.getElem_cons_succ, List.getElem_cons_zero, List.setIfInBounds_toArray, List.set_cons_succ, List.set_cons_zero]
              refine wpAnyW_ready (rs := [12, 13]) (by kernel_rfl) (by simp) ?_
              refine AllReadyW.consE rfl (by kernel_rfl) (fun K hK => ?_) (AllReadyW.consE rfl (by kernel_rfl) (fun K hK => ?_) AllReadyW.nil)
              · go_simp
                refine hK.out _ _ ?_
                clear hK K
                try simp only [Act.put, List.getElem_toArray, List.getElem_cons_succ, List.getElem_cons_zero, List.setIfInBounds_toArray, List.set_cons_succ, List.set_cons_zero]
                refine wpAnyW_ready (rs := [13]) (by kernel_rfl) (by simp) ?_
                refine AllReadyW.consE rfl (by kernel_rfl) (fun K hK => ?_) AllReadyW.nil
                go_simp
                refine hK.out _ _ ?_
                clear hK K
                try simp only [Act.put, List.getElem_toArray, List.getElem_cons_succ, List.getElem_cons_zero, List.setIfInBounds_toArray, List.set_cons_succ, List.set_cons_zero]
                refine wpAnyW_ready (rs := [14]) (by kernel_rfl) (by simp) ?_
                refine AllReadyW.consE rfl (by kernel_rfl) (fun K hK => ?_) AllReadyW.nil
                go_simp
                refine hK.out _ _ ?_
                clear hK K
                try simp only [Act.put, List.getElem_toArray, List.getElem_cons_succ, List.getElem_cons_zero, List.setIfInBounds_toArray, List.set_cons_succ, List.set_cons_zero]
                refine wpAnyW_done (by kernel_rfl) ?_ _
                go_wp2
                go_roundw
                case rel => exact ⟨k + 1, A9, c9, E9, by omega, by go_num, rfl, by rw [HTK.out], by rw [HTK.out, h19], h29, h39, below_step hb (below_step (Below.refl _ _).drew hb9)⟩
                case measure => simp [intOf]; omega
              · go_simp
                refine hK.out _ _ ?_
                clear hK K
                try simp only [Act.put, List.getElem_toArray, List.getElem_cons_succ, List.getElem_cons_zero, List.setIfInBounds_toArray, List.set_cons_succ, List.set_cons_zero]
                refine wpAnyW_ready (rs := [12]) (by kernel_rfl) (by simp) ?_
                refine AllReadyW.consE rfl (by kernel_rfl) (fun K hK => ?_) AllReadyW.nil
                go_simp
                refine hK.out _ _ ?_
                clear hK K
                try simp only [Act.put, List.getElem_toArray, List.getElem_cons_succ, List.getElem_cons_zero, List.setIfInBounds_toArray, List.set_cons_succ, List.set_cons_zero]
                refine wpAnyW_ready (rs := [14]) (by kernel_rfl) (by simp) ?_
                refine AllReadyW.consE rfl (by kernel_rfl) (fun K hK => ?_) AllReadyW.nil
                go_simp
                refine hK.out _ _ ?_
                clear hK K
                try simp only [Act.put, List.getElem_toArray, List.getElem_cons_succ, List.getElem_cons_zero, List.setIfInBounds_toArray, List.set_cons_succ, List.set_cons_zero]
                refine wpAnyW_done (by kernel_rfl) ?_ _
                go_wp2
                go_roundw
                case rel => exact ⟨k + 1, A9, c9, E9, by omega, by go_num, rfl, by rw [HTK.out], by rw [HTK.out, h19], h29, h39, below_step hb (below_step (Below.refl _ _).drew hb9)⟩
                case measure => simp [intOf]; omega
            · go_simp
              refine hK.out _ _ ?_
              clear hK K
              try simp only [Act.put, List.getElem_toArray, List.getElem_cons_succ, List.getElem_cons_zero, List.setIfInBounds_toArray, List.set_cons_succ, List.set_cons_zero]
              refine wpAnyW_ready (rs := [11]) (by kernel_rfl) (by simp) ?_
              refine AllReadyW.consE rfl (by kernel_rfl) (fun K hK => ?_) AllReadyW.nil
              go_simp
              refine hK.out _ _ ?_
              clear hK K
              try simp only [Act.put, List.getElem_toArray, List.getElem_cons_succ, List.getElem_cons_zero, List.setIfInBounds_toArray, List.set_cons_succ, List.set_cons_zero]
              refine wpAnyW_ready (rs := [13]) (by kernel_rfl) (by simp) ?_
              refine AllReadyW.consE rfl (by kernel_rfl) (fun K hK => ?_) AllReadyW.nil
              go_simp
              refine hK.out _ _ ?_
              clear hK K
              try simp only [Act.put, List.getElem_toArray, List.getElem_cons_succ, List.getElem_cons_zero, List.setIfInBounds_toArray, List.set_cons_succ, List.set_cons_zero]
              refine wpAnyW_ready (rs := [14]) (by kernel_rfl) (by simp) ?_
              refine AllReadyW.consE rfl (by kernel_rfl) (fun K hK => ?_) AllReadyW.nil
              go_simp
              refine hK.out _ _ ?_
              clear hK K
              try simp only [Act.put, List.getElem_toArray, List.getElem_cons_succ, List.getElem_cons_zero, List.setIfInBounds_toArray, List.set_cons_succ, List.set_cons_zero]
              refine wpAnyW_done (by kernel_rfl) ?_ _
              go_wp2
              go_roundw
              case rel => exact ⟨k + 1, A9, c9, E9, by omega, by go_num, rfl, by rw [HTK.out], by rw [HTK.out, h19], h29, h39, below_step hb (below_step (Below.refl _ _).drew hb9)⟩
              case measure => simp [intOf]; omega
          | false =>
            have HNO := Lib.hid (show RES = none by rw [HY.out, matchL_early l ts (vE E) k HBO.out, HBO.out]; rfl)
            go_wp2
            refine bodyPost_ret (v := .tuple #[.slice none 0 0, .bool false]) (by simp [results, Tryz.results11, go_sem]) rfl ?_
            exact RAEnd.no HNO.out HBW.out
        · obtain rfl : k = m := by omega
          have hd : decide (k < k) = false := by simp
          have h1 := HV.out
          have h2 := HBO.out
          rw [List.take_of_length_le (by rw [HM.out]; exact Nat.le_refl _), List.take_of_length_le (by rw [HMT.out]; exact Nat.le_refl _)] at h1 h2
          cases bo with
          | true =>
            have HSO := Lib.hid (show RES = some (risG (vE E1)) by rw [HY.out, h2, h1]; rfl)
            have HRIS := Lib.hid (rising_any wr E1 A1 c1 HRD.out (by have := HLM.out.len; rw [List.length_map, vE_len] at this; omega))
            rw [HN1.out] at HRIS
            clear h1 h2
            go_wp2_with (go_at_call 33; refine HRIS.out.mono ?_; rintro e w5 ⟨A9, c9, E9, rfl, h19, h29, hb9⟩)
            refine bodyPost_ret (v := .tuple #[.slice A9 E9.length c9, .bool true]) (by simp [results, Tryz.results11, go_sem]) rfl ?_
            exact ⟨A9, c9, E9, by rw [HSO.out]; rfl, by rw [HSO.out, h19]; rfl, h29, below_step HBW.out hb9⟩
          | false =>
            have HNO := Lib.hid (show RES = none by rw [HY.out, h2]; rfl)
            clear h1 h2
            go_wp2
            refine bodyPost_ret (v := .tuple #[.slice none 0 0, .bool false]) (by simp [results, Tryz.results11, go_sem]) rfl ?_
            exact RAEnd.no HNO.out HBW.out
end
section
open Go.RowKit
set_option linter.unusedVariables false

set_option maxRecDepth 100000 in
set_option maxHeartbeats 4000000 in
theorem rMatch_any {K : List (List UInt8)} (hK2 : K.length ≤ 1000000) (W : World) (x : EN) (t : TE W) (E : List (BG (TE W))) (A : Option Addr) (c : Nat) (hok : x.Ok NoB W) (hnm : x.t.all (fun w => w ∈ K)) (hE : RdB W A c E) (hL : LimN K ((vE E).map (·.1))) :
    Calls Tryz.prog 9 #[.agg #[.int .i64 x.t.kind, .int .i64 x.t.int, .string ⟨x.t.name.toArray⟩, .int .i64 x.t.at_, .slice x.A x.t.kids.length x.c, .slice x.B x.t.clauses.length x.d, .slice x.C x.t.body.length x.e], .agg #[.int .i64 t.t.kind, .int .i64 t.t.int, .string ⟨t.t.name.toArray⟩, .slice t.A t.t.items.length t.c], .slice A E.length c] W (RAEnd W (allP [x.t] [t.t] (vE E))) := by
  have HALL : Hid (∀ V g1 g2, Below W.heap.size W V → Blk V g1 29 #[.int .i64 x.t.kind, .int .i64 x.t.int, .string ⟨x.t.name.toArray⟩, .int .i64 x.t.at_, .slice x.A x.t.kids.length x.c, .slice x.B x.t.clauses.length x.d, .slice x.C x.t.body.length x.e] → Blk V g2 35 #[.int .i64 t.t.kind, .int .i64 t.t.int, .string ⟨t.t.name.toArray⟩, .slice t.A t.t.items.length t.c] →
      Calls Tryz.prog 11 #[.slice (some ⟨g1, 0, none⟩) 1 1, .slice (some ⟨g2, 0, none⟩) 1 1, .slice A E.length c] V (RAEnd W (allP [x.t] [t.t] (vE E)))) := fun V g1 g2 hV h1 h2 => by
    have := rall_any hK2 V [x.t] (some ⟨g1, 0, none⟩) 1 [t.t] (some ⟨g2, 0, none⟩) 1 (upE hV E) A c (rdn_one x (hok.below hV) h1) (by simp only [ND.allL, and_true]; exact hnm) (rdm_one t hV h2) ((hE.below hV).up hV) (by rw [vE_up]; exact hL)
    rw [upE_len, vE_up] at this
    exact this.mono fun r w' ⟨A, c, E2, h1, h2, h3, h4⟩ => ⟨A, c, E2, h1, h2, h3, below_step hV h4⟩
  obtain ⟨R, hR⟩ : ∃ R, allP [x.t] [t.t] (vE E) = R := ⟨_, rfl⟩
  rw [hR] at HALL ⊢
  generalize E.length = ne at *
  clear hok hE hnm hL hR
  go_enter Tryz.func9, Tryz.ntmps9
  go_upto_region 1 with (fail)
  refine wp_world (fun V => Blk V W.heap.size 29 #[.int .i64 x.t.kind, .int .i64 x.t.int, .string ⟨x.t.name.toArray⟩, .int .i64 x.t.at_, .slice x.A x.t.kids.length x.c, .slice x.B x.t.clauses.length x.d, .slice x.C x.t.body.length x.e] ∧ Blk V (W.heap.size + 1) 35 #[.int .i64 t.t.kind, .int .i64 t.t.int, .string ⟨t.t.name.toArray⟩, .slice t.A t.t.items.length t.c] ∧ Below W.heap.size W V) (two_box W _ _) ?_
  rintro V ⟨h7, h4, hb⟩
  have x0 := h7.cell 0
  have x1 := h7.cell 1
  have x2 := h7.cell 2
  have x3 := h7.cell 3
  have x4 := h7.cell 4
  have x5 := h7.cell 5
  have x6 := h7.cell 6
  have y0 := h4.cell 0
  have y1 := h4.cell 1
  have y2 := h4.cell 2
  have y3 := h4.cell 3
  obtain ⟨z7, z4, zb⟩ := two_box V #[.int .i64 x.t.kind, .int .i64 x.t.int, .string ⟨x.t.name.toArray⟩, .int .i64 x.t.at_, .slice x.A x.t.kids.length x.c, .slice x.B x.t.clauses.length x.d, .slice x.C x.t.body.length x.e] #[.int .i64 t.t.kind, .int .i64 t.t.int, .string ⟨t.t.name.toArray⟩, .slice t.A t.t.items.length t.c]
  have HC := Lib.hid (HALL.out _ _ _ (below_step hb zb) z7 z4)
  have hlt1 := h7.lt
  have hlt2 := h4.lt
  clear HALL h7 h4 hb z7 z4 zb
  go_wp2_with (go_at_call 11; refine HC.out.mono ?_; rintro r w' ⟨A9, c9, E9, rfl, h1, h2, h3⟩)
  refine bodyPost_ret (v := .tuple #[.slice A9 E9.length c9, .bool R.isSome]) (by simp [results, Tryz.results9, go_sem]) rfl ?_
  exact ⟨A9, c9, E9, rfl, h1, h2, h3⟩
end
end Go.Proofs.YtmpknhdfglbocaaGreat
