/- Heap (layer 9): the walk of the walker's cell. Written by hpgenj.py. -/
import Derived.Test.YtefnjplfemgibaaHpI
namespace Go.Proofs.Ytefnjplfemgibaa
open Go.RowKit Go.Maps Go.WideMaps
set_option linter.unusedVariables false

/-! ### a map of ints that is written out -/
def idat (K : List (Int × Int)) : DataW Unit := .map (K.map fun q => (.int .i64 q.1, .lit (.int .i64 q.2)))
def IT (W : World) (b : Nat) (K : List (Int × Int)) : Prop := W.ownsMap (H := Unit) Try.prog 3 (plainElem Try.prog 3) b K.length (idat K)
theorem kiI : Keyed Try.prog 3 := int_keyed Try.underlying3
theorem ziI (w : World) : (zeroValue 3).run Try.prog w = .ok (.int .i64 0) w := by kernel_rfl
theorem keyII {p : Int} (h : (Lit.int .i64 p).wf = true) : keyOf Try.prog 3 (.int .i64 p) = some (.int .i64 p) := keyOf_int_mk Try.underlying3 h
set_option maxRecDepth 100000 in
theorem wpList_insI {ty : TypeId} {b : Nat} {K : List (Int × Int)} {w : World} {ops : Array Oper} {rest : List Oper} {dst : Option Nat} {pos : String} {after : Array Edge} {a : Act} {Q : Exit → Act → World → Prop} {m : Operand}
    (k v : Int) (K' : List (Int × Int)) (HT : Hid (IT w b K)) (hlen : K.length < 1000) (hem : a.eval m = .map (some b)) (hk : (Lit.int .i64 k).wf = true) (hv : (Lit.int .i64 v).wf = true) (hput : (idat K).put (.int .i64 k) (.lit (.int .i64 v)) = idat K') (hl : K'.length = K.length + 1)
    (hK : ∀ w', Hid (IT w' b K') → Hid (w.grownBy w' (some b)) → wpList Try.prog ops Q rest (a.put dst undef) w') :
    wpList Try.prog ops Q ({ dst := dst, op := Op.insert 139 m (.const (.int .i64 k)) (.const (.int .i64 v)), type := ty, pos := pos, after := after, guard := none } :: rest) a w := by
  refine wpList_plain rfl fun K9 hK9 => ?_
  obtain ⟨w', hrun, r1, r2⟩ := World.ownsMap.update HT.out kiI Try.underlying139 (by unfold maxLen; omega) (keyII hk) (val := .int .i64 v) (d := .lit (.int .i64 v)) (ps := []) (plainElem_int Try.underlying3 hv)
  unfold Oper.wp
  have hx9 : a.eval (.const (.int .i64 k)) = .int .i64 k := rfl
  have hy9 : a.eval (.const (.int .i64 v)) = .int .i64 v := rfl
  simp [execOp, hem, hx9, hy9, hrun, Result.andThen]
  refine hK9 _ _ (hK w' ?_ r2)
  unfold Hid IT
  rw [hl, ← hput]
  exact r1
theorem IT.look {W : World} {b : Nat} {K : List (Int × Int)} (h : IT W b K) {k : Int} (hk : (Lit.int .i64 k).wf = true) {v : Int} (hv : (idat K).atKey (.int .i64 k) (.lit (.int .i64 0)) = .lit (.int .i64 v)) :
    (Instr.lookup 139 (.map (some b)) (.int .i64 k) false).run Try.prog W = .ok (.int .i64 v) W := by
  obtain ⟨u, ps, hrun, hu⟩ := World.ownsMap.lookup h kiI Try.underlying139 (ziI W) (plainElem_int Try.underlying3 (by decide)) (keyII hk)
  rw [hv] at hu
  obtain ⟨c, rfl, hc, _⟩ := plainElem_int_inv Try.underlying3 hu
  simp only [Prod.mk.injEq, DataW.lit.injEq, Lit.int.injEq, true_and] at hc
  rw [hrun, hc.1]
theorem iput5 : (idat []).put (.int .i64 5) (.lit (.int .i64 0)) = idat [(5, 0)] := by simp [idat, DataW.put, DataW.insert, Lit.sameKey]
theorem iput6 : (idat [(5, 0)]).put (.int .i64 6) (.lit (.int .i64 1)) = idat [(5, 0), (6, 1)] := by simp [idat, DataW.put, DataW.insert, Lit.sameKey, Lit.before]
theorem iput7 : (idat [(5, 0), (6, 1)]).put (.int .i64 7) (.lit (.int .i64 2)) = idat [(5, 0), (6, 1), (7, 2)] := by simp [idat, DataW.put, DataW.insert, Lit.sameKey, Lit.before]
theorem ilk5 : (idat [(5, 0), (6, 1), (7, 2)]).atKey (.int .i64 5) (.lit (.int .i64 0)) = .lit (.int .i64 0) := by simp [idat, DataW.atKey, Lit.sameKey]
theorem ilk6 : (idat [(5, 0), (6, 1), (7, 2)]).atKey (.int .i64 6) (.lit (.int .i64 0)) = .lit (.int .i64 1) := by simp [idat, DataW.atKey, Lit.sameKey]
theorem ilk7 : (idat [(5, 0), (6, 1), (7, 2)]).atKey (.int .i64 7) (.lit (.int .i64 0)) = .lit (.int .i64 2) := by simp [idat, DataW.atKey, Lit.sameKey]
def K3 : List (Int × Int) := [(5, 0), (6, 1), (7, 2)]
section
variable {w0 W W' : World} {pw : Nat} {Aw Aa Ar : Option Addr} {lw cw la ca lr cr : Nat} {ws : List Nat} {nm : List (List UInt8)}
/-- What cell hands back. -/
def CellEnds (W : World) (r : Option (Int × Int × List Nat)) (e : Ending) (W' : World) : Prop := ∃ (k i : Int) (A : Option Addr) (n c : Nat), e = .returned (.tuple #[.agg #[.int .i64 k, .int .i64 i, .string ⟨#[]⟩, .slice none 0 0], .slice A n c, .bool r.isSome]) ∧ (∀ k' i' items, r = some (k', i', items) → k' = k ∧ i' = i ∧ items.length = n ∧ RdC W' A (items.map nv)) ∧ Below W.heap.size W W'

set_option maxRecDepth 100000 in
set_option maxHeartbeats 4000000 in
theorem cell5_v {left : Int} (hB : Blk W pw 79 (WC Aw lw cw Aa la ca Ar lr cr left 0)) (hR : RdC W Aw (ws.map nv)) (hl : ws.length = lw) (h64 : W64 ws) (hlc : lw ≤ cw) (hcm : cw ≤ 9223372036854775807) (hlw : lw ≤ 100000) (a : Nat) (ha : a < lw) : Calls Try.prog 70 #[.pointer (some ⟨pw, 0, none⟩), .int .i64 (a : Int), .int .i64 5] W (CellEnds W (cellP ws a 5)) := by
  unfold WC at *
  have HB := Lib.hid hB
  obtain ⟨x, hx⟩ : ∃ x, (ws.map nv)[a]? = some x := ⟨_, List.getElem?_eq_getElem (by simp; omega)⟩
  obtain ⟨b, off, rfl, hxc⟩ := hR.at_ hx
  have HBW := Lib.hid (World.block_lt_of_cell? W _ hxc)
  clear hxc
  have HR := Lib.hid (hR.drop a)
  have HL := Lib.hid hl
  have H64 : Hid (W64 (ws.drop a)) := fun x hx => h64 x (List.mem_of_mem_drop hx)
  have hmm := @run_makeMap Try.prog
  clear hB hR hl h64 hx
  obtain ⟨g, hg⟩ : ∃ g, W.heap.size = g := ⟨_, rfl⟩
  have HG := Lib.hid hg
  go_enter Try.func70, Try.ntmps70
  go_upto_region 1 with (fail)
  refine wp_world (fun V => Below W.heap.size W V ∧ Blk V g 37 #[.int .i64 0, .int .i64 0, .string ⟨#[]⟩, .slice none 0 0]) ⟨below_alloc _ _, by rw [← HG.out]; exact Blk.new _ _ _⟩ ?_
  rintro V ⟨hb, hk⟩
  have HK := Lib.hid hk
  have HBL := Lib.hid hb
  have HB := Lib.hid (HB.out.keep hb)
  have x0 := HB.out.cell 0
  clear hb hk hg
  have q1 : (0 : Int) ≤ (a : Int) := by omega
  have q2 : (a : Int) ≤ (lw : Int) := by omega
  have q3 : ¬ cw = a := by omega
  go_upto_region 2 with (fail)
  clear x0 q1 q2 q3
  obtain ⟨nr, hnr⟩ : ∃ nr, lw - a = nr := ⟨_, rfl⟩
  obtain ⟨kr, hkr⟩ : ∃ kr, cw - a = kr := ⟨_, rfl⟩
  obtain ⟨b2, hb2⟩ : ∃ b2, V.heap.size = b2 := ⟨_, rfl⟩
  have HMB : Hid (W.heap.size ≤ b2) := by rw [← hb2]; exact HBL.out.size
  have HT : Hid (IT (V.alloc (.map #[] 0)) b2 []) := by rw [← hb2]; exact World.ownsMap_made V Try.prog 3 (plainElem (H := Unit) Try.prog 3)
  have HB2 := Lib.hid hb2
  have HV := Lib.hid HBL.out
  have HKV := Lib.hid (HK.out.alloc (.map #[] 0))
  have HGB : Hid (g ≠ b2) := by have := HK.out.lt; have := hb2; unfold Hid; omega
  have HBL := Lib.hid (below_step HBL.out (below_alloc V (.map #[] 0)))
  clear HK HV
  rw [hnr, hkr]
  have HNR : Hid ((ws.drop a).length = nr) := by have := HL.out; unfold Hid; rw [List.length_drop]; omega
  have hn1 : 1 ≤ nr := by omega
  have hnk : nr ≤ kr := by omega
  have hk63 : kr ≤ 9223372036854775807 := by omega
  have hn5 : nr ≤ 100000 := by omega
  have HE0 : Hid (∀ k, cellP ws a k = cellP (ws.drop a) 0 k) := fun k => by unfold cellP; rw [List.drop_zero]
  rw [← List.map_drop] at HR
  generalize ws.drop a = R at *
  obtain ⟨oa, hoa⟩ : ∃ oa, off + a = oa := ⟨_, rfl⟩
  rw [hoa] at HR ⊢
  clear hnr hkr hoa HL hlc hcm hlw
  go_upto_region 3 with (first | ((with_reducible refine wpList_insI 5 0 [(5, 0)] HT (by simp) ?_ (by decide) (by decide) iput5 (by simp) ?_); rfl; intro w1 HT2 HG2; clear HT; have HT := HT2; clear HT2;  have HBL := Lib.hid (HBL.out.grown HG2.out HBL.out.size (fun k hk => by have := Option.some.inj hk; have := HMB.out; omega)); have HKV := Lib.hid (HKV.out.grown HG2.out (fun e => HGB.out (Option.some.inj e))); clear HG2) | ((with_reducible refine wpList_insI 6 1 [(5, 0), (6, 1)] HT (by simp) ?_ (by decide) (by decide) iput6 (by simp) ?_); rfl; intro w1 HT2 HG2; clear HT; have HT := HT2; clear HT2;  have HBL := Lib.hid (HBL.out.grown HG2.out HBL.out.size (fun k hk => by have := Option.some.inj hk; have := HMB.out; omega)); have HKV := Lib.hid (HKV.out.grown HG2.out (fun e => HGB.out (Option.some.inj e))); clear HG2) | ((with_reducible refine wpList_insI 7 2 [(5, 0), (6, 1), (7, 2)] HT (by simp) ?_ (by decide) (by decide) iput7 (by simp) ?_); rfl; intro w1 HT2 HG2; clear HT; have HT := HT2; clear HT2; have hlk := IT.look HT.out (k := 5) (by decide) (v := 0) ilk5;  have HBL := Lib.hid (HBL.out.grown HG2.out HBL.out.size (fun k hk => by have := Option.some.inj hk; have := HMB.out; omega)); have HKV := Lib.hid (HKV.out.grown HG2.out (fun e => HGB.out (Option.some.inj e))); clear HG2))
  refine wp_world (fun V => Below W.heap.size W V ∧ Blk V g 37 #[.int .i64 0, .int .i64 0, .string ⟨#[]⟩, .slice none 0 0]) ⟨HBL.out, HKV.out⟩ ?_
  clear HBL HKV HT HMB HB2 HGB hmm hb2
  rintro V3 ⟨hb, hk⟩
  have HBL := Lib.hid hb
  have HK := Lib.hid hk
  clear hb hk
  by_cases h2 : nr < 2
  · have d1 : decide ((nr : Int) < 2) = true := by simp; omega
    have HE := Lib.hid (show cellP ws a 5 = none from by rw [HE0.out]; unfold cellP; rw [if_pos rfl, List.drop_zero, if_pos (by rw [HNR.out]; exact h2)])
    have z0 := HK.out.cell 0
    have z1 := HK.out.cell 1
    have z2 := HK.out.cell 2
    have z3 := HK.out.cell 3
    have zf0 := HK.out.frozen 0
    have zf1 := HK.out.frozen 1
    have zf2 := HK.out.frozen 2
    have zf3 := HK.out.frozen 3
    go_upto_region 14 with (fail)
    refine wp_world (fun V => Below W.heap.size W V ∧ Blk V g 37 #[.int .i64 8, .int .i64 0, .string ⟨#[]⟩, .slice none 0 0]) ⟨?_, ?_⟩ ?_
    · exact HBL.out.trans ((Fr.setCell (fun k => k = g) V3 (p := ⟨g, 0, none⟩) (fun _ => rfl) _).below HBL.out.size (fun k hk => by have := HG.out; omega))
    · simpa using HK.out.set_ 0 (.int .i64 8)
    clear z0 z1 z2 z3 zf0 zf1 zf2 zf3
    rintro V4 ⟨hb, hk⟩
    have HBL := Lib.hid hb
    have HK := Lib.hid hk
    have z0 := HK.out.cell 0
    have z1 := HK.out.cell 1
    have z2 := HK.out.cell 2
    have z3 := HK.out.cell 3
    have zf0 := HK.out.frozen 0
    have zf1 := HK.out.frozen 1
    have zf2 := HK.out.frozen 2
    have zf3 := HK.out.frozen 3
    clear hb hk
    go_wp2
    have hB2 := Blk.set4 (V := V4) HK.out (.int .i64 8) (.int .i64 (0)) (.string ⟨#[]⟩) (.slice none 0 0)
    have y0 := hB2.cell 0
    have y1 := hB2.cell 1
    have y2 := hB2.cell 2
    have y3 := hB2.cell 3
    refine bodyPost_ret (v := .tuple #[.agg #[.int .i64 8, .int .i64 (0), .string ⟨#[]⟩, .slice none 0 0], .slice none 0 0, .bool false]) (by simp [results, Try.results70, go_sem, y0, y1, y2, y3]) rfl ?_
    have hfr := fr_set4 V4 g (.int .i64 8) (.int .i64 (0)) (.string ⟨#[]⟩) (.slice none 0 0)
    have hbl : Below W.heap.size W _ := (show Below W.heap.size W (V4) from HBL.out).trans (hfr.below HBL.out.size (fun k hk => by have := HG.out; omega))
    exact ⟨8, 0, none, 0, 0, by rw [HE.out]; rfl, by rw [HE.out]; exact fun _ _ _ ht => (by cases ht), hbl⟩
  · have d1 : decide ((nr : Int) < 2) = false := by simp; omega
    have HE := Lib.hid (show cellP ws a 5 = some (8, 0, R.take 2) from by rw [HE0.out]; unfold cellP; rw [if_pos rfl, List.drop_zero, if_neg (by rw [HNR.out]; exact h2)])
    have HIL : Hid ((R.take 2).length = 2) := by have := HNR.out; unfold Hid; rw [List.length_take]; omega
    have HIR : Hid (RdC W (some ⟨b, oa, none⟩) ((R.take 2).map nv)) := by unfold Hid; rw [List.map_take]; exact HR.out.take 2
    have z0 := HK.out.cell 0
    have z1 := HK.out.cell 1
    have z2 := HK.out.cell 2
    have z3 := HK.out.cell 3
    have zf0 := HK.out.frozen 0
    have zf1 := HK.out.frozen 1
    have zf2 := HK.out.frozen 2
    have zf3 := HK.out.frozen 3
    go_upto_region 14 with (fail)
    refine wp_world (fun V => Below W.heap.size W V ∧ Blk V g 37 #[.int .i64 8, .int .i64 0, .string ⟨#[]⟩, .slice none 0 0]) ⟨?_, ?_⟩ ?_
    · exact HBL.out.trans ((Fr.setCell (fun k => k = g) V3 (p := ⟨g, 0, none⟩) (fun _ => rfl) _).below HBL.out.size (fun k hk => by have := HG.out; omega))
    · simpa using HK.out.set_ 0 (.int .i64 8)
    clear z0 z1 z2 z3 zf0 zf1 zf2 zf3
    rintro V4 ⟨hb, hk⟩
    have HBL := Lib.hid hb
    have HK := Lib.hid hk
    have z0 := HK.out.cell 0
    have z1 := HK.out.cell 1
    have z2 := HK.out.cell 2
    have z3 := HK.out.cell 3
    have zf0 := HK.out.frozen 0
    have zf1 := HK.out.frozen 1
    have zf2 := HK.out.frozen 2
    have zf3 := HK.out.frozen 3
    clear hb hk
    have k1 : (2 : Int) ≤ (kr : Int) := by omega
    have mixed : Try.prog.follows .mixedOrders = true := by kernel_rfl
    go_upto_region 17 with (fail)
    go_region
    all_goals
      go_wp2
      have hB2 := Blk.set4 (V := V4) HK.out (.int .i64 8) (.int .i64 (0)) (.string ⟨#[]⟩) (.slice none 0 0)
      have y0 := hB2.cell 0
      have y1 := hB2.cell 1
      have y2 := hB2.cell 2
      have y3 := hB2.cell 3
      refine bodyPost_ret (v := .tuple #[.agg #[.int .i64 8, .int .i64 (0), .string ⟨#[]⟩, .slice none 0 0], .slice (some ⟨b, oa, none⟩) 2 kr, .bool true]) (by simp [results, Try.results70, go_sem, y0, y1, y2, y3]) rfl ?_
      have hfr := fr_set4 V4 g (.int .i64 8) (.int .i64 (0)) (.string ⟨#[]⟩) (.slice none 0 0)
      have hbl : Below W.heap.size W _ := Below.drew ((show Below W.heap.size W (V4) from HBL.out).trans (hfr.below HBL.out.size (fun k hk => by have := HG.out; omega)))
      exact ⟨8, 0, (some ⟨b, oa, none⟩), 2, kr, by rw [HE.out]; rfl, by rw [HE.out]; exact fun k' i' items ht => by (obtain ⟨rfl, rfl, rfl⟩ : k' = _ ∧ i' = _ ∧ items = _ := by simpa [eq_comm] using ht); exact ⟨rfl, rfl, HIL.out, HIR.out.below hbl⟩, hbl⟩
set_option maxRecDepth 100000 in
set_option maxHeartbeats 4000000 in
theorem cell6_v {left : Int} (hB : Blk W pw 79 (WC Aw lw cw Aa la ca Ar lr cr left 0)) (hR : RdC W Aw (ws.map nv)) (hl : ws.length = lw) (h64 : W64 ws) (hlc : lw ≤ cw) (hcm : cw ≤ 9223372036854775807) (hlw : lw ≤ 100000) (a : Nat) (ha : a < lw) : Calls Try.prog 70 #[.pointer (some ⟨pw, 0, none⟩), .int .i64 (a : Int), .int .i64 6] W (CellEnds W (cellP ws a 6)) := by
  unfold WC at *
  have HB := Lib.hid hB
  obtain ⟨x, hx⟩ : ∃ x, (ws.map nv)[a]? = some x := ⟨_, List.getElem?_eq_getElem (by simp; omega)⟩
  obtain ⟨b, off, rfl, hxc⟩ := hR.at_ hx
  have HBW := Lib.hid (World.block_lt_of_cell? W _ hxc)
  clear hxc
  have HR := Lib.hid (hR.drop a)
  have HL := Lib.hid hl
  have H64 : Hid (W64 (ws.drop a)) := fun x hx => h64 x (List.mem_of_mem_drop hx)
  have hmm := @run_makeMap Try.prog
  clear hB hR hl h64 hx
  obtain ⟨g, hg⟩ : ∃ g, W.heap.size = g := ⟨_, rfl⟩
  have HG := Lib.hid hg
  go_enter Try.func70, Try.ntmps70
  go_upto_region 1 with (fail)
  refine wp_world (fun V => Below W.heap.size W V ∧ Blk V g 37 #[.int .i64 0, .int .i64 0, .string ⟨#[]⟩, .slice none 0 0]) ⟨below_alloc _ _, by rw [← HG.out]; exact Blk.new _ _ _⟩ ?_
  rintro V ⟨hb, hk⟩
  have HK := Lib.hid hk
  have HBL := Lib.hid hb
  have HB := Lib.hid (HB.out.keep hb)
  have x0 := HB.out.cell 0
  clear hb hk hg
  have q1 : (0 : Int) ≤ (a : Int) := by omega
  have q2 : (a : Int) ≤ (lw : Int) := by omega
  have q3 : ¬ cw = a := by omega
  go_upto_region 2 with (fail)
  clear x0 q1 q2 q3
  obtain ⟨nr, hnr⟩ : ∃ nr, lw - a = nr := ⟨_, rfl⟩
  obtain ⟨kr, hkr⟩ : ∃ kr, cw - a = kr := ⟨_, rfl⟩
  obtain ⟨b2, hb2⟩ : ∃ b2, V.heap.size = b2 := ⟨_, rfl⟩
  have HMB : Hid (W.heap.size ≤ b2) := by rw [← hb2]; exact HBL.out.size
  have HT : Hid (IT (V.alloc (.map #[] 0)) b2 []) := by rw [← hb2]; exact World.ownsMap_made V Try.prog 3 (plainElem (H := Unit) Try.prog 3)
  have HB2 := Lib.hid hb2
  have HV := Lib.hid HBL.out
  have HKV := Lib.hid (HK.out.alloc (.map #[] 0))
  have HGB : Hid (g ≠ b2) := by have := HK.out.lt; have := hb2; unfold Hid; omega
  have HBL := Lib.hid (below_step HBL.out (below_alloc V (.map #[] 0)))
  clear HK HV
  rw [hnr, hkr]
  have HNR : Hid ((ws.drop a).length = nr) := by have := HL.out; unfold Hid; rw [List.length_drop]; omega
  have hn1 : 1 ≤ nr := by omega
  have hnk : nr ≤ kr := by omega
  have hk63 : kr ≤ 9223372036854775807 := by omega
  have hn5 : nr ≤ 100000 := by omega
  have HE0 : Hid (∀ k, cellP ws a k = cellP (ws.drop a) 0 k) := fun k => by unfold cellP; rw [List.drop_zero]
  rw [← List.map_drop] at HR
  generalize ws.drop a = R at *
  obtain ⟨oa, hoa⟩ : ∃ oa, off + a = oa := ⟨_, rfl⟩
  rw [hoa] at HR ⊢
  clear hnr hkr hoa HL hlc hcm hlw
  go_upto_region 3 with (first | ((with_reducible refine wpList_insI 5 0 [(5, 0)] HT (by simp) ?_ (by decide) (by decide) iput5 (by simp) ?_); rfl; intro w1 HT2 HG2; clear HT; have HT := HT2; clear HT2;  have HBL := Lib.hid (HBL.out.grown HG2.out HBL.out.size (fun k hk => by have := Option.some.inj hk; have := HMB.out; omega)); have HKV := Lib.hid (HKV.out.grown HG2.out (fun e => HGB.out (Option.some.inj e))); clear HG2) | ((with_reducible refine wpList_insI 6 1 [(5, 0), (6, 1)] HT (by simp) ?_ (by decide) (by decide) iput6 (by simp) ?_); rfl; intro w1 HT2 HG2; clear HT; have HT := HT2; clear HT2;  have HBL := Lib.hid (HBL.out.grown HG2.out HBL.out.size (fun k hk => by have := Option.some.inj hk; have := HMB.out; omega)); have HKV := Lib.hid (HKV.out.grown HG2.out (fun e => HGB.out (Option.some.inj e))); clear HG2) | ((with_reducible refine wpList_insI 7 2 [(5, 0), (6, 1), (7, 2)] HT (by simp) ?_ (by decide) (by decide) iput7 (by simp) ?_); rfl; intro w1 HT2 HG2; clear HT; have HT := HT2; clear HT2; have hlk := IT.look HT.out (k := 6) (by decide) (v := 1) ilk6;  have HBL := Lib.hid (HBL.out.grown HG2.out HBL.out.size (fun k hk => by have := Option.some.inj hk; have := HMB.out; omega)); have HKV := Lib.hid (HKV.out.grown HG2.out (fun e => HGB.out (Option.some.inj e))); clear HG2))
  refine wp_world (fun V => Below W.heap.size W V ∧ Blk V g 37 #[.int .i64 0, .int .i64 0, .string ⟨#[]⟩, .slice none 0 0]) ⟨HBL.out, HKV.out⟩ ?_
  clear HBL HKV HT HMB HB2 HGB hmm hb2
  rintro V3 ⟨hb, hk⟩
  have HBL := Lib.hid hb
  have HK := Lib.hid hk
  clear hb hk
  obtain ⟨m, r, rfl⟩ : ∃ m r, R = m :: r := by (have h9 := HNR.out; cases R with | nil => simp at h9; omega | cons m r => exact ⟨m, r, rfl⟩)
  obtain ⟨n1, rfl⟩ : ∃ n1, nr = n1 + 1 := ⟨nr - 1, by omega⟩
  obtain ⟨k1, rfl⟩ : ∃ k1, kr = k1 + 1 := ⟨kr - 1, by omega⟩
  have HRL : Hid (r.length = n1) := by have h9 := HNR.out; simp only [List.length_cons] at h9; unfold Hid; omega
  have HM64 : Hid (m < 18446744073709551616) := H64.out m (by simp)
  have HRR : Hid (RdC W (some ⟨b, oa + 1, none⟩) (r.map nv)) := by have h9 := HR.out.drop 1; unfold Hid; simpa using h9
  have HC0 : Hid (∀ V, Below W.heap.size W V → V.cell? ⟨b, oa, none⟩ = some (.int .u64 (m : Int))) := fun V hV => by
    obtain ⟨b9, o9, e9, h9⟩ := (HR.out.below hV).at_ (j := 0) (v := nv m) (by simp)
    simp only [Option.some.injEq, Addr.mk.injEq, and_true] at e9
    obtain ⟨rfl, rfl⟩ := e9
    exact h9
  have r0 := HC0.out V3 HBL.out
  have d0 : decide (((n1 + 1 : Nat) : Int) < 1) = false := by simp; omega
  have d00 : decide ((n1 : Int) + 1 < 1) = false := by simp; omega
  have mixed : Try.prog.follows .mixedOrders = true := by kernel_rfl
  have hbg : ¬ b = g := by have h9 := HBW.out; have h8 := HG.out; simp only at h9; omega
  have hgb : ¬ g = b := fun e => hbg e.symm
  have z0 := HK.out.cell 0
  have z1 := HK.out.cell 1
  have z2 := HK.out.cell 2
  have z3 := HK.out.cell 3
  have zf0 := HK.out.frozen 0
  have zf1 := HK.out.frozen 1
  have zf2 := HK.out.frozen 2
  have zf3 := HK.out.frozen 3
  have q0 : (0 : Int) < (n1 : Int) + 1 := by omega
  go_upto_region 13 with (fail)
  go_region
  all_goals
    go_upto_region 14 with (fail)
    refine wp_world (fun V => Below W.heap.size W V ∧ Blk V g 37 #[.int .i64 6, .int .i64 0, .string ⟨#[]⟩, .slice none 0 0]) ⟨?_, ?_⟩ ?_
    · exact (HBL.out.trans ((Fr.setCell (fun k => k = g) V3 (p := ⟨g, 0, none⟩) (fun _ => rfl) _).below HBL.out.size (fun k hk => by have := HG.out; omega))).drew
    · have h9 := HK.out.set_ 0 (.int .i64 6)
      exact h9
    clear z0 z1 z2 z3 zf0 zf1 zf2 zf3 r0
    rintro V4 ⟨hb, hk⟩
    have HBL := Lib.hid hb
    have HK := Lib.hid hk
    have z0 := HK.out.cell 0
    have z1 := HK.out.cell 1
    have z2 := HK.out.cell 2
    have z3 := HK.out.cell 3
    have zf0 := HK.out.frozen 0
    have zf1 := HK.out.frozen 1
    have zf2 := HK.out.frozen 2
    have zf3 := HK.out.frozen 3
    clear hb hk
    by_cases hm : n1 < m
    · have HE := Lib.hid (show cellP ws a 6 = none from by rw [HE0.out]; unfold cellP; rw [if_neg (by decide), if_pos rfl, List.drop_zero]; simp only; rw [if_pos (by rw [HRL.out]; exact hm)])
      have d4 : decide ((n1 : Int) < (m : Int)) = true := by simp; omega
      have q5 : (1 : Int) ≤ (n1 : Int) + 1 := by omega
      by_cases hk0 : k1 = 0
      · subst hk0
        obtain rfl : n1 = 0 := by omega
        have d5 : decide ((0 : Int) < (m : Int)) = true := by simp; omega
        go_wp2
        have hB2 := Blk.set4 (V := V4) HK.out (.int .i64 6) (.int .i64 (0)) (.string ⟨#[]⟩) (.slice none 0 0)
        have y0 := hB2.cell 0
        have y1 := hB2.cell 1
        have y2 := hB2.cell 2
        have y3 := hB2.cell 3
        refine bodyPost_ret (v := .tuple #[.agg #[.int .i64 6, .int .i64 (0), .string ⟨#[]⟩, .slice none 0 0], .slice none 0 0, .bool false]) (by simp [results, Try.results70, go_sem, y0, y1, y2, y3]) rfl ?_
        have hfr := fr_set4 V4 g (.int .i64 6) (.int .i64 (0)) (.string ⟨#[]⟩) (.slice none 0 0)
        have hbl : Below W.heap.size W _ := (show Below W.heap.size W (V4) from HBL.out).trans (hfr.below HBL.out.size (fun k hk => by have := HG.out; omega))
        exact ⟨6, 0, none, 0, 0, by rw [HE.out]; rfl, by rw [HE.out]; exact fun _ _ _ ht => (by cases ht), hbl⟩
      · have q6 : ¬ (k1 + 1 = 1) := by omega
        go_wp2
        have hB2 := Blk.set4 (V := V4) HK.out (.int .i64 6) (.int .i64 (0)) (.string ⟨#[]⟩) (.slice none 0 0)
        have y0 := hB2.cell 0
        have y1 := hB2.cell 1
        have y2 := hB2.cell 2
        have y3 := hB2.cell 3
        refine bodyPost_ret (v := .tuple #[.agg #[.int .i64 6, .int .i64 (0), .string ⟨#[]⟩, .slice none 0 0], .slice none 0 0, .bool false]) (by simp [results, Try.results70, go_sem, y0, y1, y2, y3]) rfl ?_
        have hfr := fr_set4 V4 g (.int .i64 6) (.int .i64 (0)) (.string ⟨#[]⟩) (.slice none 0 0)
        have hbl : Below W.heap.size W _ := (show Below W.heap.size W (V4) from HBL.out).trans (hfr.below HBL.out.size (fun k hk => by have := HG.out; omega))
        exact ⟨6, 0, none, 0, 0, by rw [HE.out]; rfl, by rw [HE.out]; exact fun _ _ _ ht => (by cases ht), hbl⟩
    · have HE := Lib.hid (show cellP ws a 6 = some (6, 0, r.take m) from by rw [HE0.out]; unfold cellP; rw [if_neg (by decide), if_pos rfl, List.drop_zero]; simp only; rw [if_neg (by rw [HRL.out]; exact hm)])
      have d4 : decide ((n1 : Int) < (m : Int)) = false := by simp; omega
      have q5 : (1 : Int) ≤ (n1 : Int) + 1 := by omega
      have HIL : Hid ((r.take m).length = m) := by have := HRL.out; unfold Hid; rw [List.length_take]; omega
      by_cases hk0 : k1 = 0
      · subst hk0
        obtain rfl : n1 = 0 := by omega
        obtain rfl : m = 0 := by omega
        have HIR : Hid (RdC W (some ⟨b, oa, none⟩) ((r.take 0).map nv)) := by unfold Hid; exact .inl (by simp)
        go_upto_region 17 with (fail)
        go_region
        all_goals
          go_wp2
          have hB2 := Blk.set4 (V := V4) HK.out (.int .i64 6) (.int .i64 (0)) (.string ⟨#[]⟩) (.slice none 0 0)
          have y0 := hB2.cell 0
          have y1 := hB2.cell 1
          have y2 := hB2.cell 2
          have y3 := hB2.cell 3
          refine bodyPost_ret (v := .tuple #[.agg #[.int .i64 6, .int .i64 (0), .string ⟨#[]⟩, .slice none 0 0], .slice (some ⟨b, oa, none⟩) 0 0, .bool true]) (by simp [results, Try.results70, go_sem, y0, y1, y2, y3]) rfl ?_
          have hfr := fr_set4 V4 g (.int .i64 6) (.int .i64 (0)) (.string ⟨#[]⟩) (.slice none 0 0)
          have hbl : Below W.heap.size W _ := Below.drew ((show Below W.heap.size W (V4) from HBL.out).trans (hfr.below HBL.out.size (fun k hk => by have := HG.out; omega)))
          exact ⟨6, 0, (some ⟨b, oa, none⟩), 0, 0, by rw [HE.out]; rfl, by rw [HE.out]; exact fun k' i' items ht => by (obtain ⟨rfl, rfl, rfl⟩ : k' = _ ∧ i' = _ ∧ items = _ := by simpa [eq_comm] using ht); exact ⟨rfl, rfl, HIL.out, HIR.out.below hbl⟩, hbl⟩
      · have q6 : ¬ (k1 + 1 = 1) := by omega
        have q7 : (m : Int) ≤ (k1 : Int) := by omega
        have HIR : Hid (RdC W (some ⟨b, oa + 1, none⟩) ((r.take m).map nv)) := by unfold Hid; rw [List.map_take]; exact HRR.out.take m
        go_upto_region 17 with (fail)
        go_region
        all_goals
          go_wp2
          have hB2 := Blk.set4 (V := V4) HK.out (.int .i64 6) (.int .i64 (0)) (.string ⟨#[]⟩) (.slice none 0 0)
          have y0 := hB2.cell 0
          have y1 := hB2.cell 1
          have y2 := hB2.cell 2
          have y3 := hB2.cell 3
          refine bodyPost_ret (v := .tuple #[.agg #[.int .i64 6, .int .i64 (0), .string ⟨#[]⟩, .slice none 0 0], .slice (some ⟨b, oa + 1, none⟩) m k1, .bool true]) (by simp [results, Try.results70, go_sem, y0, y1, y2, y3]) rfl ?_
          have hfr := fr_set4 V4 g (.int .i64 6) (.int .i64 (0)) (.string ⟨#[]⟩) (.slice none 0 0)
          have hbl : Below W.heap.size W _ := Below.drew ((show Below W.heap.size W (V4) from HBL.out).trans (hfr.below HBL.out.size (fun k hk => by have := HG.out; omega)))
          exact ⟨6, 0, (some ⟨b, oa + 1, none⟩), m, k1, by rw [HE.out]; rfl, by rw [HE.out]; exact fun k' i' items ht => by (obtain ⟨rfl, rfl, rfl⟩ : k' = _ ∧ i' = _ ∧ items = _ := by simpa [eq_comm] using ht); exact ⟨rfl, rfl, HIL.out, HIR.out.below hbl⟩, hbl⟩
set_option maxRecDepth 100000 in
set_option maxHeartbeats 4000000 in
theorem cell7_v {left : Int} (hB : Blk W pw 79 (WC Aw lw cw Aa la ca Ar lr cr left 0)) (hR : RdC W Aw (ws.map nv)) (hl : ws.length = lw) (h64 : W64 ws) (hlc : lw ≤ cw) (hcm : cw ≤ 9223372036854775807) (hlw : lw ≤ 100000) (a : Nat) (ha : a < lw) : Calls Try.prog 70 #[.pointer (some ⟨pw, 0, none⟩), .int .i64 (a : Int), .int .i64 7] W (CellEnds W (cellP ws a 7)) := by
  unfold WC at *
  have HB := Lib.hid hB
  obtain ⟨x, hx⟩ : ∃ x, (ws.map nv)[a]? = some x := ⟨_, List.getElem?_eq_getElem (by simp; omega)⟩
  obtain ⟨b, off, rfl, hxc⟩ := hR.at_ hx
  have HBW := Lib.hid (World.block_lt_of_cell? W _ hxc)
  clear hxc
  have HR := Lib.hid (hR.drop a)
  have HL := Lib.hid hl
  have H64 : Hid (W64 (ws.drop a)) := fun x hx => h64 x (List.mem_of_mem_drop hx)
  have hmm := @run_makeMap Try.prog
  clear hB hR hl h64 hx
  obtain ⟨g, hg⟩ : ∃ g, W.heap.size = g := ⟨_, rfl⟩
  have HG := Lib.hid hg
  go_enter Try.func70, Try.ntmps70
  go_upto_region 1 with (fail)
  refine wp_world (fun V => Below W.heap.size W V ∧ Blk V g 37 #[.int .i64 0, .int .i64 0, .string ⟨#[]⟩, .slice none 0 0]) ⟨below_alloc _ _, by rw [← HG.out]; exact Blk.new _ _ _⟩ ?_
  rintro V ⟨hb, hk⟩
  have HK := Lib.hid hk
  have HBL := Lib.hid hb
  have HB := Lib.hid (HB.out.keep hb)
  have x0 := HB.out.cell 0
  clear hb hk hg
  have q1 : (0 : Int) ≤ (a : Int) := by omega
  have q2 : (a : Int) ≤ (lw : Int) := by omega
  have q3 : ¬ cw = a := by omega
  go_upto_region 2 with (fail)
  clear x0 q1 q2 q3
  obtain ⟨nr, hnr⟩ : ∃ nr, lw - a = nr := ⟨_, rfl⟩
  obtain ⟨kr, hkr⟩ : ∃ kr, cw - a = kr := ⟨_, rfl⟩
  obtain ⟨b2, hb2⟩ : ∃ b2, V.heap.size = b2 := ⟨_, rfl⟩
  have HMB : Hid (W.heap.size ≤ b2) := by rw [← hb2]; exact HBL.out.size
  have HT : Hid (IT (V.alloc (.map #[] 0)) b2 []) := by rw [← hb2]; exact World.ownsMap_made V Try.prog 3 (plainElem (H := Unit) Try.prog 3)
  have HB2 := Lib.hid hb2
  have HV := Lib.hid HBL.out
  have HKV := Lib.hid (HK.out.alloc (.map #[] 0))
  have HGB : Hid (g ≠ b2) := by have := HK.out.lt; have := hb2; unfold Hid; omega
  have HBL := Lib.hid (below_step HBL.out (below_alloc V (.map #[] 0)))
  clear HK HV
  rw [hnr, hkr]
  have HNR : Hid ((ws.drop a).length = nr) := by have := HL.out; unfold Hid; rw [List.length_drop]; omega
  have hn1 : 1 ≤ nr := by omega
  have hnk : nr ≤ kr := by omega
  have hk63 : kr ≤ 9223372036854775807 := by omega
  have hn5 : nr ≤ 100000 := by omega
  have HE0 : Hid (∀ k, cellP ws a k = cellP (ws.drop a) 0 k) := fun k => by unfold cellP; rw [List.drop_zero]
  rw [← List.map_drop] at HR
  generalize ws.drop a = R at *
  obtain ⟨oa, hoa⟩ : ∃ oa, off + a = oa := ⟨_, rfl⟩
  rw [hoa] at HR ⊢
  clear hnr hkr hoa HL hlc hcm hlw
  go_upto_region 3 with (first | ((with_reducible refine wpList_insI 5 0 [(5, 0)] HT (by simp) ?_ (by decide) (by decide) iput5 (by simp) ?_); rfl; intro w1 HT2 HG2; clear HT; have HT := HT2; clear HT2;  have HBL := Lib.hid (HBL.out.grown HG2.out HBL.out.size (fun k hk => by have := Option.some.inj hk; have := HMB.out; omega)); have HKV := Lib.hid (HKV.out.grown HG2.out (fun e => HGB.out (Option.some.inj e))); clear HG2) | ((with_reducible refine wpList_insI 6 1 [(5, 0), (6, 1)] HT (by simp) ?_ (by decide) (by decide) iput6 (by simp) ?_); rfl; intro w1 HT2 HG2; clear HT; have HT := HT2; clear HT2;  have HBL := Lib.hid (HBL.out.grown HG2.out HBL.out.size (fun k hk => by have := Option.some.inj hk; have := HMB.out; omega)); have HKV := Lib.hid (HKV.out.grown HG2.out (fun e => HGB.out (Option.some.inj e))); clear HG2) | ((with_reducible refine wpList_insI 7 2 [(5, 0), (6, 1), (7, 2)] HT (by simp) ?_ (by decide) (by decide) iput7 (by simp) ?_); rfl; intro w1 HT2 HG2; clear HT; have HT := HT2; clear HT2; have hlk := IT.look HT.out (k := 7) (by decide) (v := 2) ilk7;  have HBL := Lib.hid (HBL.out.grown HG2.out HBL.out.size (fun k hk => by have := Option.some.inj hk; have := HMB.out; omega)); have HKV := Lib.hid (HKV.out.grown HG2.out (fun e => HGB.out (Option.some.inj e))); clear HG2))
  refine wp_world (fun V => Below W.heap.size W V ∧ Blk V g 37 #[.int .i64 0, .int .i64 0, .string ⟨#[]⟩, .slice none 0 0]) ⟨HBL.out, HKV.out⟩ ?_
  clear HBL HKV HT HMB HB2 HGB hmm hb2
  rintro V3 ⟨hb, hk⟩
  have HBL := Lib.hid hb
  have HK := Lib.hid hk
  clear hb hk
  by_cases h2 : nr < 2
  · obtain ⟨x0, rfl⟩ : ∃ x0, R = [x0] := List.length_eq_one_iff.1 (by rw [HNR.out]; omega)
    have d0 : decide ((nr : Int) < 2) = true := by simp; omega
    have HE := Lib.hid (show cellP ws a 7 = none from by rw [HE0.out]; unfold cellP; rw [if_neg (by decide), if_neg (by decide), List.drop_zero])
    have z0 := HK.out.cell 0
    have z1 := HK.out.cell 1
    have z2 := HK.out.cell 2
    have z3 := HK.out.cell 3
    have zf0 := HK.out.frozen 0
    have zf1 := HK.out.frozen 1
    have zf2 := HK.out.frozen 2
    have zf3 := HK.out.frozen 3
    go_wp2
    have hB2 := Blk.set4 (V := V3) HK.out (.int .i64 0) (.int .i64 (0)) (.string ⟨#[]⟩) (.slice none 0 0)
    have y0 := hB2.cell 0
    have y1 := hB2.cell 1
    have y2 := hB2.cell 2
    have y3 := hB2.cell 3
    refine bodyPost_ret (v := .tuple #[.agg #[.int .i64 0, .int .i64 (0), .string ⟨#[]⟩, .slice none 0 0], .slice none 0 0, .bool false]) (by simp [results, Try.results70, go_sem, y0, y1, y2, y3]) rfl ?_
    have hfr := fr_set4 V3 g (.int .i64 0) (.int .i64 (0)) (.string ⟨#[]⟩) (.slice none 0 0)
    have hbl : Below W.heap.size W _ := (show Below W.heap.size W (V3) from HBL.out).trans (hfr.below HBL.out.size (fun k hk => by have := HG.out; omega))
    exact ⟨0, 0, none, 0, 0, by rw [HE.out]; rfl, by rw [HE.out]; exact fun _ _ _ ht => (by cases ht), hbl⟩
  · obtain ⟨i0, m, r, rfl⟩ : ∃ i0 m r, R = i0 :: m :: r := by (have h9 := HNR.out; match R, h9 with | [], h9 => simp at h9; omega | [_], h9 => simp at h9; omega | a :: b :: r, _ => exact ⟨a, b, r, rfl⟩)
    by_cases hi : 576460752303423487 < i0
    · have d0 : decide ((nr : Int) < 2) = false := by simp; omega
      have d3 : decide ((576460752303423487 : Int) < (i0 : Int)) = true := by simp; omega
      have r0 : V3.cell? ⟨b, oa, none⟩ = some (.int .u64 (i0 : Int)) := by
        obtain ⟨b9, o9, e9, h9⟩ := (HR.out.below HBL.out).at_ (j := 0) (v := nv i0) (by simp)
        simp only [Option.some.injEq, Addr.mk.injEq, and_true] at e9
        obtain ⟨rfl, rfl⟩ := e9
        exact h9
      have q0 : (0 : Int) < (nr : Int) := by omega
      have HE := Lib.hid (show cellP ws a 7 = none from by rw [HE0.out]; unfold cellP; rw [if_neg (by decide), if_neg (by decide), List.drop_zero]; simp only; rw [if_pos (by omega)])
      have z0 := HK.out.cell 0
      have z1 := HK.out.cell 1
      have z2 := HK.out.cell 2
      have z3 := HK.out.cell 3
      have zf0 := HK.out.frozen 0
      have zf1 := HK.out.frozen 1
      have zf2 := HK.out.frozen 2
      have zf3 := HK.out.frozen 3
      go_wp2
      have hB2 := Blk.set4 (V := V3) HK.out (.int .i64 0) (.int .i64 (0)) (.string ⟨#[]⟩) (.slice none 0 0)
      have y0 := hB2.cell 0
      have y1 := hB2.cell 1
      have y2 := hB2.cell 2
      have y3 := hB2.cell 3
      refine bodyPost_ret (v := .tuple #[.agg #[.int .i64 0, .int .i64 (0), .string ⟨#[]⟩, .slice none 0 0], .slice none 0 0, .bool false]) (by simp [results, Try.results70, go_sem, y0, y1, y2, y3]) rfl ?_
      have hfr := fr_set4 V3 g (.int .i64 0) (.int .i64 (0)) (.string ⟨#[]⟩) (.slice none 0 0)
      have hbl : Below W.heap.size W _ := (show Below W.heap.size W (V3) from HBL.out).trans (hfr.below HBL.out.size (fun k hk => by have := HG.out; omega))
      exact ⟨0, 0, none, 0, 0, by rw [HE.out]; rfl, by rw [HE.out]; exact fun _ _ _ ht => (by cases ht), hbl⟩
    · obtain ⟨n1, rfl⟩ : ∃ n1, nr = n1 + 2 := ⟨nr - 2, by omega⟩
      obtain ⟨k1, rfl⟩ : ∃ k1, kr = k1 + 2 := ⟨kr - 2, by omega⟩
      have HRL : Hid (r.length = n1) := by have h9 := HNR.out; simp only [List.length_cons] at h9; unfold Hid; omega
      have HM64 : Hid (m < 18446744073709551616) := H64.out m (by simp)
      have HRR : Hid (RdC W (some ⟨b, oa + 2, none⟩) (r.map nv)) := by have h9 := HR.out.drop 2; unfold Hid; simpa using h9
      have HC0 : Hid (∀ V, Below W.heap.size W V → V.cell? ⟨b, oa, none⟩ = some (.int .u64 (i0 : Int))) := fun V hV => by
        obtain ⟨b9, o9, e9, h9⟩ := (HR.out.below hV).at_ (j := 0) (v := nv i0) (by simp)
        simp only [Option.some.injEq, Addr.mk.injEq, and_true] at e9
        obtain ⟨rfl, rfl⟩ := e9
        exact h9
      have r0 := HC0.out V3 HBL.out
      have HC1 : Hid (∀ V, Below W.heap.size W V → V.cell? ⟨b, oa + 1, none⟩ = some (.int .u64 (m : Int))) := fun V hV => by
        obtain ⟨b9, o9, e9, h9⟩ := (HR.out.below hV).at_ (j := 1) (v := nv m) (by simp)
        simp only [Option.some.injEq, Addr.mk.injEq, and_true] at e9
        obtain ⟨rfl, rfl⟩ := e9
        exact h9
      have r1 := HC1.out V3 HBL.out
      have d0 : decide (((n1 + 2 : Nat) : Int) < 2) = false := by simp; omega
      have d00 : decide ((n1 : Int) + 2 < 2) = false := by simp; omega
      have mixed : Try.prog.follows .mixedOrders = true := by kernel_rfl
      have hbg : ¬ b = g := by have h9 := HBW.out; have h8 := HG.out; simp only at h9; omega
      have hgb : ¬ g = b := fun e => hbg e.symm
      have z0 := HK.out.cell 0
      have z1 := HK.out.cell 1
      have z2 := HK.out.cell 2
      have z3 := HK.out.cell 3
      have zf0 := HK.out.frozen 0
      have zf1 := HK.out.frozen 1
      have zf2 := HK.out.frozen 2
      have zf3 := HK.out.frozen 3
      have d3 : decide ((576460752303423487 : Int) < (i0 : Int)) = false := by simp; omega
      have hi0 : (i0 : Int) ≤ 576460752303423487 := by omega
      have q1 : (1 : Int) < (n1 : Int) + 2 := by omega
      have q0 : (0 : Int) < (n1 : Int) + 2 := by omega
      go_upto_region 9 with (fail)
      go_region
      all_goals
        go_upto_region 14 with (fail)
        refine wp_world (fun V => Below W.heap.size W V ∧ Blk V g 37 #[.int .i64 4, .int .i64 (i0 : Int), .string ⟨#[]⟩, .slice none 0 0]) ⟨?_, ?_⟩ ?_
        · exact (HBL.out.trans (((Fr.setCell (fun k => k = g) V3 (p := ⟨g, 0, none⟩) (fun _ => rfl) _).same (Fr.setCell (fun k => k = g) _ (p := ⟨g, 1, none⟩) (fun _ => rfl) _)).below HBL.out.size (fun k hk => by have := HG.out; omega))).drew
        · have h9 := (HK.out.set_ 0 (.int .i64 4)).set_ 1 (.int .i64 (i0 : Int))
          exact h9
        clear z0 z1 z2 z3 zf0 zf1 zf2 zf3 r0 r1
        rintro V4 ⟨hb, hk⟩
        have HBL := Lib.hid hb
        have HK := Lib.hid hk
        have z0 := HK.out.cell 0
        have z1 := HK.out.cell 1
        have z2 := HK.out.cell 2
        have z3 := HK.out.cell 3
        have zf0 := HK.out.frozen 0
        have zf1 := HK.out.frozen 1
        have zf2 := HK.out.frozen 2
        have zf3 := HK.out.frozen 3
        clear hb hk
        by_cases hm : n1 < m
        · have HE := Lib.hid (show cellP ws a 7 = none from by rw [HE0.out]; unfold cellP; rw [if_neg (by decide), if_neg (by decide), List.drop_zero]; simp only; rw [if_neg (by omega)]; rw [if_pos (by rw [HRL.out]; exact hm)])
          have d4 : decide ((n1 : Int) < (m : Int)) = true := by simp; omega
          have q5 : (2 : Int) ≤ (n1 : Int) + 2 := by omega
          by_cases hk0 : k1 = 0
          · subst hk0
            obtain rfl : n1 = 0 := by omega
            have d5 : decide ((0 : Int) < (m : Int)) = true := by simp; omega
            go_wp2
            have hB2 := Blk.set4 (V := V4) HK.out (.int .i64 4) (.int .i64 ((i0 : Int))) (.string ⟨#[]⟩) (.slice none 0 0)
            have y0 := hB2.cell 0
            have y1 := hB2.cell 1
            have y2 := hB2.cell 2
            have y3 := hB2.cell 3
            refine bodyPost_ret (v := .tuple #[.agg #[.int .i64 4, .int .i64 ((i0 : Int)), .string ⟨#[]⟩, .slice none 0 0], .slice none 0 0, .bool false]) (by simp [results, Try.results70, go_sem, y0, y1, y2, y3]) rfl ?_
            have hfr := fr_set4 V4 g (.int .i64 4) (.int .i64 ((i0 : Int))) (.string ⟨#[]⟩) (.slice none 0 0)
            have hbl : Below W.heap.size W _ := (show Below W.heap.size W (V4) from HBL.out).trans (hfr.below HBL.out.size (fun k hk => by have := HG.out; omega))
            exact ⟨4, (i0 : Int), none, 0, 0, by rw [HE.out]; rfl, by rw [HE.out]; exact fun _ _ _ ht => (by cases ht), hbl⟩
          · have q6 : ¬ (k1 + 2 = 2) := by omega
            go_wp2
            have hB2 := Blk.set4 (V := V4) HK.out (.int .i64 4) (.int .i64 ((i0 : Int))) (.string ⟨#[]⟩) (.slice none 0 0)
            have y0 := hB2.cell 0
            have y1 := hB2.cell 1
            have y2 := hB2.cell 2
            have y3 := hB2.cell 3
            refine bodyPost_ret (v := .tuple #[.agg #[.int .i64 4, .int .i64 ((i0 : Int)), .string ⟨#[]⟩, .slice none 0 0], .slice none 0 0, .bool false]) (by simp [results, Try.results70, go_sem, y0, y1, y2, y3]) rfl ?_
            have hfr := fr_set4 V4 g (.int .i64 4) (.int .i64 ((i0 : Int))) (.string ⟨#[]⟩) (.slice none 0 0)
            have hbl : Below W.heap.size W _ := (show Below W.heap.size W (V4) from HBL.out).trans (hfr.below HBL.out.size (fun k hk => by have := HG.out; omega))
            exact ⟨4, (i0 : Int), none, 0, 0, by rw [HE.out]; rfl, by rw [HE.out]; exact fun _ _ _ ht => (by cases ht), hbl⟩
        · have HE := Lib.hid (show cellP ws a 7 = some (4, (i0 : Int), r.take m) from by rw [HE0.out]; unfold cellP; rw [if_neg (by decide), if_neg (by decide), List.drop_zero]; simp only; rw [if_neg (by omega)]; rw [if_neg (by rw [HRL.out]; exact hm)])
          have d4 : decide ((n1 : Int) < (m : Int)) = false := by simp; omega
          have q5 : (2 : Int) ≤ (n1 : Int) + 2 := by omega
          have HIL : Hid ((r.take m).length = m) := by have := HRL.out; unfold Hid; rw [List.length_take]; omega
          by_cases hk0 : k1 = 0
          · subst hk0
            obtain rfl : n1 = 0 := by omega
            obtain rfl : m = 0 := by omega
            have HIR : Hid (RdC W (some ⟨b, oa, none⟩) ((r.take 0).map nv)) := by unfold Hid; exact .inl (by simp)
            go_upto_region 17 with (fail)
            go_region
            all_goals
              go_wp2
              have hB2 := Blk.set4 (V := V4) HK.out (.int .i64 4) (.int .i64 ((i0 : Int))) (.string ⟨#[]⟩) (.slice none 0 0)
              have y0 := hB2.cell 0
              have y1 := hB2.cell 1
              have y2 := hB2.cell 2
              have y3 := hB2.cell 3
              refine bodyPost_ret (v := .tuple #[.agg #[.int .i64 4, .int .i64 ((i0 : Int)), .string ⟨#[]⟩, .slice none 0 0], .slice (some ⟨b, oa, none⟩) 0 0, .bool true]) (by simp [results, Try.results70, go_sem, y0, y1, y2, y3]) rfl ?_
              have hfr := fr_set4 V4 g (.int .i64 4) (.int .i64 ((i0 : Int))) (.string ⟨#[]⟩) (.slice none 0 0)
              have hbl : Below W.heap.size W _ := Below.drew ((show Below W.heap.size W (V4) from HBL.out).trans (hfr.below HBL.out.size (fun k hk => by have := HG.out; omega)))
              exact ⟨4, (i0 : Int), (some ⟨b, oa, none⟩), 0, 0, by rw [HE.out]; rfl, by rw [HE.out]; exact fun k' i' items ht => by (obtain ⟨rfl, rfl, rfl⟩ : k' = _ ∧ i' = _ ∧ items = _ := by simpa [eq_comm] using ht); exact ⟨rfl, rfl, HIL.out, HIR.out.below hbl⟩, hbl⟩
          · have q6 : ¬ (k1 + 2 = 2) := by omega
            have q7 : (m : Int) ≤ (k1 : Int) := by omega
            have HIR : Hid (RdC W (some ⟨b, oa + 2, none⟩) ((r.take m).map nv)) := by unfold Hid; rw [List.map_take]; exact HRR.out.take m
            go_upto_region 17 with (fail)
            go_region
            all_goals
              go_wp2
              have hB2 := Blk.set4 (V := V4) HK.out (.int .i64 4) (.int .i64 ((i0 : Int))) (.string ⟨#[]⟩) (.slice none 0 0)
              have y0 := hB2.cell 0
              have y1 := hB2.cell 1
              have y2 := hB2.cell 2
              have y3 := hB2.cell 3
              refine bodyPost_ret (v := .tuple #[.agg #[.int .i64 4, .int .i64 ((i0 : Int)), .string ⟨#[]⟩, .slice none 0 0], .slice (some ⟨b, oa + 2, none⟩) m k1, .bool true]) (by simp [results, Try.results70, go_sem, y0, y1, y2, y3]) rfl ?_
              have hfr := fr_set4 V4 g (.int .i64 4) (.int .i64 ((i0 : Int))) (.string ⟨#[]⟩) (.slice none 0 0)
              have hbl : Below W.heap.size W _ := Below.drew ((show Below W.heap.size W (V4) from HBL.out).trans (hfr.below HBL.out.size (fun k hk => by have := HG.out; omega)))
              exact ⟨4, (i0 : Int), (some ⟨b, oa + 2, none⟩), m, k1, by rw [HE.out]; rfl, by rw [HE.out]; exact fun k' i' items ht => by (obtain ⟨rfl, rfl, rfl⟩ : k' = _ ∧ i' = _ ∧ items = _ := by simpa [eq_comm] using ht); exact ⟨rfl, rfl, HIL.out, HIR.out.below hbl⟩, hbl⟩
end
end Go.Proofs.Ytefnjplfemgibaa
