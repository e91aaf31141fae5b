/- Layer 12: the walk of check.Check at a program of one clause. -/
import Derived.Test.YthhindnjnijglaaChO
import Derived.Test.YthhindnjnijglaaChQ
namespace Go.Proofs.Ythhindnjnijglaa
open Go.RowKit Go.Maps Go.WideMaps
set_option linter.unusedVariables false

/-- The checker ahead of its names. -/
structure CK0 (cb mb : Nat) (s : CS) (W : World) : Prop where
  obj : Blk W cb 76 #[.map (some mb), .int .i64 s.e, .int .i64 s.at_]
  own : W.ownsMap (H := Value) Try.prog 55 hE mb 0 (.map [])
  ne : mb ≠ cb
section
variable {cb mb : Nat} {s s' : CS} {W W' V : World}
theorem CK0.keep (h : CK0 cb mb s W) (hb : Below W.heap.size W W') : CK0 cb mb s W' := ⟨h.obj.keep hb, owns_keep h.own hb, h.ne⟩
theorem CK0.ck (h : CK0 cb mb s W) : CK cb mb (fun _ _ => false) s W := by
  refine ⟨h.obj, ⟨0, .map [], h.own, fun V hV s n hs hn => ?_⟩, h.ne⟩
  obtain ⟨v, ps, hrun, hv⟩ := World.ownsMap.lookup hV ckN Try.underlying72 (czero V) rfl (keyOfN hs hn)
  simp only [DataW.atKey, List.find?_nil, hE, Option.some.injEq, Prod.mk.injEq, DataW.held.injEq] at hv
  rw [hrun, hv.1]
theorem CK0.act (h : CK0 cb mb s W) {nm? : List UInt8 → Nat → Bool} (hk : CK cb mb nm? s' W') (hf : CFr cb W W') : CK0 cb mb s' W' := ⟨hk.obj, owns_fr h.own hf h.ne, h.ne⟩
end
theorem made0 (V : World) : CK0 (V.heap.size + 1) V.heap.size ⟨0, 0⟩ ((V.alloc (.map #[] 0)).alloc (.cells #[.map (some V.heap.size), .int .i64 0, .int .i64 0] 76)) ∧ Below V.heap.size V ((V.alloc (.map #[] 0)).alloc (.cells #[.map (some V.heap.size), .int .i64 0, .int .i64 0] 76)) := by
  have e : (V.alloc (.map #[] 0)).heap.size = V.heap.size + 1 := by simp
  have h1 := Blk.new (V.alloc (.map #[] 0)) 76 #[.map (some V.heap.size), .int .i64 0, .int .i64 0]
  rw [e] at h1
  exact ⟨⟨h1, owns_keep (World.ownsMap_made V _ _ _) (below_alloc _ _), by omega⟩, below_step (below_alloc _ _) (below_alloc _ _)⟩
/-- Check's boxes within a round. -/
structure CR (V : World) (cb mb : Nat) (s : CS) (b6 b7 : Nat) (v6 : Value) (c7 : Array Value) (W : World) : Prop where
  ck : CK0 cb mb s W
  x6 : Blk W b6 65 #[v6]
  x7 : Blk W b7 67 c7
  bel : Below V.heap.size V W
  lo : V.heap.size ≤ cb
  lm : V.heap.size ≤ mb
  l6 : cb < b6
  l7 : cb < b7
theorem CR.keep {V W W' : World} {cb mb : Nat} {s : CS} {b6 b7 : Nat} {v6 : Value} {c7 : Array Value} (h : CR V cb mb s b6 b7 v6 c7 W) (hb : Below W.heap.size W W') : CR V cb mb s b6 b7 v6 c7 W' := ⟨h.ck.keep hb, h.x6.keep hb, h.x7.keep hb, below_step h.bel hb, h.lo, h.lm, h.l6, h.l7⟩
theorem CR.act {V W W' : World} {cb mb : Nat} {s s' : CS} {b6 b7 : Nat} {v6 : Value} {c7 : Array Value} (h : CR V cb mb s b6 b7 v6 c7 W) {nm? : List UInt8 → Nat → Bool} (hk : CK cb mb nm? s' W') (hf : CFr cb W W') : CR V cb mb s' b6 b7 v6 c7 W' :=
  ⟨h.ck.act hk hf, hf.blk h.x6 (by have := h.l6; omega), hf.blk h.x7 (by have := h.l7; omega), h.bel.trans (hf.below h.bel.size (fun k hk => by have := h.lo; omega)), h.lo, h.lm, h.l6, h.l7⟩
def start0 (cd : CD) : CS := if bltP cd.name cd.patterns.length ≠ 0 then failC 121 cd.at_ ⟨0, 0⟩ else ⟨0, 0⟩
theorem startC_eq (cd : CD) : startC cd = if nmC cd kMain 0 = true then start0 cd else failC 122 0 (start0 cd) := rfl
set_option maxRecDepth 100000 in
set_option maxHeartbeats 8000000 in
theorem check_any {K : Nms} (hK : KK K) {V : World} {g k : Nat} {B : Option Addr} {d : Nat} {cd : CD} (hP : PRd V g k B d cd) (hwf : cd.wf) (hal : cd.all (fun s => s ∈ K)) :
    Calls Try.prog 16 #[.slice (some ⟨g, 0, none⟩) 1 k] V fun e w' => e = .returned (.tuple #[.int .i64 (chkC cd).e, .int .i64 (chkC cd).at_]) ∧ Below V.heap.size V w' := by
  obtain ⟨b, o, x, rfl, hx0, hok, e0, e1, e2, e3, e4⟩ := rdc_item hP.cl (k := 0) (by simp)
  have hx : x.t = cd := hx0
  clear hx0
  simp only [Nat.zero_mul, Nat.add_zero] at e0 e1 e2 e3 e4
  have HCO : Hid (∀ (cb mb : Nat) (s' : CS) (V' : World), CA V cb mb (nmC cd) K [] (.map none) s' V' → Calls Try.prog 28 #[.pointer (some ⟨cb, 0, none⟩), .map none, .slice (some ⟨b, o, none⟩) 1 d] V' (VEnd V cb mb (nmC cd) K [] (.map none) V' (clsC bltP (nmC cd) [] [cd] s'))) := fun cb mb s' V' h' =>
    (all_chk hK (CD.szL [cd])).2.2 [cd] (some ⟨b, o, none⟩) d [] (.map none) s' V' (Nat.le_refl _) hP.cl (by simp only [CD.wfL, and_true]; exact hwf) (by simp only [CD.allL, and_true]; exact hal) h'
  have hnl : cd.name.length ≤ 20000 := hK.txt _ ((CD.all_iff _).1 hal).1
  have hnp : cd.patterns.length ≤ 9223372036854775807 := by have h1 := hok.patterns.1; have h2 := hok.patterns.2.1; rw [hx] at h1; omega
  have hc1 : 1 ≤ d := by have := hP.cl.1; simpa using this
  have hc2 := hP.cl.2.1
  have hk1 := hP.lo
  have hk2 := hP.hi
  have HFN := Lib.hid hP.fn
  obtain ⟨nm, hnm⟩ : ∃ nm, cd.name = nm := ⟨_, rfl⟩
  obtain ⟨np, hnpe⟩ : ∃ np, cd.patterns.length = np := ⟨_, rfl⟩
  have HNC : Hid (nmC cd = fun s n => s == nm && n == np) := by unfold Hid; funext s n; unfold nmC; rw [hnm, hnpe]
  have HBL : Hid (∀ V', Calls Try.prog 8 #[.string ⟨nm.toArray⟩, .int .i64 (np : Int)] V' fun e w' => e = .returned (.int .i64 (bltP nm np)) ∧ Below V'.heap.size V' w') := fun V' => blt_any nm np V'
  have HS0 : Hid (start0 cd = if bltP nm np ≠ 0 then failC 121 cd.at_ ⟨0, 0⟩ else ⟨0, 0⟩) := by unfold Hid start0; rw [hnm, hnpe]
  obtain ⟨bl, hbl⟩ : ∃ bl, bltP nm np = bl := ⟨_, rfl⟩
  rw [hbl] at HBL HS0
  rw [hnm] at hnl
  rw [hnpe] at hnp
  rw [← hx] at hnm hnpe HS0
  rw [hnpe] at e0
  rw [hnm] at e3
  have hch : chkC cd = clsC bltP (nmC cd) [] [cd] (startC cd) := rfl
  rw [startC_eq] at hch
  have HCH := Lib.hid hch
  rw [HNC.out] at HCO
  obtain ⟨s0, hs0⟩ : ∃ s0, start0 cd = s0 := ⟨_, rfl⟩
  have HS1 : Hid (s0 = if bl ≠ 0 then failC 121 x.t.at_ ⟨0, 0⟩ else ⟨0, 0⟩) := by unfold Hid; rw [← hs0]; rw [hx] at HS0 ⊢; exact HS0.out
  rw [hs0] at HCH
  obtain ⟨bm, hbm⟩ : ∃ bm, nmC cd kMain 0 = bm := ⟨_, rfl⟩
  rw [hbm] at HCH
  have HBM : Hid ((kMain == nm && (0 : Nat) == np) = bm) := by unfold Hid; rw [← hbm, HNC.out]
  rw [HNC.out] at HCH
  obtain ⟨R, hR⟩ : ∃ R, chkC cd = R := ⟨_, rfl⟩
  rw [hR] at HCH ⊢
  have HE0 := Lib.hid e0
  have HE1 := Lib.hid e1
  have HE2 := Lib.hid e2
  have HE3 := Lib.hid e3
  have HE4 := Lib.hid e4
  have hgl := World.block_lt_of_cell? V _ hP.fn
  have hbb := World.block_lt_of_cell? V _ e0
  clear hP hwf hal hx hok hnm hnpe hch hs0 hbm hR e0 e1 e2 e3 e4 hbl HS0 HNC
  have hmm := @run_makeMap Try.prog
  go_enter Try.func16, Try.ntmps16
  go_upto_region 2 with (fail)
  have HM := made0 V
  have hsz : V.heap.size ≤ V.heap.size := Nat.le_refl _
  obtain ⟨mb, hmb⟩ : ∃ mb, V.heap.size = mb := ⟨_, rfl⟩
  obtain ⟨cb, hcb⟩ : ∃ cb, mb + 1 = cb := ⟨_, rfl⟩
  rw [hmb] at HM ⊢
  rw [hcb] at HM ⊢
  refine wp_world (fun W => CK0 cb mb ⟨0, 0⟩ W ∧ Below V.heap.size V W) ⟨HM.1, by rw [hmb]; exact HM.2⟩ ?_
  clear HM
  rintro V1 ⟨h1, hb1⟩
  have H1 := Lib.hid h1
  have HB1 := Lib.hid hb1
  have hlm : V.heap.size ≤ mb := by omega
  have hlc : V.heap.size ≤ cb := by omega
  have hsz := hb1.size
  clear h1 hb1 hmm hmb hcb
  go_upto_region 3 with (fail)
  go_loopw [18] (fun i wr => (i = .int .i64 0 ∧ Hid (CK0 cb mb ⟨0, 0⟩ wr ∧ Below V.heap.size V wr)) ∨ (i = .int .i64 1 ∧ Hid (CK cb mb (fun s n => s == nm && n == np) s0 wr ∧ Below V.heap.size V wr))) (fun i _ => 1 - (intOf i).toNat)
  case atStart => exact .inl ⟨rfl, H1.out, HB1.out⟩
  case round =>
    clear H1 HB1
    rcases hrel with ⟨rfl, HQ⟩ | ⟨rfl, HQ⟩
    · have hcl := HQ.out.1.obj.lt
      have c0 := (HQ.out.2.cell hgl).trans HFN.out
      go_upto_region 5 with (fail)
      obtain ⟨b6, hb6⟩ : ∃ b6, wr.heap.size = b6 := ⟨_, rfl⟩
      rw [hb6]
      refine wp_world (fun W => (CK0 cb mb ⟨0, 0⟩ W ∧ Below V.heap.size V W) ∧ Blk W b6 65 #[.slice (some ⟨b, o, none⟩) 1 d]) ⟨⟨HQ.out.1.keep (below_alloc _ _), below_step HQ.out.2 (below_alloc _ _)⟩, by rw [← hb6]; exact Blk.new _ _ _⟩ ?_
      rintro V2 ⟨hq2, hx6⟩
      have HQ2 := Lib.hid hq2
      have HX6 := Lib.hid hx6
      clear HQ c0
      have hl6 : cb < b6 := by omega
      clear hb6 hcl
      have c0 := (hq2.2.cell hbb).trans HE0.out
      have c1 := (hq2.2.cell (p := ⟨b, o + 1, none⟩) hbb).trans HE1.out
      have c2 := (hq2.2.cell (p := ⟨b, o + 2, none⟩) hbb).trans HE2.out
      have c3 := (hq2.2.cell (p := ⟨b, o + 3, none⟩) hbb).trans HE3.out
      have c4 := (hq2.2.cell (p := ⟨b, o + 4, none⟩) hbb).trans HE4.out
      have g6 := hx6.cell 0
      have hcl := hq2.1.obj.lt
      clear hq2 hx6
      go_upto_region 6 with (fail)
      obtain ⟨b7, hb7⟩ : ∃ b7, V2.heap.size = b7 := ⟨_, rfl⟩
      rw [hb7]
      refine wp_world (CR V cb mb ⟨0, 0⟩ b6 b7 (.slice (some ⟨b, o, none⟩) 1 d) #[.slice x.A np x.c, .slice x.B x.t.guards.length x.d, .slice x.C x.t.body.length x.e, .string ⟨nm.toArray⟩, .int .i64 x.t.at_]) ⟨HQ2.out.1.keep (below_alloc _ _), HX6.out.keep (below_alloc _ _), by rw [← hb7]; exact Blk.new _ _ _, below_step HQ2.out.2 (below_alloc _ _), hlc, hlm, hl6, by omega⟩ ?_
      intro V3 h3
      have H3 := Lib.hid h3
      have g6 := h3.x6.cell 0
      clear HQ2 HX6 c0 c1 c2 c3 c4 hb7 hcl h3
      go_upto_region 7 with (fail)
      go_loopw [29] (fun i wr => (i = .int .i64 0 ∧ Hid (CR V cb mb ⟨0, 0⟩ b6 b7 (.slice (some ⟨b, o, none⟩) 1 d) #[.slice x.A np x.c, .slice x.B x.t.guards.length x.d, .slice x.C x.t.body.length x.e, .string ⟨nm.toArray⟩, .int .i64 x.t.at_] wr)) ∨ (i = .int .i64 1 ∧ Hid (CR V cb mb ⟨0, 0⟩ b6 b7 (.slice (some ⟨b, o, none⟩) 1 d) #[.slice x.A np x.c, .slice x.B x.t.guards.length x.d, .slice x.C x.t.body.length x.e, .string ⟨nm.toArray⟩, .int .i64 x.t.at_] wr))) (fun i _ => 1 - (intOf i).toNat)
      case atStart => exact .inl ⟨rfl, H3.out⟩
      case round =>
        clear H3
        rcases hrel with ⟨rfl, HQ⟩ | ⟨rfl, HQ⟩
        · have c0 := (HQ.out.bel.cell hbb).trans HE0.out
          have c1 := (HQ.out.bel.cell (p := ⟨b, o + 1, none⟩) hbb).trans HE1.out
          have c2 := (HQ.out.bel.cell (p := ⟨b, o + 2, none⟩) hbb).trans HE2.out
          have c3 := (HQ.out.bel.cell (p := ⟨b, o + 3, none⟩) hbb).trans HE3.out
          have c4 := (HQ.out.bel.cell (p := ⟨b, o + 4, none⟩) hbb).trans HE4.out
          go_upto_region 9 with (fail)
          refine wp_world (fun W => CR V cb mb ⟨0, 0⟩ b6 b7 (.slice (some ⟨b, o, none⟩) 1 d) #[.slice x.A np x.c, .slice x.B x.t.guards.length x.d, .slice x.C x.t.body.length x.e, .string ⟨nm.toArray⟩, .int .i64 x.t.at_] W ∧ Blk W wr.heap.size 67 #[.slice x.A np x.c, .slice x.B x.t.guards.length x.d, .slice x.C x.t.body.length x.e, .string ⟨nm.toArray⟩, .int .i64 x.t.at_]) ⟨HQ.out.keep (below_alloc _ _), Blk.new _ _ _⟩ ?_
          rintro V4 ⟨h4, hx9⟩
          have H4 := Lib.hid h4
          clear HQ c0 c1 c2 c3 c4
          have k0 := hx9.cell 0
          have k3 := hx9.cell 3
          have m0 := h4.x7.cell 0
          have m3 := h4.x7.cell 3
          clear h4 hx9
          go_wp2
          exact ⟨.inr ⟨rfl, H4.out⟩, by simp [intOf]⟩
        · have HL := Lib.hid hnp
          have hnl2 : nm.length ≤ maxLen := by unfold maxLen; omega
          have m0 := HQ.out.x7.cell 0
          have m3 := HQ.out.x7.cell 3
          go_upto_region 13 with (fail)
          clear m0 m3
          obtain ⟨b10, hb10⟩ : ∃ b10, wr.heap.size = b10 := ⟨_, rfl⟩
          rw [hb10]
          have hl10 : b10 ≠ cb := by have := HQ.out.ck.obj.lt; omega
          refine wp_world (fun W => CR V cb mb ⟨0, 0⟩ b6 b7 (.slice (some ⟨b, o, none⟩) 1 d) #[.slice x.A np x.c, .slice x.B x.t.guards.length x.d, .slice x.C x.t.body.length x.e, .string ⟨nm.toArray⟩, .int .i64 x.t.at_] W ∧ Blk W b10 55 #[.string ⟨nm.toArray⟩, .int .i64 (np : Int)]) ⟨HQ.out.keep (below_alloc _ _), by rw [← hb10]; exact Blk.new _ _ _⟩ ?_
          rintro V4 ⟨h4, hx10⟩
          have H4 := Lib.hid h4
          have HX := Lib.hid hx10
          clear HQ hb10 h4 hx10
          have HS : Hid (∀ V', Below V4.heap.size V4 V' → (V'.cell? ⟨cb, 0, none⟩ = some (.map (some mb)) ∧ V'.cell? ⟨b10, 0, none⟩ = some (.string ⟨nm.toArray⟩) ∧ V'.cell? ⟨b10, 1, none⟩ = some (.int .i64 (np : Int)) ∧ (Instr.lookup 72 (.map (some mb)) (.agg #[.string ⟨nm.toArray⟩, .int .i64 (np : Int)]) false).run Try.prog V' = .ok (.bool false) V') ∧ Below V4.heap.size V4 V') := fun V' hb => by
            have hk := (H4.out.keep hb).ck
            have hx := HX.out.keep hb
            exact ⟨⟨hk.obj.cell 0, hx.cell 0, hx.cell 1, hk.ck.nms.look hnl2 HL.out⟩, hb⟩
          by_cases hbe : bl = 0
          case' pos =>
            have d2 : (bl == 0) = true := by simpa using hbe
            have hs0 : s0 = ⟨0, 0⟩ := by rw [HS1.out, if_neg (by simpa using hbe)]
            clear hbe
            go_region_held3 (fun V' => (V'.cell? ⟨cb, 0, none⟩ = some (.map (some mb)) ∧ V'.cell? ⟨b10, 0, none⟩ = some (.string ⟨nm.toArray⟩) ∧ V'.cell? ⟨b10, 1, none⟩ = some (.int .i64 (np : Int)) ∧ (Instr.lookup 72 (.map (some mb)) (.agg #[.string ⟨nm.toArray⟩, .int .i64 (np : Int)]) false).run Try.prog V' = .ok (.bool false) V') ∧ Below V4.heap.size V4 V') (first | exact HS.out _ (Below.refl _ _).drew | exact HS.out _ (Below.refl _ _) | exact HS.out _ (below_step (And.right (by assumption)) hb7) | fail) ((first | (go_at_call 8; refine (HBL.out _).mono ?_; rintro e V7 ⟨rfl, hb7⟩) | fail))
            have hz7 : (V7.cell? ⟨cb, 0, none⟩ = some (.map (some mb)) ∧ V7.cell? ⟨b10, 0, none⟩ = some (.string ⟨nm.toArray⟩) ∧ V7.cell? ⟨b10, 1, none⟩ = some (.int .i64 (np : Int)) ∧ (Instr.lookup 72 (.map (some mb)) (.agg #[.string ⟨nm.toArray⟩, .int .i64 (np : Int)]) false).run Try.prog V7 = .ok (.bool false) V7) ∧ Below V4.heap.size V4 V7 := by assumption
            refine cex_world (fun W => CR V cb mb ⟨0, 0⟩ b6 b7 (.slice (some ⟨b, o, none⟩) 1 d) #[.slice x.A np x.c, .slice x.B x.t.guards.length x.d, .slice x.C x.t.body.length x.e, .string ⟨nm.toArray⟩, .int .i64 x.t.at_] W ∧ Blk W b10 55 #[.string ⟨nm.toArray⟩, .int .i64 (np : Int)]) ⟨H4.out.keep hz7.2, HX.out.keep hz7.2⟩ ?_
            clear hz7 hb7 HS H4 HX
            rintro V5 ⟨h5, hx5⟩
            go_upto_region 15 with (fail)
            refine wp_world (fun W => CR V cb mb s0 b6 b7 (.slice (some ⟨b, o, none⟩) 1 d) #[.slice x.A np x.c, .slice x.B x.t.guards.length x.d, .slice x.C x.t.body.length x.e, .string ⟨nm.toArray⟩, .int .i64 x.t.at_] W ∧ Blk W b10 55 #[.string ⟨nm.toArray⟩, .int .i64 (np : Int)]) (by rw [hs0]; exact ⟨h5, hx5⟩) ?_
            clear h5 hx5 hs0
          case' neg =>
            have d2 : (bl == 0) = false := by simpa using hbe
            have hs0 : s0 = failC 121 x.t.at_ ⟨0, 0⟩ := by rw [HS1.out, if_pos hbe]
            clear hbe
            go_region_held3 (fun V' => (V'.cell? ⟨cb, 0, none⟩ = some (.map (some mb)) ∧ V'.cell? ⟨b10, 0, none⟩ = some (.string ⟨nm.toArray⟩) ∧ V'.cell? ⟨b10, 1, none⟩ = some (.int .i64 (np : Int)) ∧ (Instr.lookup 72 (.map (some mb)) (.agg #[.string ⟨nm.toArray⟩, .int .i64 (np : Int)]) false).run Try.prog V' = .ok (.bool false) V') ∧ Below V4.heap.size V4 V') (first | exact HS.out _ (Below.refl _ _).drew | exact HS.out _ (Below.refl _ _) | exact HS.out _ (below_step (And.right (by assumption)) hb7) | fail) ((first | (go_at_call 8; refine (HBL.out _).mono ?_; rintro e V7 ⟨rfl, hb7⟩) | fail))
            have hz7 : (V7.cell? ⟨cb, 0, none⟩ = some (.map (some mb)) ∧ V7.cell? ⟨b10, 0, none⟩ = some (.string ⟨nm.toArray⟩) ∧ V7.cell? ⟨b10, 1, none⟩ = some (.int .i64 (np : Int)) ∧ (Instr.lookup 72 (.map (some mb)) (.agg #[.string ⟨nm.toArray⟩, .int .i64 (np : Int)]) false).run Try.prog V7 = .ok (.bool false) V7) ∧ Below V4.heap.size V4 V7 := by assumption
            refine cex_world (fun W => CR V cb mb ⟨0, 0⟩ b6 b7 (.slice (some ⟨b, o, none⟩) 1 d) #[.slice x.A np x.c, .slice x.B x.t.guards.length x.d, .slice x.C x.t.body.length x.e, .string ⟨nm.toArray⟩, .int .i64 x.t.at_] W ∧ Blk W b10 55 #[.string ⟨nm.toArray⟩, .int .i64 (np : Int)]) ⟨H4.out.keep hz7.2, HX.out.keep hz7.2⟩ ?_
            clear hz7 hb7 HS H4 HX
            rintro V5 ⟨h5, hx5⟩
            have H5 := Lib.hid h5
            have HX5 := Lib.hid hx5
            have m4 := h5.x7.cell 4
            clear h5 hx5
            go_upto_region 15 with (go_at_call 27; refine (cfails_any H5.out.ck.ck 121 x.t.at_).mono ?_; rintro r V8 ⟨rfl, hk8, hf8⟩)
            refine wp_world (fun W => CR V cb mb s0 b6 b7 (.slice (some ⟨b, o, none⟩) 1 d) #[.slice x.A np x.c, .slice x.B x.t.guards.length x.d, .slice x.C x.t.body.length x.e, .string ⟨nm.toArray⟩, .int .i64 x.t.at_] W ∧ Blk W b10 55 #[.string ⟨nm.toArray⟩, .int .i64 (np : Int)]) (by rw [hs0]; exact ⟨H5.out.act hk8 hf8, hf8.blk HX5.out hl10⟩) ?_
            clear H5 HX5 hk8 hf8 hs0 m4
          all_goals
            rintro V6 ⟨h6, hx6⟩
            have H6 := Lib.hid h6
            have HX6 := Lib.hid hx6
            clear h6 hx6
            refine wp_region_W 5 (fun V => Below V6.heap.size V6 V) (by kernel_rfl) ?_ (fun hS0 => ?_)
            · exact (Below.refl _ _).drew
            (refine wpAnyW_take (i := 0) (v := ?_) rfl (by kernel_rfl) (by kernel_rfl) (by kernel_rfl) (by kernel_rfl) (fun _ _ _ h => h) (Or.inl ⟨by kernel_rfl, ?_⟩) (by assumption) ?_; rotate_left; focus (intro V9 hS9; go_simp; (try (with_reducible rfl)); done))
            try simp only [Act.put, List.getElem_toArray, List.getElem_cons_zero, List.setIfInBounds_toArray, List.set_cons_succ, List.set_cons_zero]
            (refine wpAnyW_take (i := 1) (v := ?_) rfl (by kernel_rfl) (by kernel_rfl) (by kernel_rfl) (by kernel_rfl) (fun _ _ _ h => h) (Or.inl ⟨by kernel_rfl, ?_⟩) (by assumption) ?_; rotate_left; focus (intro V9 hS9; go_simp; (try (with_reducible rfl)); done))
            try simp only [Act.put, List.getElem_toArray, List.getElem_cons_succ, List.getElem_cons_zero, List.setIfInBounds_toArray, List.set_cons_succ, List.set_cons_zero]
            (refine wpAnyW_take (i := 2) (v := ?_) rfl (by kernel_rfl) (by kernel_rfl) (by kernel_rfl) (by kernel_rfl) (fun _ _ _ h => h) (Or.inl ⟨by kernel_rfl, ?_⟩) (by assumption) ?_; rotate_left; focus (intro V9 hS9; go_simp; (try (with_reducible rfl)); done))
            try simp only [Act.put, List.getElem_toArray, List.getElem_cons_succ, List.getElem_cons_zero, List.setIfInBounds_toArray, List.set_cons_succ, List.set_cons_zero]
            (refine wpAnyW_take (i := 3) (v := ?_) rfl (by kernel_rfl) (by kernel_rfl) (by kernel_rfl) (by kernel_rfl) (fun _ _ _ h => h) (Or.inl ⟨by kernel_rfl, ?_⟩) (by assumption) ?_; rotate_left; focus (intro V9 hS9; (have g0 := (H6.out.ck.obj.keep hS9).cell 0); go_simp; (try (with_reducible rfl)); done))
            try simp only [Act.put, List.getElem_toArray, List.getElem_cons_succ, List.getElem_cons_zero, List.setIfInBounds_toArray, List.set_cons_succ, List.set_cons_zero]
            (refine wpAnyW_take (i := 4) (v := ?_) rfl (by kernel_rfl) (by kernel_rfl) (by kernel_rfl) (by kernel_rfl) (fun _ _ _ h => h) (Or.inl ⟨by kernel_rfl, ?_⟩) (by assumption) ?_; rotate_left; focus (intro V9 hS9; (have g0 := (HX6.out.keep hS9).cell 0; have g1 := (HX6.out.keep hS9).cell 1); go_simp; (try (with_reducible rfl)); done))
            try simp only [Act.put, List.getElem_toArray, List.getElem_cons_succ, List.getElem_cons_zero, List.setIfInBounds_toArray, List.set_cons_succ, List.set_cons_zero]
            obtain ⟨w9, hrun, hn9, hf9⟩ := NM.put (W := V6.drew) hnl2 HL.out (H6.out.ck.keep (Below.refl _ _).drew).own
            have HE9 : Hid (CK cb mb (fun s n => s == nm && n == np) s0 w9 ∧ Below V.heap.size V w9) := by
              have h6 := H6.out.keep (Below.refl _ _).drew
              have hsz6 := h6.bel.size
              exact ⟨⟨hf9.blk h6.ck.obj (fun e => h6.ck.ne e.symm), hn9, h6.ck.ne⟩, h6.bel.trans (hf9.below h6.bel.size (fun k hk => by omega))⟩
            clear hn9 hf9
            refine wpAnyW_ready (rs := [5]) (by kernel_rfl) (by simp) ?_
            refine AllReadyW.consE rfl (by kernel_rfl) (fun K hK => ?_) AllReadyW.nil
            go_simp
            refine hK.out _ _ ?_
            clear hK K hrun
            refine wpAnyW_done (by kernel_rfl) ?_ _
            refine cex_world (fun W => CK cb mb (fun s n => s == nm && n == np) s0 W ∧ Below V.heap.size V W) HE9.out ?_
            clear HE9 H6 HX6
            intro V10 h10
            have H10 := Lib.hid h10
            clear h10
            go_wp2
            exact ⟨.inr ⟨rfl, H10.out⟩, by simp [intOf]⟩
    · have hml : (kMain : List UInt8).length ≤ maxLen := by unfold maxLen; simp [kMain]
      have k0 := HQ.out.1.obj.cell 0
      have hlk : (Instr.lookup 72 (.map (some mb)) (.agg #[.string ⟨#[109, 97, 105, 110]⟩, .int .i64 0]) false).run Try.prog wr = .ok (.bool bm) wr := by
        rw [← HBM.out]
        exact HQ.out.1.nms.look (s := kMain) (n := 0) hml (by omega)
      obtain ⟨s1, hs1⟩ : ∃ s1, (if bm = true then s0 else failC 122 0 s0) = s1 := ⟨_, rfl⟩
      rw [hs1] at HCH
      have hb := HQ.out.2
      have HQ1 := Lib.hid HQ.out.1
      have HB := Lib.hid hb
      clear HQ hb hml HBM
      cases bm
      case' true =>
        have hs : s1 = s0 := by simpa using hs1.symm
        go_upto_region 19 with (fail)
        refine wp_world (fun W => CK cb mb (fun s n => s == nm && n == np) s1 W ∧ Below V.heap.size V W) (by rw [hs]; exact ⟨HQ1.out, HB.out⟩) ?_
        clear hs
      case' false =>
        have hs : s1 = failC 122 0 s0 := by simpa using hs1.symm
        have HC9 : Hid (∀ V', CK cb mb (fun s n => s == nm && n == np) s0 V' → Calls Try.prog 27 #[.pointer (some ⟨cb, 0, none⟩), .int .i64 122, .int .i64 0] V' fun r w' => r = .returned (.tuple #[]) ∧ CK cb mb (fun s n => s == nm && n == np) (failC 122 0 s0) w' ∧ CFr cb V' w') := fun V' h' => cfails_any h' 122 0
        go_upto_region 19 with (go_at_call 27; refine (HC9.out _ HQ1.out).mono ?_; rintro r V8 ⟨rfl, hk8, hf8⟩)
        refine wp_world (fun W => CK cb mb (fun s n => s == nm && n == np) s1 W ∧ Below V.heap.size V W) (by rw [hs]; exact ⟨hk8, HB.out.trans (hf8.below HB.out.size (fun k hk => by omega))⟩) ?_
        clear hs hk8 hf8 HC9
      all_goals
        clear hs1 hlk k0 HQ1 HB
        rintro V2 ⟨h2, hb2⟩
        have H2 := Lib.hid h2
        have HB2 := Lib.hid hb2
        clear h2 hb2
        go_upto_region 20 with (fail)
        go_loopw [93] (fun i wr => (i = .int .i64 0 ∧ Hid (CK cb mb (fun s n => s == nm && n == np) s1 wr ∧ Below V.heap.size V wr)) ∨ (i = .int .i64 1 ∧ Hid (CK cb mb (fun s n => s == nm && n == np) R wr ∧ Below V.heap.size V wr))) (fun i _ => 1 - (intOf i).toNat)
        case atStart => exact .inl ⟨rfl, H2.out, HB2.out⟩
        case round =>
          clear H2 HB2
          rcases hrel with ⟨rfl, HQ⟩ | ⟨rfl, HQ⟩
          · have c0 := (HQ.out.2.cell hgl).trans HFN.out
            go_upto_region 22 with (fail)
            obtain ⟨b12, hb12⟩ : ∃ b12, wr.heap.size = b12 := ⟨_, rfl⟩
            rw [hb12]
            refine wp_world (fun W => (CK cb mb (fun s n => s == nm && n == np) s1 W ∧ Below V.heap.size V W) ∧ Blk W b12 65 #[.slice (some ⟨b, o, none⟩) 1 d]) ⟨⟨HQ.out.1.keep (below_alloc _ _), below_step HQ.out.2 (below_alloc _ _)⟩, by rw [← hb12]; exact Blk.new _ _ _⟩ ?_
            clear HQ hb12 c0
            rintro V3 ⟨h3, hx3⟩
            have H3 := Lib.hid h3
            have g0 := hx3.cell 0
            clear h3 hx3
            go_wp2_with (go_at_call 28; refine (HCO.out cb mb s1 _ ⟨H3.out.1, .inl ⟨rfl, rfl⟩, by simp, H3.out.2, hlc⟩).mono ?_; rintro r V4 ⟨rfl, hca4, hf4⟩)
            exact ⟨.inr ⟨rfl, by rw [HCH.out]; exact ⟨hca4.ck, hca4.bel⟩⟩, by simp [intOf]⟩
          · have k1 := HQ.out.1.obj.cell 1
            have k2 := HQ.out.1.obj.cell 2
            have HQ9 : Hid (∀ q, Below V.heap.size V (wr.drewN q)) := fun q => below_drewN HQ.out.2 q
            clear HQ
            go_wp2
            go_quiet (fail)
            go_wp2
            refine bodyPost_ret (v := .tuple #[.int .i64 R.e, .int .i64 R.at_]) (by simp [results, Try.results16, go_sem]) rfl ?_
            exact ⟨rfl, HQ9.out _⟩
end Go.Proofs.Ythhindnjnijglaa
