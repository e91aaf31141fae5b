/- The walk of the statement SpoolReads. -/
import Derived.Test.YtdmehbejfigaiaaReadsL
import Derived.Deep.RegionHeld3
import Derived.Deep.QuietTactic
import Derived.BigQuiet
import Derived.IntWalk
namespace Go.Proofs.Ytdmehbejfigaiaa
open Go.RowKit
set_option linter.unusedVariables false

set_option maxRecDepth 100000 in
set_option maxHeartbeats 8000000 in
theorem reads_in (A A1 : Option Addr) (n c n1 c1 : Nat) (l : List UInt8) (ps : List (Int × Int)) (w : World)
    (hl : l.length = n) (hr : Rd w A l) (hn : ¬ 20000 < n) (h1 : ps.length = n1) (hr1 : RdP w A1 ps) (hn1 : ¬ 60 < n1) (hb1 : ∀ x ∈ ps, x.2 ≤ 9223372036854775807) :
    Calls Try.prog 8 #[.slice A n c, .slice A1 n1 c1] w (Yes w) := by
  have HL := Lib.hid hl
  have HL1 := Lib.hid h1
  have HB1 := Lib.hid hb1
  have H0 : Hid ((w.alloc (.cells #[] 5)).ownsRow w.heap.size 5 1 (.slice (some ⟨w.heap.size, 0, none⟩) 0 0) 0 [] ∧ Cs (w.alloc (.cells #[] 5)) A (l.map bv)) :=
    ⟨⟨rfl, .inr ⟨w.heap.size, 0, #[], rfl, Nat.le_refl _, heap_alloc_new _ _, Nat.le_refl _, Nat.zero_le _, rfl, rfl⟩⟩, (hr.below (below_alloc _ _)).cs⟩
  have hone := bvs_one l
  have HLM := Lib.hid (show (l.map bv).length = n * 1 by rw [List.length_map, hl]; omega)
  have hmx : 0 + n ≤ maxLen := by simp only [maxLen]; omega
  have hbx : (0 + n) * 1 ≤ 140737488355328 := by omega
  have hn47 : n ≤ 140737488351232 := by omega
  have hbs : w.heap.size ≤ (w.alloc (.cells #[] 5)).heap.size := by simp
  clear hl h1 hb1
  go_enter Try.func8, Try.ntmps8
  go_upto_region 4 with (at_builtin; refine wpList_app bytesT rfl (.tmp 22) (.tmp 23) rfl w.heap.size (.slice (some ⟨w.heap.size, 0, none⟩) 0 0) 0 [] rfl H0.out.1 A n c (l.map bv) rfl HLM.out H0.out.2 hone hmx hbx hbs ?_; intro v' w2 hown hgr _; simp only [Nat.zero_add, List.nil_append] at hown; obtain ⟨Q, cQ, rfl, hrQ, _, hcQ⟩ := own_rd hown)
  have hb2 : Below w.heap.size w w2 := (below_alloc w _).grown hgr (by simp) (fun k hk => Nat.le_of_eq (by simpa [Value.ownBlock] using hk))
  have HOP := Lib.hid (open_any Q l n cQ w2 HL.out hn47 hrQ)
  clear hone HLM hmx hbx hbs H0 hgr
  go_upto_region 5 with (go_at_call 12; refine HOP.out.mono ?_; rintro e w3 ⟨pt, A3, c3, rfl, hT3, hA3, hpt3⟩)
  have hb3 := below_step hb2 hT3.bel
  have HNW := Lib.hid (rnew_any A l n c w3 HL.out hn47 (hr.below hb3))
  clear HOP
  go_upto_region 8 with (go_at_call 28; refine HNW.out.mono ?_; rintro e w4 ⟨pr, B4, c4, rfl, hR4, hb4, hpr4, hB4, hpr5⟩)
  have hI0 : Two w pt pr A3 c3 B4 c4 ⟨l, 0, 0, 0⟩ ⟨l, 0, 0, 0⟩ w4 :=
    ⟨hT3.tape.keep hb4, hR4, below_step hb3 hb4, Nat.le_trans hb2.size hT3.own, Nat.le_trans hb3.size hpr4, by omega, fun b off e => by have := hA3 b off e; omega, fun b off e => by have := hB4 b off e; omega⟩
  have hR0 : RowAny w pt pr A3 B4 Q n w4 := by
    rcases Nat.eq_zero_or_pos n with h0 | h0
    · exact .inl h0
    · obtain ⟨g, cap, hv, _, _⟩ := hown.form (by omega)
      obtain ⟨rfl, _, rfl⟩ := Value.slice.inj hv
      have hlt := hown.lt g rfl
      have hsz3 := hT3.bel.size
      have hown3 := ownsRow_keep (ownsRow_keep hown hT3.bel) hb4
      have hpo := hT3.own
      rcases hown3.2 with ⟨hv2, _⟩ | ⟨g2, cap2, cur, hv2, h6, h7, _⟩
      · cases hv2
      · obtain ⟨e1, _, _⟩ := Value.slice.inj hv2
        injection e1 with e1
        injection e1 with e1
        subst e1
        refine .inr ⟨g, cur, rfl, ⟨hlt.1, by omega, by omega, fun b off e => by have := hA3 b off e; omega, fun b off e => by have := hB4 b off e; omega⟩, h7, fun j hj => ?_⟩
        have hcj := hown3.cellAt j (by omega)
        rw [List.getElem?_map, List.getElem?_eq_getElem (by rw [HL.out]; exact hj)] at hcj
        rw [Blk.cell (show Blk w4 g 5 cur from h7)] at hcj
        exact ⟨_, hcj⟩
  clear hown hb2 hb3 hT3 hA3 hpt3 hR4 hb4 hpr4 hB4 hpr5 hrQ hcQ HNW
  go_wp2
  go_loopw [8] (fun i wr => ∃ k : Nat, k ≤ n ∧ i = .int .i64 k ∧ Two w pt pr A3 c3 B4 c4 ⟨l, 0, 0, 0⟩ ⟨l, 0, 0, 0⟩ wr ∧ RowAny w pt pr A3 B4 Q n wr) (fun i _ => n - (intOf i).toNat)
  case atStart => exact ⟨0, Nat.zero_le _, rfl, hI0, hR0⟩
  case round =>
    obtain ⟨k, hk, rfl, hI, hR⟩ := hrel
    clear hI0 hR0
    by_cases hlt : k < n
    · rcases hR with h0 | ⟨g, cs, rfl, hof, hB, hcs⟩
      · omega
      · obtain ⟨x, hx⟩ := hcs k hlt
        have hcl : wr.cell? ⟨g, k, none⟩ = some (.int .u8 (x.toNat : Int)) := by rw [hB.cell]; exact hx
        have hfz := hB.frozen k
        have hI2 := hI.setOff hof k (.int .u8 (bits BinOp.xor IntKind.u8 (x.toNat : Int) 85))
        have HR2 := Lib.hid (RowAny.put hof hB hcs hlt (xor85 x))
        have hd1 : decide (k < n) = true := by simp; omega
        have q1 : (0 : Int) ≤ (k : Int) := by omega
        have q2 : (k : Int) < (n : Int) := by omega
        have hx8 := u8_lt x
        clear hx hB hcs hI
        generalize x.toNat = xn at *
        go_wp2
        go_roundw
        case rel => exact ⟨k + 1, by omega, by go_num, hI2, HR2.out⟩
        case measure => simp [intOf]; omega
    · obtain rfl : n = k := by omega
      have hd1 : decide (n < n) = false := by simp
      clear hR hlt hk
      go_wp2
      go_loopw [9] (fun i wr => ∃ (k : Nat) (t : TS), k ≤ n1 ∧ i = .int .i64 k ∧ t.bytes.length = n ∧ Two w pt pr A3 c3 B4 c4 t t wr) (fun i _ => n1 - (intOf i).toNat)
      case atStart => exact ⟨0, _, Nat.zero_le _, rfl, HL.out, hI⟩
      case round =>
        clear hI
        obtain ⟨k, t, hk, rfl, htl, hI⟩ := hrel
        have HTL := Lib.hid htl
        clear htl
        by_cases hlt : k < n1
        · have hkl : k < ps.length := by rw [HL1.out]; exact hlt
          obtain ⟨b, off, rfl, hc0, hc1⟩ := hr1.at_ hkl
          have hmo := HB1.out _ (List.getElem_mem hkl)
          generalize ps[k].1 = kd at *
          generalize ps[k].2 = mo at *
          have HC1 := Lib.hid (fun W (hb : Below w.heap.size w W) => (hb.cell (World.block_lt_of_cell? w _ hc1)).trans hc1)
          have cc0 := (hI.bel.cell (World.block_lt_of_cell? w _ hc0)).trans hc0
          have hd1 : decide ((k : Int) < n1) = true := by simp; omega
          have q1 : (0 : Int) ≤ (k : Int) := by omega
          have q2 : (k : Int) < (n1 : Int) := by omega
          clear hc0 hc1 hkl
          have hways : kd = 0 ∨ kd = 1 ∨ kd = 2 ∨ kd = 3 ∨ ((kd == 0) = false ∧ (kd == 1) = false ∧ (kd == 2) = false ∧ (kd == 3) = false) := by
            simp only [beq_eq_false_iff_ne]; omega
          rcases hways with rfl | rfl | rfl | rfl | ⟨z0, z1, z2, z3⟩
          · have hb2 : (t.number false).2.bytes.length = n := by rw [number_stops_le]; exact HTL.out
            have HTL2 := Lib.hid hb2
            clear hb2
            go_upto_region 25 with (first
              | (go_at_call 13; refine (u_num hI).mono ?_; rintro e w5 ⟨rfl, hI5⟩)
              | (go_at_call 29; refine (r_num hI5).mono ?_; rintro e w6 ⟨rfl, hI6⟩))
            clear hI5 HTL hI cc0
            generalize (t.number false).2 = t2 at *
            have HF := Lib.hid (fault_any hI6.tape)
            go_upto_region 26 with (go_at_call 14; refine HF.out.mono ?_; rintro e w7 ⟨rfl, q7, rfl⟩)
            have hI7 := hI6.drewN q7
            clear HF
            refine wp_world (fun W => Two w pt pr A3 c3 B4 c4 t2 t2 W) hI7 ?_
            clear hI6 hI7
            intro w8 hI8
            obtain ⟨c0, c1, c2, c3⟩ := hI8.read.cells
            have hps := hI8.read.pos
            rw [HTL2.out] at hps
            have hrw : ∀ q, Calls Try.prog 34 #[.pointer (some ⟨pt, 0, none⟩)] (w8.drewN q) fun r w' => r = .returned (.int .i64 ((n : Int) - (t2.pos : Int))) ∧ ∃ m, w' = (w8.drewN q).drewN m := fun q => by
              have e9 : ((n : Int) - (t2.pos : Int)) = ((t2.bytes.length - t2.pos : Nat) : Int) := by rw [HTL2.out]; omega
              rw [e9]
              exact rest_any (hI8.drewN q).tape
            have HRest := Lib.hid hrw
            have HPos := Lib.hid (fun q => pos_any (hI8.drewN q).tape)
            have HEnd := Lib.hid (fun q => tend_any (hI8.drewN q).tape)
            have HDone := Lib.hid (fun q => rdone_any (hI8.drewN q).read)
            have hwr : IntKind.i64.wrap ((n : Int) - (t2.pos : Int)) = (n : Int) - (t2.pos : Int) := IntWalk.i64_in _ (by omega)
            clear hrw c0
            generalize t2.pos = ps at *
            generalize t2.fault = ft at *
            generalize t2.spot = sp at *
            generalize t2.end_ = en at *
            go_quiet ((first
              | (go_at_call 16; exact Calls.quiet_of_same ((numE_any _ _).mono fun e w' ⟨he, hw⟩ => ⟨he, hw.symm⟩))
              | (go_at_call 17; exact Calls.quiet_of_same ((HPos.out _).mono fun e w' ⟨he, hw⟩ => ⟨he, hw.symm⟩))
              | (go_at_call 34; exact Calls.quiet_of (HRest.out _))
              | (go_at_call 27; exact Calls.quiet_of (HEnd.out _))
              | (go_at_call 35; exact Calls.quiet_of (HDone.out _))))
            clear HRest HPos HEnd HDone hwr c1 c2 c3 hps
            go_wp2
            go_roundw
            case rel => exact ⟨k + 1, t2, by omega, by go_num, HTL2.out, hI8.drewN _⟩
            case measure => simp [intOf]; omega
          · have hb2 : t.int.2.bytes.length = n := by rw [int_bytes]; exact HTL.out
            have HTL2 := Lib.hid hb2
            clear hb2
            go_upto_region 25 with (first
              | (go_at_call 15; refine (u_int hI).mono ?_; rintro e w5 ⟨rfl, hI5⟩)
              | (go_at_call 30; refine (r_int hI5).mono ?_; rintro e w6 ⟨rfl, hI6⟩))
            clear hI5 HTL hI cc0
            generalize t.int.2 = t2 at *
            have HF := Lib.hid (fault_any hI6.tape)
            go_upto_region 26 with (go_at_call 14; refine HF.out.mono ?_; rintro e w7 ⟨rfl, q7, rfl⟩)
            have hI7 := hI6.drewN q7
            clear HF
            refine wp_world (fun W => Two w pt pr A3 c3 B4 c4 t2 t2 W) hI7 ?_
            clear hI6 hI7
            intro w8 hI8
            obtain ⟨c0, c1, c2, c3⟩ := hI8.read.cells
            have hps := hI8.read.pos
            rw [HTL2.out] at hps
            have hrw : ∀ q, Calls Try.prog 34 #[.pointer (some ⟨pt, 0, none⟩)] (w8.drewN q) fun r w' => r = .returned (.int .i64 ((n : Int) - (t2.pos : Int))) ∧ ∃ m, w' = (w8.drewN q).drewN m := fun q => by
              have e9 : ((n : Int) - (t2.pos : Int)) = ((t2.bytes.length - t2.pos : Nat) : Int) := by rw [HTL2.out]; omega
              rw [e9]
              exact rest_any (hI8.drewN q).tape
            have HRest := Lib.hid hrw
            have HPos := Lib.hid (fun q => pos_any (hI8.drewN q).tape)
            have HEnd := Lib.hid (fun q => tend_any (hI8.drewN q).tape)
            have HDone := Lib.hid (fun q => rdone_any (hI8.drewN q).read)
            have hwr : IntKind.i64.wrap ((n : Int) - (t2.pos : Int)) = (n : Int) - (t2.pos : Int) := IntWalk.i64_in _ (by omega)
            clear hrw c0
            generalize t2.pos = ps at *
            generalize t2.fault = ft at *
            generalize t2.spot = sp at *
            generalize t2.end_ = en at *
            go_quiet ((first
              | (go_at_call 16; exact Calls.quiet_of_same ((numE_any _ _).mono fun e w' ⟨he, hw⟩ => ⟨he, hw.symm⟩))
              | (go_at_call 17; exact Calls.quiet_of_same ((HPos.out _).mono fun e w' ⟨he, hw⟩ => ⟨he, hw.symm⟩))
              | (go_at_call 34; exact Calls.quiet_of (HRest.out _))
              | (go_at_call 27; exact Calls.quiet_of (HEnd.out _))
              | (go_at_call 35; exact Calls.quiet_of (HDone.out _))))
            clear HRest HPos HEnd HDone hwr c1 c2 c3 hps
            go_wp2
            go_roundw
            case rel => exact ⟨k + 1, t2, by omega, by go_num, HTL2.out, hI8.drewN _⟩
            case measure => simp [intOf]; omega
          · have hb2 : (t.str mo).2.bytes.length = n := by rw [str_bytes]; exact HTL.out
            have HTL2 := Lib.hid hb2
            clear hb2
            go_upto_region 22 with (fail)
            have cc1 := HC1.out wr.drew hI.bel.drew
            have HU := Lib.hid (fun W u (h : Two w pt pr A3 c3 B4 c4 t u W) => u_str h mo hmo)
            have HV := Lib.hid (fun W u (h : Two w pt pr A3 c3 B4 c4 u t W) => r_str h mo hmo)
            have hId : Two w pt pr A3 c3 B4 c4 t t wr.drew := hI.keep (Below.refl _ _).drew
            clear hI cc0
            go_region_held3 (fun W => W.cell? ⟨b, off + k * 2 + 1, none⟩ = some (.int .i64 mo)) (first | exact cc1 | exact HC1.out _ hI5.bel | exact HC1.out _ hI6.bel) ((first
              | (go_at_call 26
                 first
                 | ((with_reducible refine (HU.out _ _ hId).mono ?_); rintro e w5 ⟨rfl, hI5⟩)
                 | ((with_reducible refine (HU.out _ _ hI5).mono ?_); rintro e w6 ⟨rfl, hI6⟩))
              | (go_at_call 31
                 first
                 | ((with_reducible refine (HV.out _ _ hId).mono ?_); rintro e w5 ⟨rfl, hI5⟩)
                 | ((with_reducible refine (HV.out _ _ hI5).mono ?_); rintro e w6 ⟨rfl, hI6⟩))))
            all_goals
              clear HU HV hI5 hId HTL cc1
              generalize (t.str mo).2 = t2 at *
              have HF := Lib.hid (fault_any hI6.tape)
              go_upto_region 26 with (go_at_call 14; refine HF.out.mono ?_; rintro e w7 ⟨rfl, q7, rfl⟩)
              have hI7 := hI6.drewN q7
              clear HF
              refine wp_world (fun W => Two w pt pr A3 c3 B4 c4 t2 t2 W) hI7 ?_
              clear hI6 hI7
              intro w8 hI8
              obtain ⟨c0, c1, c2, c3⟩ := hI8.read.cells
              have hps := hI8.read.pos
              rw [HTL2.out] at hps
              have hrw : ∀ q, Calls Try.prog 34 #[.pointer (some ⟨pt, 0, none⟩)] (w8.drewN q) fun r w' => r = .returned (.int .i64 ((n : Int) - (t2.pos : Int))) ∧ ∃ m, w' = (w8.drewN q).drewN m := fun q => by
                have e9 : ((n : Int) - (t2.pos : Int)) = ((t2.bytes.length - t2.pos : Nat) : Int) := by rw [HTL2.out]; omega
                rw [e9]
                exact rest_any (hI8.drewN q).tape
              have HRest := Lib.hid hrw
              have HPos := Lib.hid (fun q => pos_any (hI8.drewN q).tape)
              have HEnd := Lib.hid (fun q => tend_any (hI8.drewN q).tape)
              have HDone := Lib.hid (fun q => rdone_any (hI8.drewN q).read)
              have hwr : IntKind.i64.wrap ((n : Int) - (t2.pos : Int)) = (n : Int) - (t2.pos : Int) := IntWalk.i64_in _ (by omega)
              clear hrw c0
              generalize t2.pos = ps at *
              generalize t2.fault = ft at *
              generalize t2.spot = sp at *
              generalize t2.end_ = en at *
              go_quiet ((first
                | (go_at_call 16; exact Calls.quiet_of_same ((numE_any _ _).mono fun e w' ⟨he, hw⟩ => ⟨he, hw.symm⟩))
                | (go_at_call 17; exact Calls.quiet_of_same ((HPos.out _).mono fun e w' ⟨he, hw⟩ => ⟨he, hw.symm⟩))
                | (go_at_call 34; exact Calls.quiet_of (HRest.out _))
                | (go_at_call 27; exact Calls.quiet_of (HEnd.out _))
                | (go_at_call 35; exact Calls.quiet_of (HDone.out _))))
              clear HRest HPos HEnd HDone hwr c1 c2 c3 hps
              go_wp2
              go_roundw
              case rel => exact ⟨k + 1, t2, by omega, by go_num, HTL2.out, hI8.drewN _⟩
              case measure => simp [intOf]; omega
          · have hb2 : t.byte.2.bytes.length = n := by rw [byte_bytes]; exact HTL.out
            have HTL2 := Lib.hid hb2
            clear hb2
            go_upto_region 25 with (first
              | (go_at_call 32; refine (u_byte hI).mono ?_; rintro e w5 ⟨rfl, hI5⟩)
              | (go_at_call 33; refine (r_byte hI5).mono ?_; rintro e w6 ⟨rfl, hI6⟩))
            clear hI5 HTL hI cc0
            generalize t.byte.2 = t2 at *
            have HF := Lib.hid (fault_any hI6.tape)
            go_upto_region 26 with (go_at_call 14; refine HF.out.mono ?_; rintro e w7 ⟨rfl, q7, rfl⟩)
            have hI7 := hI6.drewN q7
            clear HF
            refine wp_world (fun W => Two w pt pr A3 c3 B4 c4 t2 t2 W) hI7 ?_
            clear hI6 hI7
            intro w8 hI8
            obtain ⟨c0, c1, c2, c3⟩ := hI8.read.cells
            have hps := hI8.read.pos
            rw [HTL2.out] at hps
            have hrw : ∀ q, Calls Try.prog 34 #[.pointer (some ⟨pt, 0, none⟩)] (w8.drewN q) fun r w' => r = .returned (.int .i64 ((n : Int) - (t2.pos : Int))) ∧ ∃ m, w' = (w8.drewN q).drewN m := fun q => by
              have e9 : ((n : Int) - (t2.pos : Int)) = ((t2.bytes.length - t2.pos : Nat) : Int) := by rw [HTL2.out]; omega
              rw [e9]
              exact rest_any (hI8.drewN q).tape
            have HRest := Lib.hid hrw
            have HPos := Lib.hid (fun q => pos_any (hI8.drewN q).tape)
            have HEnd := Lib.hid (fun q => tend_any (hI8.drewN q).tape)
            have HDone := Lib.hid (fun q => rdone_any (hI8.drewN q).read)
            have hwr : IntKind.i64.wrap ((n : Int) - (t2.pos : Int)) = (n : Int) - (t2.pos : Int) := IntWalk.i64_in _ (by omega)
            clear hrw c0
            generalize t2.pos = ps at *
            generalize t2.fault = ft at *
            generalize t2.spot = sp at *
            generalize t2.end_ = en at *
            go_quiet ((first
              | (go_at_call 16; exact Calls.quiet_of_same ((numE_any _ _).mono fun e w' ⟨he, hw⟩ => ⟨he, hw.symm⟩))
              | (go_at_call 17; exact Calls.quiet_of_same ((HPos.out _).mono fun e w' ⟨he, hw⟩ => ⟨he, hw.symm⟩))
              | (go_at_call 34; exact Calls.quiet_of (HRest.out _))
              | (go_at_call 27; exact Calls.quiet_of (HEnd.out _))
              | (go_at_call 35; exact Calls.quiet_of (HDone.out _))))
            clear HRest HPos HEnd HDone hwr c1 c2 c3 hps
            go_wp2
            go_roundw
            case rel => exact ⟨k + 1, t2, by omega, by go_num, HTL2.out, hI8.drewN _⟩
            case measure => simp [intOf]; omega
          · go_upto_region 25 with (fail)
            obtain ⟨t2, ht2⟩ : ∃ t2, t2 = t := ⟨_, rfl⟩
            have HTL2 : Hid (t2.bytes.length = n) := by rw [ht2]; exact HTL.out
            have hI6 : Two w pt pr A3 c3 B4 c4 t2 t2 wr := by rw [ht2]; exact hI
            clear hI HTL ht2 cc0
            have HF := Lib.hid (fault_any hI6.tape)
            go_upto_region 26 with (go_at_call 14; refine HF.out.mono ?_; rintro e w7 ⟨rfl, q7, rfl⟩)
            have hI7 := hI6.drewN q7
            clear HF
            refine wp_world (fun W => Two w pt pr A3 c3 B4 c4 t2 t2 W) hI7 ?_
            clear hI6 hI7
            intro w8 hI8
            obtain ⟨c0, c1, c2, c3⟩ := hI8.read.cells
            have hps := hI8.read.pos
            rw [HTL2.out] at hps
            have hrw : ∀ q, Calls Try.prog 34 #[.pointer (some ⟨pt, 0, none⟩)] (w8.drewN q) fun r w' => r = .returned (.int .i64 ((n : Int) - (t2.pos : Int))) ∧ ∃ m, w' = (w8.drewN q).drewN m := fun q => by
              have e9 : ((n : Int) - (t2.pos : Int)) = ((t2.bytes.length - t2.pos : Nat) : Int) := by rw [HTL2.out]; omega
              rw [e9]
              exact rest_any (hI8.drewN q).tape
            have HRest := Lib.hid hrw
            have HPos := Lib.hid (fun q => pos_any (hI8.drewN q).tape)
            have HEnd := Lib.hid (fun q => tend_any (hI8.drewN q).tape)
            have HDone := Lib.hid (fun q => rdone_any (hI8.drewN q).read)
            have hwr : IntKind.i64.wrap ((n : Int) - (t2.pos : Int)) = (n : Int) - (t2.pos : Int) := IntWalk.i64_in _ (by omega)
            clear hrw c0
            generalize t2.pos = ps at *
            generalize t2.fault = ft at *
            generalize t2.spot = sp at *
            generalize t2.end_ = en at *
            go_quiet ((first
              | (go_at_call 16; exact Calls.quiet_of_same ((numE_any _ _).mono fun e w' ⟨he, hw⟩ => ⟨he, hw.symm⟩))
              | (go_at_call 17; exact Calls.quiet_of_same ((HPos.out _).mono fun e w' ⟨he, hw⟩ => ⟨he, hw.symm⟩))
              | (go_at_call 34; exact Calls.quiet_of (HRest.out _))
              | (go_at_call 27; exact Calls.quiet_of (HEnd.out _))
              | (go_at_call 35; exact Calls.quiet_of (HDone.out _))))
            clear HRest HPos HEnd HDone hwr c1 c2 c3 hps
            go_wp2
            go_roundw
            case rel => exact ⟨k + 1, t2, by omega, by go_num, HTL2.out, hI8.drewN _⟩
            case measure => simp [intOf]; omega
        · obtain rfl : n1 = k := by omega
          have hd1 : decide (n1 < n1) = false := by simp
          clear hlt hk
          go_wp2_with (go_at_call 10; refine (live_from hI.bel).mono ?_; rintro e w11 ⟨rfl, hb11⟩)
          go_ret
          exact ⟨rfl, hb11⟩

set_option maxHeartbeats 1000000 in
theorem reads_any (A A1 : Option Addr) (n c n1 c1 : Nat) (l : List UInt8) (ps : List (Int × Int)) (w : World)
    (hl : l.length = n) (hr : Rd w A l) (hn : n ≤ 9223372036854775807) (h1 : ps.length = n1) (hr1 : RdP w A1 ps) (hn1 : n1 ≤ 9223372036854775807) (hb1 : ∀ x ∈ ps, x.2 ≤ 9223372036854775807) :
    Calls Try.prog 8 #[.slice A n c, .slice A1 n1 c1] w (Yes w) := by
  by_cases k0 : 20000 < n
  · clear hl h1 hb1
    go_enter Try.func8, Try.ntmps8
    go_wp2_with (go_at_call 10; refine (live_any w).mono ?_; rintro e w11 ⟨rfl, hb11⟩)
    go_ret
    exact ⟨rfl, hb11⟩
  by_cases k1 : 60 < n1
  · clear hl h1 hb1
    go_enter Try.func8, Try.ntmps8
    go_wp2_with (go_at_call 10; refine (live_any w).mono ?_; rintro e w11 ⟨rfl, hb11⟩)
    go_ret
    exact ⟨rfl, hb11⟩
  exact reads_in A A1 n c n1 c1 l ps w hl hr k0 h1 hr1 k1 hb1
end Go.Proofs.Ytdmehbejfigaiaa
