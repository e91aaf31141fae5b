/- The walk of the statement SealBlocks. -/
import Derived.Test.YthdhinhedgcbcaaSRefG
import Derived.Deep.QuietTactic
import Derived.BigQuiet
namespace Go.Proofs.Ythdhinhedgcbcaa
open Go.RowKit
set_option linter.unusedVariables false

theorem put_rd {size : Int} {kind num : Nat} {A : Option Addr} {n c : Nat} {load pl : List UInt8} {pe : Nat} {W : World} (hk : kind < 256) (hnum : num < 18446744073709551616) (hl : load.length = n) (hr : Rd W A load) (hp : putP size kind num load = (pe, pl)) :
    Calls Try.prog 9 #[.int .i64 size, .agg #[.int .u8 kind, .int .u64 num, .slice A n c]] W fun e w' => ∃ B m cB, e = .returned (.tuple #[.slice B m cB, .int .i64 (pe : Int)]) ∧ pl.length = m ∧ Rd w' B pl ∧ Below W.heap.size W w' := by
  refine (put_any size kind num A n c load W hk hnum hl hr).mono ?_
  rintro e w' ⟨hb, ⟨h1, h2⟩ | ⟨h1, g, h2, h3, h4, h5⟩⟩
  · rw [hp] at h2 h1
    have hpl : pl = [] := by
      unfold putP at hp
      split at hp
      · injection hp with _ hp; exact hp.symm
      · split at hp
        · injection hp with _ hp; exact hp.symm
        · injection hp with hp _; exact absurd hp.symm h1
    exact ⟨none, 0, 0, h2, by rw [hpl]; rfl, .inl hpl, hb⟩
  · rw [hp] at h1 h4 h5
    obtain rfl : pe = 0 := h1
    refine ⟨_, _, _, h2, h5, ?_, hb⟩
    have := h4.rd0 size.toNat
    rwa [List.take_of_length_le (by rw [h5]; exact Nat.le_refl _)] at this

/-- What Get gives, in one row. -/
def getV (l : List UInt8) : Nat × Nat × List UInt8 × Nat := match getP l with
  | none => (0, 0, [], 30)
  | some (k, n, ld) => (k, n, ld, 0)
theorem getEnds_v {w w' : World} {l ld : List UInt8} {k n er : Nat} {e : Ending} (h : GetEnds w l e w') (hv : getV l = (k, n, ld, er)) :
    ∃ B cB, e = .returned (.tuple #[.agg #[.int .u8 (k : Int), .int .u64 (n : Int), .slice B ld.length cB], .int .i64 (er : Int)]) ∧ Rd w' B ld ∧ Below w.heap.size w w' := by
  obtain ⟨hb, ⟨h1, h2⟩ | ⟨k', n', ld', B, cB, h1, h2, h3⟩⟩ := h
  · unfold getV at hv
    rw [h1] at hv
    injection hv with e1 hv
    injection hv with e2 hv
    injection hv with e3 e4
    subst e1 e2 e3 e4
    exact ⟨none, 0, h2, .inl rfl, hb⟩
  · unfold getV at hv
    rw [h1] at hv
    injection hv with e1 hv
    injection hv with e2 hv
    injection hv with e3 e4
    subst e1 e2 e3 e4
    exact ⟨B, cB, h2, h3, hb⟩

/-- append of bytes onto none, at the operation: a copy. -/
theorem wpList_copy1 {W : World} {ops : Array Oper} {rest : List Oper} {o : Oper} {a : Act} {Q : Exit → Act → World → Prop} (hgd : o.guard = none) (s x : Operand)
    (ho : o.op = .call { callee := .builtin .append, args := #[s, x], argTypes := #[23, 23] }) (l : List UInt8) (A : Option Addr) (n c : Nat) (hr : Rd W A l) (hl : l.length = n) (hn : n ≤ 20000)
    (hs : a.eval s = .slice (some ⟨W.heap.size, 0, none⟩) 0 0) (hx : a.eval x = .slice A n c)
    (h : ∀ A' c' w', Rd w' A' l → n ≤ c' → c' ≤ 9223372036854775807 → Below W.heap.size W w' → (∀ b off, A' = some ⟨b, off, none⟩ → W.heap.size ≤ b) → wpList Try.prog ops Q rest (a.put o.dst (.slice A' n c')) w') :
    wpList Try.prog ops Q (o :: rest) a (W.alloc (.cells #[] 5)) := by
  have H0 : (W.alloc (.cells #[] 5)).ownsRow W.heap.size 5 1 (.slice (some ⟨W.heap.size, 0, none⟩) 0 0) 0 [] :=
    ⟨rfl, .inr ⟨W.heap.size, 0, #[], rfl, Nat.le_refl _, heap_alloc_new _ _, Nat.le_refl _, Nat.zero_le _, rfl, rfl⟩⟩
  have H1 : Cs (W.alloc (.cells #[] 5)) A (l.map bv) := (hr.below (below_alloc _ _)).cs
  subst hl
  refine wpList_app bytesT hgd s x ho W.heap.size _ 0 [] hs H0 A l.length c (l.map bv) hx (by simp) H1 (bvs_one l) (by unfold maxLen; omega) (by omega) (by simp) ?_
  intro v' w' h1 h2 h3
  rw [Nat.zero_add, List.nil_append] at h1
  obtain ⟨A', c', rfl, hr', _, hc'⟩ := own_rd h1
  refine h A' c' w' hr' hc' ?_ ((below_alloc W _).grown h2 (by simp) (fun k hk => Nat.le_of_eq (by simpa [Value.ownBlock] using hk))) (fun b off e => ?_)
  · rcases h1.2 with ⟨hv, _⟩ | ⟨g, cap, cur, hv, _, _, _, h10, _⟩
    · have := (Value.slice.inj hv).2.2; omega
    · have := (Value.slice.inj hv).2.2; unfold maxLen at h10; omega
  · subst e
    exact (World.ownsRow.lt h1 b rfl).1

/-- The two boxes. -/
structure BS (w : World) (b1 : Array Value) (W : World) : Prop where
  x : Blk W w.heap.size 25 b1
  bel : Below w.heap.size w W
theorem BS.keep {w W W' : World} {b1 : Array Value} (h : BS w b1 W) (hb : Below W.heap.size W W') : BS w b1 W' := ⟨h.x.keep hb, below_step h.bel hb⟩

set_option maxHeartbeats 400000 in
theorem blocks_out (size : Int) (kind num : Int) (A A2 : Option Addr) (n c n2 c2 : Nat) (w : World) (h : 20000 < n ∨ 20000 < n2) :
    Calls Try.prog 5 #[.int .i64 size, .agg #[.int .u8 kind, .int .u64 num, .slice A n c], .slice A2 n2 c2] w (Yes w) := by
  have h2 : decide (20000 < (n : Int)) = true ∨ (decide (20000 < (n : Int)) = false ∧ decide (20000 < (n2 : Int)) = true) := by
    simp only [decide_eq_true_eq, decide_eq_false_iff_not]; omega
  clear h
  rcases h2 with h1 | ⟨h1, h2⟩
  all_goals
    go_enter Try.func5, Try.ntmps5
    go_wp2_with (go_at_call 8; refine (live_from (below_alloc w _)).mono ?_; rintro e w1 ⟨rfl, hb1⟩)
    go_ret
    exact ⟨rfl, hb1⟩

set_option maxRecDepth 100000 in
set_option maxHeartbeats 8000000 in
theorem blocks_in (size : Int) (kind num : Nat) (A A2 : Option Addr) (n c n2 c2 : Nat) (load bs : List UInt8) (w : World) (h1 : n ≤ 20000) (h2 : n2 ≤ 20000) (hk : kind < 256) (hnum : num < 18446744073709551616) (hl : load.length = n) (hr : Rd w A load)
    (hl2 : bs.length = n2) (hr2 : Rd w A2 bs) :
    Calls Try.prog 5 #[.int .i64 size, .agg #[.int .u8 kind, .int .u64 num, .slice A n c], .slice A2 n2 c2] w (Yes w) := by
  have d1 : decide (20000 < (n : Int)) = false := by simp; omega
  have d2 : decide (20000 < (n2 : Int)) = false := by simp; omega
  have HL := Lib.hid hl
  have HL2 := Lib.hid hl2
  clear hl hl2
  rcases hpp : putP size kind num load with ⟨pe, pl⟩
  rcases hgg : getV bs with ⟨k1, n1, ld, er⟩
  obtain ⟨ls, hls⟩ : ∃ ls, partsP size bs = ls := ⟨_, rfl⟩
  obtain ⟨m, hm⟩ : ∃ m, ls.length = m := ⟨_, rfl⟩
  have HM := Lib.hid hm
  have HPU := Lib.hid (fun W A' c' (h : Rd W A' load) => put_rd (size := size) (c := c') hk hnum HL.out h hpp)
  have HRP := Lib.hid (fun W (h : Rd W A load) => rput_any size kind num A n c load W hk hnum HL.out h)
  rw [hpp] at HRP
  have HGE := Lib.hid (fun W A' c' (hc : n2 ≤ c') (hc2 : c' ≤ 9223372036854775807) (h : Rd W A' bs) => (get_any A' n2 c' bs W HL2.out hc hc2 h).mono fun e w' hh => getEnds_v hh hgg)
  have HRG := Lib.hid (fun W => (rget_any bs W (by rw [HL2.out]; omega)).mono fun e w' hh => getEnds_v hh hgg)
  have HPA := Lib.hid (fun W A' c' (hc : n2 ≤ c') (hc2 : c' ≤ 9223372036854775807) (h : Rd W A' bs) => sparts_any size A' n2 c' bs W HL2.out hc hc2 (by omega) h)
  have HRA := Lib.hid (fun W => rparts_any size bs n2 W HL2.out (by omega))
  rw [hls] at HPA HRA
  obtain ⟨nl, hnl⟩ : ∃ nl, ld.length = nl := ⟨_, rfl⟩
  rw [hnl] at HGE HRG
  have HNL := Lib.hid hnl
  have hm7 : m ≤ 20000 := by
    rw [← hm, ← hls]
    unfold partsP
    split
    · simp
    · rw [chunks_len, HL2.out]
      have := pieces_le (n := n2) (r := (room size).toNat) (by have := room_bd size; omega)
      omega
  clear hpp hgg hls hm hnl
  go_enter Try.func5, Try.ntmps5
  go_upto_region 4 with (fail)
  refine wp_world (fun W => BS w #[.int .u8 (kind : Int), .int .u64 (num : Int), .slice A n c] W ∧ Blk W (w.heap.size + 1) 25 #[.int .u8 (kind : Int), .int .u64 (num : Int), .slice A n c]) ⟨⟨(Blk.new w _ _).alloc _, below_step (below_alloc _ _) (below_alloc _ _)⟩, ?_⟩ ?_
  · have := Blk.new (w.alloc (.cells #[.int .u8 (kind : Int), .int .u64 (num : Int), .slice A n c] 25)) 25 #[.int .u8 (kind : Int), .int .u64 (num : Int), .slice A n c]
    simpa using this
  rintro w1 ⟨hS1, hg1⟩
  have x2 := hS1.x.cell 2
  have hlt1 := hS1.x.lt
  have hr1 := hr.below hS1.bel
  have HG1 := Lib.hid hg1
  clear hg1
  go_upto_region 5 with (at_builtin; refine wpList_copy1 rfl (.tmp 30) (.tmp 32) rfl load A n c hr1 HL.out h1 rfl rfl ?_; intro A1 c1 w2 hrA hcA _ hb2 hoA; have y2 := (HG1.out.keep hb2).cell 2; have z2 := (HG1.out.keep hb2).frozen 2)
  refine wp_world (fun W => BS w #[.int .u8 (kind : Int), .int .u64 (num : Int), .slice A n c] W ∧ Blk W (w.heap.size + 1) 25 #[.int .u8 (kind : Int), .int .u64 (num : Int), .slice A1 n c1] ∧ Rd W A1 load) ⟨?_, (HG1.out.keep hb2).set_ 2 _, ?_⟩ ?_
  · have hS2 := hS1.keep hb2
    exact ⟨hS2.x.far (p := ⟨w.heap.size + 1, 2, none⟩) (by show w.heap.size ≠ w.heap.size + 1; omega) _, hS2.bel.setCell (p := ⟨w.heap.size + 1, 2, none⟩) (by show w.heap.size ≤ w.heap.size + 1; omega) _⟩
  · have hlt := HG1.out.lt
    exact (Fr.setCell (fun k => k = w.heap.size + 1) w2 (p := ⟨w.heap.size + 1, 2, none⟩) (fun _ => rfl) (.slice A1 n c1)).rd hrA (fun b off e _ => by have := hoA b off e; omega)
  clear x2 hlt1 hr1 HG1 hrA hcA hb2 hoA y2 z2 hS1
  rintro w3 ⟨hS3, hg3, hr3⟩
  have u0 := hg3.cell 0
  have u1 := hg3.cell 1
  have u2 := hg3.cell 2
  go_upto_region 6 with (go_at_call 9; refine (HPU.out _ _ _ hr3).mono ?_; rintro e w4 ⟨B, mB, cB, rfl, hmB, hrB, hb4⟩)
  have HMB := Lib.hid hmB
  have hS4 := hS3.keep hb4
  clear u0 u1 u2 hS3 hg3 hr3 hb4 hmB
  have v0 := hS4.x.cell 0
  have v1 := hS4.x.cell 1
  have v2 := hS4.x.cell 2
  go_upto_region 7 with (go_at_call 13; refine (HRP.out _ (hr.below hS4.bel)).mono ?_; rintro e w5 ⟨rfl, hb5⟩)
  have hS5 := hS4.keep hb5
  have hrB5 := hrB.below hb5
  clear v0 v1 v2 hS4 hrB hb5
  have hr5 := hr2.below hS5.bel
  go_upto_region 8 with (first
    | (at_builtin; refine wpList_copy1 rfl (.tmp 48) (.tmp 49) rfl bs A2 n2 c2 hr5 HL2.out h2 rfl rfl ?_; intro A6 c6 w6 hrA hcA hcA2 hb6 _)
    | (go_at_call 11; refine (HGE.out _ _ _ hcA hcA2 hrA).mono ?_; rintro e w7 ⟨B7, c7, rfl, hr7, hb7⟩))
  refine wp_world (fun W => BS w #[.int .u8 (kind : Int), .int .u64 (num : Int), .slice A n c] W ∧ Rd W B pl ∧ Blk W w7.heap.size 25 #[.int .u8 (k1 : Int), .int .u64 (n1 : Int), .slice B7 nl c7] ∧ Rd W B7 ld)
    ⟨((hS5.keep hb6).keep hb7).keep (below_alloc _ _), ((hrB5.below hb6).below hb7).below (below_alloc _ _), Blk.new _ _ _, hr7.below (below_alloc _ _)⟩ ?_
  clear hr5 hrA hcA hcA2 hb6 hr7 hb7 hS5 hrB5
  rintro w8 ⟨hS8, hrB8, hy8, hr8⟩
  have hcv8 := run_str (P := Try.prog) Try.underlying23 Try.underlying5 Try.underlying9 w8 A2 n2 c2 bs HL2.out (hr2.below hS8.bel)
  go_upto_region 9 with (go_at_call 14; refine (HRG.out _).mono ?_; rintro e w9 ⟨B9, c9, rfl, hr9, hb9⟩)
  refine wp_world (fun W => BS w #[.int .u8 (kind : Int), .int .u64 (num : Int), .slice A n c] W ∧ Rd W B pl ∧ Blk W w7.heap.size 25 #[.int .u8 (k1 : Int), .int .u64 (n1 : Int), .slice B7 nl c7] ∧ Rd W B7 ld ∧ Blk W w9.heap.size 25 #[.int .u8 (k1 : Int), .int .u64 (n1 : Int), .slice B9 nl c9] ∧ Rd W B9 ld)
    ⟨(hS8.keep hb9).keep (below_alloc _ _), (hrB8.below hb9).below (below_alloc _ _), (hy8.keep hb9).alloc _, (hr8.below hb9).below (below_alloc _ _), Blk.new _ _ _, hr9.below (below_alloc _ _)⟩ ?_
  clear hcv8 hr9 hb9 hS8 hrB8 hy8 hr8
  rintro w10 ⟨hS10, hrB10, hy10, hr10, hz10, hs10⟩
  have hq10 := hr2.below hS10.bel
  go_upto_region 10 with (first
    | (at_builtin; refine wpList_copy1 rfl (.tmp 61) (.tmp 62) rfl bs A2 n2 c2 hq10 HL2.out h2 rfl rfl ?_; intro A11 c11 w11 hrA hcA hcA2 hb11 _)
    | (go_at_call 15; refine (HPA.out _ _ _ hcA hcA2 hrA).mono ?_; rintro e w12 ⟨Au, mu, cu, rfl, hmu, hru, hb12⟩; obtain rfl : m = mu := HM.out.symm.trans hmu; clear hmu))
  have hb := below_step hb11 hb12
  have hS12 := hS10.keep hb
  have hrB12 := hrB10.below hb
  have hy12 := hy10.keep hb
  have hr12 := hr10.below hb
  have hz12 := hz10.keep hb
  have hs12 := hs10.below hb
  clear hq10 hrA hcA hcA2 hb11 hb12 hb hS10 hrB10 hy10 hr10 hz10 hs10
  have hcv12 := run_str (P := Try.prog) Try.underlying23 Try.underlying5 Try.underlying9 w12 A2 n2 c2 bs HL2.out (hr2.below hS12.bel)
  go_upto_region 11 with (go_at_call 16; refine (HRA.out _).mono ?_; rintro e w13 ⟨Av, mv, cv, rfl, hmv, hrv, hb13⟩; obtain rfl : m = mv := HM.out.symm.trans hmv; clear hmv)
  have hS13 := hS12.keep hb13
  have hru13 := hru.below hb13
  have hrB13 := hrB12.below hb13
  have hy13 := hy12.keep hb13
  have hz13 := hz12.keep hb13
  have hr13 := hr12.below hb13
  have hs13 := hs12.below hb13
  clear hcv12 hb13 hS12 hrB12 hy12 hr12 hz12 hs12 hru
  have HSM := Lib.hid (show sameB k1 k1 n1 n1 ld ld = true by simp [sameB])
  have HSA := Lib.hid (same_any k1 k1 n1 n1 B7 B9 nl c7 nl c9 ld ld w13 HNL.out HNL.out hr13 hs13)
  rw [HSM.out] at HSA
  have hcv13 := run_str (P := Try.prog) Try.underlying23 Try.underlying5 Try.underlying9 w13 B mB cB pl HMB.out hrB13
  have y0 := hy13.cell 0
  have y1 := hy13.cell 1
  have y2 := hy13.cell 2
  have z0 := hz13.cell 0
  have z1 := hz13.cell 1
  have z2 := hz13.cell 2
  have HRM := Lib.hid (fun W => room_any size W)
  have HRR := Lib.hid (fun W => rroom_any size W)
  generalize room size = rm at *
  go_upto_region 13 with (first
    | (go_at_call 10; refine (num_any _ _).mono ?_; rintro e w' ⟨rfl, rfl⟩)
    | (go_at_call 12; refine HSA.out.mono ?_; rintro e w14 ⟨rfl, hb14⟩)
    | (go_at_call 17; refine (HRM.out _).mono ?_; rintro e w' ⟨rfl, rfl⟩)
    | (go_at_call 18; refine (HRR.out _).mono ?_; rintro e w' ⟨rfl, rfl⟩))
  have hb14' := below_step hS13.bel hb14
  have hru14 := hru13.below hb14
  have hrv14 := hrv.below hb14
  clear hS13 hru13 hrv hrB13 hy13 hz13 hr13 hs13 HSA HSM hcv13 y0 y1 y2 z0 z1 z2 hb14
  go_wp2
  go_loopw [18] (fun i wr => ∃ k : Nat, k ≤ m ∧ i = .int .i64 k ∧ Below w14.heap.size w14 wr) (fun i _ => m - (intOf i).toNat)
  case atStart => exact ⟨0, Nat.zero_le _, rfl, Below.refl _ _⟩
  case round =>
    obtain ⟨k, hk9, rfl, hbr⟩ := hrel
    by_cases hlt : k < m
    · have hkl : k < ls.length := by rw [HM.out]; exact hlt
      obtain ⟨b3, o3, B3, c3, rfl, hc3, hr3⟩ := hru14.at_ hkl
      obtain ⟨b4, o4, rfl, hc4⟩ := hrv14.at_ hkl
      unfold tv at hc4
      have cc3 := (hbr.cell (World.block_lt_of_cell? w14 _ hc3)).trans hc3
      have cc4 := (hbr.cell (World.block_lt_of_cell? w14 _ hc4)).trans hc4
      generalize hpk : ls[k] = pk at *
      obtain ⟨lk, hlk⟩ : ∃ lk, pk.length = lk := ⟨_, rfl⟩
      have hst := fun q => run_str (P := Try.prog) Try.underlying23 Try.underlying5 Try.underlying9 (wr.drewN q) B3 lk c3 pk hlk (hr3.below (below_drewN hbr q))
      rw [hlk] at cc3
      have q1 : (0 : Int) ≤ (k : Int) := by omega
      have q2 : (k : Int) < (m : Int) := by omega
      have q3 : decide (k < m) = true := by simp; omega
      clear hpk hlk hc3 hc4 hkl
      go_upto_region 16 with (fail)
      go_quiet (fail)
      go_wp2
      go_roundw
      case rel => exact ⟨k + 1, by omega, by go_num, below_drewN hbr _⟩
      case measure => simp [intOf]; omega
    · obtain rfl : m = k := by omega
      have q3 : decide (m < m) = false := by simp
      clear hlt hk9
      go_wp2_with (go_at_call 8; refine (live_from (below_step hb14' hbr)).mono ?_; rintro e w15 ⟨rfl, hb15⟩)
      go_ret
      exact ⟨rfl, hb15⟩

/-- SealBlocks at every input. -/
theorem blocks_any (size : Int) (kind num : Nat) (A A2 : Option Addr) (n c n2 c2 : Nat) (load bs : List UInt8) (w : World) (hk : kind < 256) (hnum : num < 18446744073709551616) (hl : load.length = n) (hr : Rd w A load)
    (hl2 : bs.length = n2) (hr2 : Rd w A2 bs) :
    Calls Try.prog 5 #[.int .i64 size, .agg #[.int .u8 kind, .int .u64 num, .slice A n c], .slice A2 n2 c2] w (Yes w) := by
  by_cases h : 20000 < n ∨ 20000 < n2
  · exact blocks_out size kind num A A2 n c n2 c2 w h
  · exact blocks_in size kind num A A2 n c n2 c2 load bs w (by omega) (by omega) hk hnum hl hr hl2 hr2
end Go.Proofs.Ythdhinhedgcbcaa
