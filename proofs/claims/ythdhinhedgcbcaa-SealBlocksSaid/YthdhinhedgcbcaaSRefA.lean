/- The walks of the reference's Room and Put of layer 3. -/
import Derived.Test.YthdhinhedgcbcaaSealY
import Derived.Test.YthdhinhedgcbcaaRefC
import Derived.Test.YthdhinhedgcbcaaAppz
import Derived.Deep.QuietTactic
import Derived.BigQuiet
namespace Go.Proofs.Ythdhinhedgcbcaa
open Go.RowKit
set_option linter.unusedVariables false

set_option maxHeartbeats 400000 in
theorem rroom_any (n : Int) (w : World) : Calls Try.prog 18 #[.int .i64 n] w fun e w' => e = .returned (.int .i64 (room n)) ∧ w = w' := by
  unfold room
  by_cases h1 : n < 64
  · rw [if_pos h1]
    have hd : decide (n < 64) = true := by simpa using h1
    go_enter Try.func18, Try.ntmps18
    go_wp2
    go_ret
    exact ⟨rfl, rfl⟩
  · rw [if_neg h1]
    have hd : decide (n < 64) = false := by simpa using h1
    by_cases h2 : 4096 < n
    · rw [if_pos h2]
      have hd2 : decide (4096 < n) = true := by simpa using h2
      go_enter Try.func18, Try.ntmps18
      go_wp2
      go_ret
      exact ⟨rfl, rfl⟩
    · rw [if_neg h2]
      have hd2 : decide (4096 < n) = false := by simpa using h2
      have h3 : 64 ≤ n := by omega
      have h4 : n ≤ 4096 := by omega
      go_enter Try.func18, Try.ntmps18
      go_wp2
      go_ret
      exact ⟨rfl, rfl⟩

theorem cs_one_byte (w : World) (x : Int) (c : UInt8) (h : Value.int .u8 x = bv c) : Cs (w.alloc (.cells #[.int .u8 x] 5)) (some ⟨w.heap.size, 0, none⟩) ([c].map bv) := by
  rw [h]
  exact .inr ⟨_, rfl, cell_one_new w (bv c) 5⟩
theorem cs_bytes (w : World) (l : List UInt8) : Cs (w.alloc (.cells (l.map bv).toArray 5)) (some ⟨w.heap.size, 0, none⟩) (l.map bv) := by
  refine .inr ⟨_, rfl, fun j u hu => ?_⟩
  rw [Addr.add_lit, Nat.zero_add, (Blk.new w 5 (l.map bv).toArray).cell]
  simpa using hu
theorem shr_byte (n k : Nat) : Value.int .u8 ((n : Int) / 2 ^ (8 * k) % 256) = bv (UInt8.ofNat (n / 256 ^ k)) := by
  have e : ((2 : Int) ^ (8 * k)) = ((256 ^ k : Nat) : Int) := by
    have h1 : (256 : Nat) ^ k = 2 ^ (8 * k) := by rw [Nat.pow_mul]
    rw [h1, Int.natCast_pow]
    rfl
  rw [e, ← Int.natCast_ediv, bv_ofNat]
theorem be_get : ∀ (k n i : Nat) (h : i < (be k n).length), (be k n)[i] = UInt8.ofNat (n / 256 ^ (k - 1 - i))
  | 0, n, i, h => by simp [be] at h
  | k + 1, n, i, h => by
    rcases i with _ | i
    · simp [be]
    · simp only [be, List.getElem_cons_succ]
      rw [be_get k n i (by simpa [be] using h)]
      congr 3
      omega
theorem be_take_succ (k n i : Nat) (h : i < k) : (be k n).take (i + 1) = (be k n).take i ++ [UInt8.ofNat (n / 256 ^ (k - 1 - i))] := by
  rw [List.take_succ_eq_append_getElem (by rw [be_length]; exact h), be_get]

/-- A box, and bytes of the call's own. -/
structure PS (w : World) (box : Array Value) (v : Value) (n : Nat) (l : List UInt8) (W : World) : Prop where
  own : W.ownsRow (w.heap.size + 1) 5 1 v n (l.map bv)
  box : Blk W w.heap.size 25 box
  bel : Below w.heap.size w W
section
variable {w W W' : World} {box : Array Value} {v v' : Value} {n n' : Nat} {l l' : List UInt8}
theorem PS.sz (h : PS w box v n l W) : w.heap.size + 1 ≤ W.heap.size := h.box.lt
theorem PS.grow (h : PS w box v n l W) (hg : W.grownBy W' v.ownBlock) (ho : W'.ownsRow (w.heap.size + 1) 5 1 v' n' (l'.map bv)) : PS w box v' n' l' W' := by
  have hge : ∀ k, v.ownBlock = some k → w.heap.size + 1 ≤ k := fun k hk => (World.ownsRow.lt h.own k hk).1
  exact ⟨ho, h.box.grown hg (fun e => by have := hge _ e.symm; omega), h.bel.grown hg h.bel.size (fun k hk => by have := hge k hk; omega)⟩
theorem PS.alloc (h : PS w box v n l W) (o : Obj) : PS w box v n l (W.alloc o) := ⟨h.own.alloc o, h.box.alloc o, below_step h.bel (below_alloc _ _)⟩
end

set_option maxRecDepth 100000 in
set_option maxHeartbeats 2000000 in
theorem rput_ok (s kind num : Nat) (A : Option Addr) (n c : Nat) (load : List UInt8) (w : World) (h64 : 64 ≤ s) (h4096 : s ≤ 4096) (hk0 : kind ≠ 0) (hk : kind < 256) (hnum : num < 18446744073709551616) (h3 : n + 15 ≤ s) (hl : load.length = n) (hr : Rd w A load) :
    Calls Try.prog 13 #[.int .i64 (s : Int), .agg #[.int .u8 kind, .int .u64 num, .slice A n c]] w fun e w' => e = .returned (.tuple #[.string ⟨(sealed s kind num load).toArray⟩, .int .i64 0]) ∧ Below w.heap.size w w' := by
  have HL := Lib.hid hl
  have HRM := Lib.hid (fun W => rroom_any (s : Int) W)
  have hrm : room (s : Int) = (s : Int) - 15 := by unfold room; rw [if_neg (by omega), if_neg (by omega)]
  rw [hrm] at HRM
  have d1 : decide ((s : Int) < 64) = false := by simp; omega
  have d2 : decide (4096 < (s : Int)) = false := by simp; omega
  have d3 : ((kind : Int) == 0) = false := by simp [hk0]
  have d4 : decide ((s : Int) - 15 < (n : Int)) = false := by simp; omega
  have hb0 : ∀ q, PS w #[.int .u8 (kind : Int), .int .u64 (num : Int), .slice A n c] (.slice (some ⟨w.heap.size + 1, 0, none⟩) 1 1) 1 ([UInt8.ofNat kind] ++ (be 8 num).take 0) (((w.alloc (.cells #[.int .u8 (kind : Int), .int .u64 (num : Int), .slice A n c] 25)).drewN q).alloc (.cells #[.int .u8 (kind : Int)] 5)) := by
    intro q
    refine ⟨⟨rfl, .inr ⟨w.heap.size + 1, 1, #[.int .u8 (kind : Int)], rfl, Nat.le_refl _, ?_, Nat.le_refl _, by unfold maxLen; omega, rfl, ?_⟩⟩, Blk.alloc (w := (w.alloc (.cells #[.int .u8 (kind : Int), .int .u64 (num : Int), .slice A n c] 25)).drewN q) (Blk.new w _ _) _, below_step (below_drewN (below_alloc _ _) q) (below_alloc _ _)⟩
    · have := heap_alloc_new ((w.alloc (.cells #[.int .u8 (kind : Int), .int .u64 (num : Int), .slice A n c] 25)).drewN q) (.cells #[.int .u8 (kind : Int)] 5)
      simpa using this
    · have : Value.int .u8 (kind : Int) = bv (UInt8.ofNat kind) := by simp [bv]; omega
      simp [this]
  have HB0 := Lib.hid hb0
  clear hl hrm hb0 hk0
  go_enter Try.func13, Try.ntmps13
  go_upto_region 3 with (fail)
  go_quiet ((go_at_call 18; exact Calls.quiet_of_same ((HRM.out _).mono fun e w' ⟨he, hw⟩ => ⟨he, hw.symm⟩)))
  go_upto_region 6 with (fail)
  refine wp_world (fun W => PS w #[.int .u8 (kind : Int), .int .u64 (num : Int), .slice A n c] (.slice (some ⟨w.heap.size + 1, 0, none⟩) 1 1) 1 ([UInt8.ofNat kind] ++ (be 8 num).take 0) W) (HB0.out _) ?_
  intro w1 hP1
  have HBT := Lib.hid (be_take_succ 8 num)
  clear HB0
  go_wp2
  go_loopw [6, 7] (fun v sh wr => ∃ i : Nat, i ≤ 8 ∧ sh = .int .i64 (7 - (i : Int)) ∧ PS w #[.int .u8 (kind : Int), .int .u64 (num : Int), .slice A n c] v (1 + i) ([UInt8.ofNat kind] ++ (be 8 num).take i) wr) (fun _ sh _ => (intOf sh + 1).toNat)
  case atStart => exact ⟨0, Nat.zero_le _, rfl, hP1⟩
  case round =>
    obtain ⟨i, hi, rfl, hP⟩ := hrel
    clear hP1
    have c1 := hP.box.cell 1
    have c2 := hP.box.cell 2
    have hsz := hP.sz
    by_cases hlt : i < 8
    · obtain ⟨t, ht⟩ : ∃ t : Nat, (7 - (i : Int)) = (t : Int) := ⟨7 - i, by omega⟩
      rw [ht]
      have hs7 : t ≤ 7 := by omega
      have HS2 := Lib.hid (show t = 8 - 1 - i by omega)
      have HT := Lib.hid ht
      obtain ⟨q, hq, hq2⟩ : ∃ q : Nat, 8 * (t : Int) = (q : Int) ∧ q = 8 * t := ⟨8 * t, by omega, rfl⟩
      have hq56 : q ≤ 56 := by omega
      have HQ2 := Lib.hid hq2
      have hdd : decide (0 ≤ (t : Int)) = true := by simp
      clear hq2 ht
      have HBY := Lib.hid (show Value.int .u8 ((num : Int) / 2 ^ q % 256) = bv (UInt8.ofNat (num / 256 ^ (8 - 1 - i))) by
        rw [HQ2.out, HS2.out]
        exact shr_byte num _)
      have HCS := Lib.hid (cs_one_byte wr _ _ HBY.out)
      have HOW := Lib.hid (hP.alloc (.cells #[.int .u8 ((num : Int) / 2 ^ q % 256)] 5))
      have hbs : w.heap.size + 1 ≤ (wr.alloc (.cells #[.int .u8 ((num : Int) / 2 ^ q % 256)] 5)).heap.size := by simp; omega
      have hmx : 1 + i + 1 ≤ maxLen := by unfold maxLen; omega
      have hbx : (1 + i + 1) * 1 ≤ 140737488355328 := by omega
      have hone := bvs_one [UInt8.ofNat (num / 256 ^ (8 - 1 - i))]
      have HX := Lib.hid (show ([UInt8.ofNat kind] ++ (be 8 num).take i).map bv ++ [UInt8.ofNat (num / 256 ^ (8 - 1 - i))].map bv = ([UInt8.ofNat kind] ++ (be 8 num).take (i + 1)).map bv by
        rw [HBT.out i hlt]
        simp only [List.map_append, List.append_assoc])
      go_wp2_with (at_builtin; refine wpList_app bytesT rfl (.tmp 33) (.tmp 41) rfl (w.heap.size + 1) _ (1 + i) _ rfl HOW.out.own (some ⟨wr.heap.size, 0, none⟩) 1 1 ([UInt8.ofNat (num / 256 ^ (8 - 1 - i))].map bv) rfl rfl HCS.out hone hmx hbx hbs ?_; intro v2 w2 hown2 hgr2 _; rw [HX.out] at hown2)
      have hP2 := HOW.out.grow hgr2 hown2
      go_roundw
      case rel => exact ⟨i + 1, by omega, by have := HT.out; congr 1; omega, hP2⟩
      case measure => simp [intOf]
    · obtain rfl : i = 8 := by omega
      rw [show (7 - ((8 : Nat) : Int)) = -1 from rfl]
      have hdd : decide (0 ≤ (-1 : Int)) = false := by simp
      have e0 : (be 8 num).take 8 = be 8 num := List.take_of_length_le (by rw [be_length]; exact Nat.le_refl _)
      rw [e0] at hP
      obtain ⟨L1, hL1⟩ : ∃ L, L = [UInt8.ofNat kind] ++ be 8 num := ⟨_, rfl⟩
      rw [← hL1] at hP
      have HL1 := Lib.hid hL1
      have e2 : #[Value.int .u8 ((n : Int) / 256), .int .u8 ((n : Int) % 256)] = ((be 2 n).map bv).toArray := by
        have a1 : Value.int .u8 ((n : Int) / 256) = bv (UInt8.ofNat (n / 256 ^ 1)) := by simp [bv]; omega
        have a2 : Value.int .u8 ((n : Int) % 256) = bv (UInt8.ofNat (n / 256 ^ 0)) := by simp [bv]
        rw [a1, a2]
        rfl
      have HCS := Lib.hid (cs_bytes wr (be 2 n))
      rw [← e2] at HCS
      have HOW := Lib.hid (hP.alloc (.cells #[Value.int .u8 ((n : Int) / 256), .int .u8 ((n : Int) % 256)] 5))
      have hbs : w.heap.size + 1 ≤ (wr.alloc (.cells #[Value.int .u8 ((n : Int) / 256), .int .u8 ((n : Int) % 256)] 5)).heap.size := by simp; omega
      have hmx : 1 + 8 + 2 ≤ maxLen := by unfold maxLen; omega
      have hbx : (1 + 8 + 2) * 1 ≤ 140737488355328 := by omega
      have hone := bvs_one (be 2 n)
      have HB2 := Lib.hid (show ((be 2 n).map bv).length = 2 * 1 by simp [be_length])
      clear e0 e2 hL1 hP
      go_upto_region 11 with (at_builtin; refine wpList_app bytesT rfl (.tmp 43) (.tmp 54) rfl (w.heap.size + 1) _ (1 + 8) _ rfl HOW.out.own (some ⟨wr.heap.size, 0, none⟩) 2 2 ((be 2 n).map bv) rfl HB2.out HCS.out hone hmx hbx hbs ?_; intro v3 w3 hown3 hgr3 _; rw [← List.map_append] at hown3)
      have hP3 := HOW.out.grow hgr3 hown3
      have HP3 := Lib.hid hP3
      have c3 := hP3.box.cell 2
      have hsz3 := hP3.sz
      have hr3 := (hr.below hP3.bel).cs
      have hone3 := bvs_one load
      have HB3 := Lib.hid (show (load.map bv).length = n * 1 by rw [List.length_map, HL.out, Nat.mul_one])
      have hmx3 : 1 + 8 + 2 + n ≤ maxLen := by unfold maxLen; omega
      have hbx3 : (1 + 8 + 2 + n) * 1 ≤ 140737488355328 := by omega
      clear HOW HCS hgr3 hown3 HB2 hone hmx hbx hbs c1 c2 hsz hP3
      go_upto_region 12 with (at_builtin; refine wpList_app bytesT rfl (.tmp 56) (.tmp 58) rfl (w.heap.size + 1) _ (1 + 8 + 2) _ rfl HP3.out.own A n c (load.map bv) rfl HB3.out hr3 hone3 hmx3 hbx3 hsz3 ?_; intro v4 w4 hown4 hgr4 _; rw [← List.map_append] at hown4)
      have hP4 := HP3.out.grow hgr4 hown4
      obtain ⟨N, hN⟩ : ∃ N, 1 + 8 + 2 + n = N := ⟨_, rfl⟩
      rw [hN] at hP4
      obtain ⟨A4, c4, hv4⟩ := own_slice hP4.own
      subst hv4
      obtain ⟨k, hk4⟩ : ∃ k : Nat, (s : Int) - 4 - (N : Int) = (k : Int) := ⟨s - 4 - N, by omega⟩
      obtain ⟨M, hM⟩ : ∃ M, N + k = M := ⟨_, rfl⟩
      have hM3 : M ≤ 4096 := by omega
      have hkN : k = s - 15 - n := by omega
      have HBD := Lib.hid (show L1 ++ be 2 n ++ load ++ List.replicate k 0 = sealBody s kind num load by rw [HL1.out, hkN]; unfold sealBody; rw [HL.out]; simp)
      have HP4 := Lib.hid hP4
      have hsz4 := hP4.sz
      have hN0 : 0 < N := by omega
      have hNk : N + k ≤ 65536 := by omega
      have HM := Lib.hid hM
      have hN5 : N ≤ s := by omega
      clear hown4 hgr4 HP3 c3 hsz3 hr3 hone3 HB3 hmx3 hbx3 hP4 hN hM hkN
      go_upto_region 13 with (at_builtin; refine wpList_appz bytesT Try.underlying3 rfl (.tmp 60) (.tmp 65) rfl (w.heap.size + 1) _ N k _ rfl rfl HP4.out.own hN0 hNk hsz4 ?_; intro v5 w5 hown5 hgr5 _)
      rw [HBD.out] at hown5
      have hP5 := HP4.out.grow hgr5 hown5
      rw [HM.out] at hP5
      obtain ⟨A5, c5, hr5, hl5, hc5⟩ : ∃ A5 c5, v5 = .slice A5 M c5 ∧ Rd w5 A5 (sealBody s kind num load) ∧ (sealBody s kind num load).length = M := by
        obtain ⟨A5, c5, h1, h2, h3, _⟩ := own_rd hP5.own
        exact ⟨A5, c5, h1, h2, h3⟩
      subst hr5
      have HCR := Lib.hid (rcrc_any A5 (sealBody s kind num load) M c5 w5 hc5 (by omega) hl5)
      obtain ⟨cr, hcr⟩ : ∃ cr, crc (sealBody s kind num load) = cr := ⟨_, rfl⟩
      rw [hcr] at HCR
      have HCRE := Lib.hid hcr
      have hcr32 : cr < 4294967296 := by rw [← hcr]; exact crc_lt _
      have hsz5 := hP5.sz
      have HP5 := Lib.hid hP5
      clear HP4 hown5 hgr5 hP5 hcr HM hc5 HBD
      go_upto_region 14 with (go_at_call 24; refine HCR.out.mono ?_; rintro e w' ⟨rfl, rfl⟩)
      have e4 : #[Value.int .u8 ((cr : Int) / 16777216), .int .u8 ((cr : Int) / 65536 % 256), .int .u8 ((cr : Int) / 256 % 256), .int .u8 ((cr : Int) % 256)] = ((be 4 cr).map bv).toArray := by
        have a1 : Value.int .u8 ((cr : Int) / 16777216) = bv (UInt8.ofNat (cr / 256 ^ 3)) := by simp [bv]; omega
        have a2 : Value.int .u8 ((cr : Int) / 65536 % 256) = bv (UInt8.ofNat (cr / 256 ^ 2)) := by simp [bv]
        have a3 : Value.int .u8 ((cr : Int) / 256 % 256) = bv (UInt8.ofNat (cr / 256 ^ 1)) := by simp [bv]
        have a4 : Value.int .u8 ((cr : Int) % 256) = bv (UInt8.ofNat (cr / 256 ^ 0)) := by simp [bv]
        rw [a1, a2, a3, a4]
        rfl
      have HCS := Lib.hid (cs_bytes w5 (be 4 cr))
      rw [← e4] at HCS
      have HOW := Lib.hid (HP5.out.alloc (.cells #[Value.int .u8 ((cr : Int) / 16777216), .int .u8 ((cr : Int) / 65536 % 256), .int .u8 ((cr : Int) / 256 % 256), .int .u8 ((cr : Int) % 256)] 5))
      have hbs : w.heap.size + 1 ≤ (w5.alloc (.cells #[Value.int .u8 ((cr : Int) / 16777216), .int .u8 ((cr : Int) / 65536 % 256), .int .u8 ((cr : Int) / 256 % 256), .int .u8 ((cr : Int) % 256)] 5)).heap.size := by simp; omega
      have hmx : M + 4 ≤ maxLen := by unfold maxLen; omega
      have hbx : (M + 4) * 1 ≤ 140737488355328 := by omega
      have hone := bvs_one (be 4 cr)
      have HB4 := Lib.hid (show ((be 4 cr).map bv).length = 4 * 1 by simp [be_length])
      have HSE := Lib.hid (show sealBody s kind num load ++ be 4 cr = sealed s kind num load by unfold sealed; rw [HCRE.out])
      clear e4
      go_wp2_with (at_builtin; refine wpList_app bytesT rfl (.tmp 69) (.tmp 81) rfl (w.heap.size + 1) _ M _ rfl HOW.out.own (some ⟨w5.heap.size, 0, none⟩) 4 4 ((be 4 cr).map bv) rfl HB4.out HCS.out hone hmx hbx hbs ?_; intro v6 w6 hown6 hgr6 _; rw [← List.map_append, HSE.out] at hown6; have hP6 := HOW.out.grow hgr6 hown6; obtain ⟨A6, c6, hv6, hr6, hl6, _⟩ := own_rd hown6; have hst6 := run_str (P := Try.prog) Try.underlying23 Try.underlying5 Try.underlying9 w6 A6 (M + 4) c6 _ hl6 hr6; subst hv6; clear hl6)
      go_ret2
      exact ⟨rfl, hP6.bel⟩

set_option maxHeartbeats 1000000 in
/-- The reference's Put at every input. -/
theorem rput_any (size : Int) (kind num : Nat) (A : Option Addr) (n c : Nat) (load : List UInt8) (w : World) (hk : kind < 256) (hnum : num < 18446744073709551616) (hl : load.length = n) (hr : Rd w A load) :
    Calls Try.prog 13 #[.int .i64 size, .agg #[.int .u8 kind, .int .u64 num, .slice A n c]] w fun e w' => e = .returned (.tuple #[.string ⟨(putP size kind num load).2.toArray⟩, .int .i64 ((putP size kind num load).1 : Int)]) ∧ Below w.heap.size w w' := by
  by_cases h1 : size < 64 ∨ 4096 < size ∨ kind = 0
  · have HE := Lib.hid (show putP size kind num load = (2, []) by
      unfold putP room
      rw [if_pos]
      rcases h1 with h | h | h
      · exact .inl (by rw [if_pos h])
      · exact .inl (by rw [if_neg (by omega), if_pos h])
      · exact .inr h)
    have h2 : decide (size < 64) = true ∨ (decide (size < 64) = false ∧ decide (4096 < size) = true) ∨ (decide (size < 64) = false ∧ decide (4096 < size) = false ∧ ((kind : Int) == 0) = true) := by
      simp only [decide_eq_true_eq, decide_eq_false_iff_not, beq_iff_eq]; omega
    clear h1 hl
    rcases h2 with h1 | ⟨h1, h2⟩ | ⟨h1, h2, h3⟩
    all_goals
      go_enter Try.func13, Try.ntmps13
      go_wp2
      go_ret2
      rw [HE.out]
      exact ⟨rfl, below_alloc _ _⟩
  · obtain ⟨s, rfl⟩ := Int.eq_ofNat_of_zero_le (show 0 ≤ size by omega)
    have hrm : room (s : Int) = (s : Int) - 15 := by unfold room; rw [if_neg (by omega), if_neg (by omega)]
    by_cases h2 : s < n + 15
    · have HE := Lib.hid (show putP s kind num load = (1, []) by unfold putP; rw [if_neg (by omega), hrm, if_pos (by omega)])
      have HRM := Lib.hid (fun W => rroom_any (s : Int) W)
      rw [hrm] at HRM
      have d1 : decide ((s : Int) < 64) = false := by simp; omega
      have d2 : decide (4096 < (s : Int)) = false := by simp; omega
      have d3 : ((kind : Int) == 0) = false := by simp; omega
      have d4 : decide ((s : Int) - 15 < (n : Int)) = true := by simp; omega
      clear hl hrm h1
      go_enter Try.func13, Try.ntmps13
      go_upto_region 3 with (fail)
      go_quiet ((go_at_call 18; exact Calls.quiet_of_same ((HRM.out _).mono fun e w' ⟨he, hw⟩ => ⟨he, hw.symm⟩)))
      go_wp2
      go_ret2
      rw [HE.out]
      exact ⟨rfl, below_drewN (below_alloc _ _) _⟩
    · have hpo := putP_ok (num := num) (load := load) (size := s) (kind := kind) (by omega) (by omega) (by omega) (by omega)
      rw [hpo]
      exact rput_ok s kind num A n c load w (by omega) (by omega) (by omega) hk hnum (by omega) hl hr
end Go.Proofs.Ythdhinhedgcbcaa
