/- The walk of the statement DiskCuts. -/
import Derived.Test.YtclbhhgifjegiaaCutsL
import Derived.Deep.RegionHeld3
import Derived.Deep.DrawnRows
namespace Go.Proofs.Ytclbhhgifjegiaa
open Go.RowKit
set_option linter.unusedVariables false
attribute [local go_sem ↓] Go.wp_at_zero Go.wp_at_succ

/-- A string as a cell's value. -/
def sv (l : List UInt8) : Value := .string ⟨l.toArray⟩

/-- Write where its parts lie in a slice that is known. -/
theorem write_own_g {w0 W : World} {pd : Nat} {p : Pl} {d : DS} {n : Int} {A : Option Addr} {l : List UInt8} {c : Nat} (hO : Own w0 pd p d W) (ok : d.Ok) (hk : l.length ≤ 140737488351232) (hr : RdL W A [l]) :
    Calls Try.prog 13 #[.pointer (some ⟨pd, 0, none⟩), .int .i64 n, .slice A 1 c] W fun e w' => e = .returned (.int .i64 (d.write n l).1) ∧ ∃ p', Own w0 pd p' (d.write n l).2 w' ∧ Acts W pd p (d.write n l).2 w' p' := by
  refine (write_any (n := n) (c := c) (A := A) (ls := [l]) (l := l) (m := 1) hO.disk ok (by simp) rfl (by omega) (by omega) hr).mono ?_
  rintro e w' ⟨he, p', hA⟩
  exact ⟨he, p', hO.act hA, hA⟩

/-- The same as a statement's call leaves it: the parts' slice is new, and an order was drawn. -/
theorem write_own_d {w0 W : World} {pd : Nat} {p : Pl} {d : DS} {n : Int} {B : Option Addr} {l : List UInt8} {c : Nat} (hO : Own w0 pd p d W) (ok : d.Ok) (hk : l.length ≤ 140737488351232) (hr : Rd W B l) :
    Calls Try.prog 13 #[.pointer (some ⟨pd, 0, none⟩), .int .i64 n, .slice (some ⟨W.heap.size, 0, none⟩) 1 1] (W.alloc (.cells #[.slice B l.length c] 33)).drew
      fun e w' => e = .returned (.int .i64 (d.write n l).1) ∧ ∃ p', Own w0 pd p' (d.write n l).2 w' ∧ Acts W pd p (d.write n l).2 w' p' := by
  have hb : Below W.heap.size W (W.alloc (.cells #[.slice B l.length c] 33)).drew := (below_alloc W _).drew
  refine (write_own_g (n := n) (c := 1) (A := some ⟨W.heap.size, 0, none⟩) (l := l) (hO.below hb) ok hk ((rdl_one hr rfl).below (Below.refl _ _).drew)).mono ?_
  rintro e w' ⟨he, p', hO', hA⟩
  exact ⟨he, p', hO', hA.disk, (Fr.of_below hb _).same hA.fr, fun k hk => by
    rcases hA.grown k hk with h | h
    · exact .inl h
    · exact .inr (Nat.le_trans hb.size h)⟩

/-- A block that is not the disk's stays. -/
theorem Acts.blk {W w' : World} {pd : Nat} {p p' : Pl} {d' : DS} {g t : Nat} {cs : Array Value} (hA : Acts W pd p d' w' p') (hB : Blk W g t cs) (hn : ¬ p.F pd g) : Blk w' g t cs ∧ ¬ p'.F pd g :=
  ⟨hA.fr.blk hB hn, fun h => by
    rcases hA.grown g h with h1 | h1
    · exact hn h1
    · have := hB.lt; omega⟩
theorem Own.drew {w0 W : World} {pd : Nat} {p : Pl} {d : DS} (h : Own w0 pd p d W) : Own w0 pd p d W.drew := h.below (below_drewN (Below.refl _ _) 1)

/-- A store into a block that is not the disk's. -/
theorem Own.setFar {w0 W : World} {pd : Nat} {p : Pl} {d : DS} {g i : Nat} {v : Value} (h : Own w0 pd p d W) (hn : ¬ p.F pd g) (hg : w0.heap.size ≤ g) : Own w0 pd p d (W.setCell ⟨g, i, none⟩ v) := by
  have hD := h.disk
  have ne : ∀ k, p.F pd k → k ≠ g := fun k hk e => hn (e ▸ hk)
  refine ⟨⟨hD.obj.far (ne _ (.inl rfl)) _, hD.row.far (ne _ (.inr (.inl rfl))) _, hD.cap, hD.capm, ?_, ?_⟩, h.bel.setCell hg _, h.own⟩
  · refine hD.log.kept (row := some g) (grown_setCell (grown_refl _ _) (.inl rfl) _) ?_
    cases hk : p.lv.ownBlock with
    | none => exact .inl rfl
    | some k => exact .inr (by intro e; injection e with e; exact ne k (.inr (.inr (.inl hk))) e)
  · rw [Below.heap_setCell _ _ _ _ (show p.ch ≠ g from ne _ (.inr (.inr (.inr rfl))))]
    exact hD.chan
theorem set_map_sv (want : List (List UInt8)) (N : Nat) (p : List UInt8) : (want.map sv).toArray.setIfInBounds N (sv p) = ((want.set N p).map sv).toArray := by
  rw [List.map_set]; simp

/-- num in a region that draws its order. -/
theorem num_q (n : Int) (w : World) (k : Nat) : Calls Try.prog 11 #[.int .i64 n] (w.drewN k) fun e w'' => e = .returned (.int .i64 n) ∧ ∃ m, w'' = w.drewN m :=
  (num_any n _).mono fun e w' ⟨he, hw⟩ => ⟨he, k, hw.symm⟩
theorem read_own2 {w0 W : World} {pd : Nat} {p : Pl} {d : DS} {n : Int} (hO : Own w0 pd p d W) (ok : d.Ok) {r : Nat} {l : List UInt8} (hrd : d.read n = (r, l)) {k : Nat} (hl : l.length = k) :
    Calls Try.prog 15 #[.pointer (some ⟨pd, 0, none⟩), .int .i64 n] W fun e w' => ∃ A c, e = .returned (.tuple #[.slice A k c, .int .i64 (r : Int)]) ∧ Rd w' A l ∧ k ≤ c ∧ Own w0 pd p d w' ∧ Below W.heap.size W w' := by
  subst hl
  refine (read_as hrd (read_any hO.disk ok)).mono ?_
  rintro e w' ⟨A, c, he, hr, hc, hb⟩
  exact ⟨A, c, he, hr, hc, hO.below hb, hb⟩
theorem padB_at' {x : List UInt8} {k : Nat} (hk : k < (padB 64 x).length) (h : ¬ k < x.length) : (padB 64 x)[k] = 0 := by
  have h1 : (padB 64 x)[k]? = some 0 := by
    have hl : k - x.length < 64 - x.length := by
      have : (padB 64 x).length = x.length + (64 - x.length) := by simp [padB]
      omega
    unfold padB
    rw [List.getElem?_append_right (by omega), List.getElem?_replicate, if_pos hl]
  rw [List.getElem?_eq_getElem hk] at h1
  exact Option.some.inj h1
theorem padB_take (x : List UInt8) (m : Nat) : (padB m x).take x.length = x := by simp [padB]

theorem act_cells {w W : World} {b o : Nat} {n : Int} {B : Option Addr} {p : List UInt8} {k c : Nat} (hb : Below w.heap.size w W) (c1 : w.cell? ⟨b, o + 1, none⟩ = some (.int .i64 n)) (c2 : w.cell? ⟨b, o + 2, none⟩ = some (.slice B k c)) (hr : Rd w B p) :
    W.cell? ⟨b, o + 1, none⟩ = some (.int .i64 n) ∧ W.cell? ⟨b, o + 2, none⟩ = some (.slice B k c) ∧ Rd W B p :=
  ⟨(hb.cell (World.block_lt_of_cell? w _ c1)).trans c1, (hb.cell (World.block_lt_of_cell? w _ c2)).trans c2, hr.below hb⟩

/-- Sixteen strings without bytes. -/
def strs0 : Array Value := ((List.replicate 16 []).map sv).toArray
theorem mkStrs (W : World) : (Instr.makeSlice 31 (.int .i64 16) (.int .i64 16)).run Try.prog W = .ok (.slice (some ⟨W.heap.size, 0, none⟩) 16 16) (W.alloc (.cells strs0 9)) := by
  kernel_rfl

set_option maxRecDepth 100000 in
set_option maxHeartbeats 1000000 in
theorem cuts_in (A : Option Addr) (l : List ActV) (k c n : Nat) (w : World) (hl : l.length = k) (hk : k ≤ 9223372036854775807) (hr : RdA w A l) (ho : ∀ a ∈ l, a.Ok) (hh : hugeB l = false) (hn : n ≤ 150) :
    Calls Try.prog 3 #[.slice A k c, .int .i64 n] w (Yes w) := by
  have HH := Lib.hid (huge_any A l k c w hl hk hr ho)
  rw [hh] at HH
  have HL := Lib.hid hl
  have HO := Lib.hid ho
  have hk150 : k ≤ 150 := by
    have : ¬ (150 < l.length ∨ 40000 < sumP l l.length) := by simpa [hugeB] using hh
    omega
  clear hl ho hh
  have ok0 : (DS.fresh 16 64).Ok := DS.fresh_ok (by omega) (by omega) (by omega) (by omega)
  have HN := Lib.hid (new_ok 16 64 w (by omega) (by omega) (by omega) (by omega))
  have hmk := mkStrs
  go_enter Try.func3, Try.ntmps3
  go_upto_region 7 with (first
    | (go_at_call 8; refine HH.out.mono ?_; rintro e w' ⟨rfl, rfl⟩)
    | (go_at_call 10; refine HN.out.mono ?_; rintro e w1 ⟨pd, p, rfl, hD1, hb1, hF1⟩)
    | (go_at_call 11; refine (num_any _ _).mono ?_; rintro e w' ⟨rfl, rfl⟩)
    | (go_at_call 12; refine (cut_any hD1 _).mono ?_; rintro e w2 ⟨rfl, hA2⟩))
  have hO2 : Own w pd p ((DS.fresh 16 64).cut n) w2 := (⟨hD1, hb1, hF1⟩ : Own w pd p _ w1).act hA2
  clear hD1 hb1 hF1 hA2 HH HN
  go_wp2
  have hBw : Blk (w2.alloc (.cells strs0 9)) w2.heap.size 9 ((List.replicate 16 []).map sv).toArray := Blk.new w2 _ _
  have hO3 := hO2.below (below_alloc w2 (.cells strs0 9))
  have hw2 := hO2.bel.size
  have hI := cuts_start n hn
  have hnF0 : ¬ p.F pd w2.heap.size := fun h => by have := hO2.disk.lt _ h; omega
  clear hO2
  go_loopw [7, 9] (fun dn i wr => ∃ (j done : Nat) (p' : Pl) (D : DS) (want : List (List UInt8)), j ≤ k ∧ i = .int .i64 j ∧ dn = .int .i64 done ∧ CutsInv n D done want ∧ Own w pd p' D wr ∧ Blk wr w2.heap.size 9 (want.map sv).toArray ∧ ¬ p'.F pd w2.heap.size) (fun _ i _ => k - (intOf i).toNat)
  case atStart =>
    refine ⟨0, 0, p, _, _, Nat.zero_le _, rfl, rfl, hI, hO3, hBw, hnF0⟩
  case round =>
    obtain ⟨j, done, p', D, want, hj, rfl, rfl, hI, hO, hB, hnF⟩ := hrel
    clear hO3 hBw hnF0 hmk
    by_cases hlt : j < k
    · have hjl : j < l.length := by rw [HL.out]; exact hlt
      have hok := HO.out _ (List.getElem_mem hjl)
      obtain ⟨b, off, rfl, B, cB, c0, c1, c2, hrB, hcB⟩ := hr.at_ hjl
      have hp2 := hok.p2
      generalize (l[j]'hjl) = a at *
      obtain ⟨ak, an, ap⟩ := a
      simp only at c0 c1 c2 hrB hcB hp2
      have HA := Lib.hid (fun W (hb : Below w.heap.size w W) => act_cells hb c1 c2 hrB)
      clear c0 c1 c2 hrB
      have hdn := hI.le
      have hd1 : decide (j < k) = true := by simp; omega
      have q1 : (0 : Int) ≤ (j : Int) := by omega
      have q2 : (j : Int) < (k : Int) := by omega
      by_cases hright : rightB an ap
      · obtain ⟨N, rfl⟩ := Int.eq_ofNat_of_zero_le hright.1
        obtain ⟨r1, r2, r3⟩ := hright
        have hN : N < 16 := by omega
        by_cases hdo : done < n
        · obtain ⟨z1, hI2⟩ := cuts_yes hI ⟨r1, r2, r3⟩ hdo hn
          rw [Int.toNat_natCast] at hI2
          have HW := Lib.hid (write_own_d (n := (N : Int)) (c := cB) hO hI.ok hp2 (HA.out wr hO.bel).2.2)
          rw [z1] at HW
          obtain ⟨c1, c2, _⟩ := HA.out wr hO.bel
          go_upto_region 12 with (fail)
          go_region_held3 (fun W => W.cell? ⟨b, off + j * 3 + 1, none⟩ = some (.int .i64 (N : Int)) ∧ W.cell? ⟨b, off + j * 3 + 2, none⟩ = some (.slice B ap.length cB)) (first | go_keep | exact ⟨(HA.out _ hO3.bel).1, (HA.out _ hO3.bel).2.1⟩) ((first
            | (go_at_call 13
               refine HW.out.mono ?_
               rintro e w3 ⟨rfl, p3, hO3, hA3⟩)))
          obtain ⟨hB3, hnF3⟩ := hA3.blk hB hnF
          clear HW c1 c2 hO hA3 hB hnF z1
          generalize (D.write (N : Int) ap).snd = D3 at *
          obtain ⟨c1, c2, hrB⟩ := HA.out w3 hO3.bel
          have hd2 : decide (done < n) = true := by simp; omega
          have hd3 : decide ((ap.length : Int) ≤ 64) = true := by simp; omega
          go_upto_region 18 with (go_at_call 11; refine (num_any _ _).mono ?_; rintro e w' ⟨rfl, rfl⟩)
          have hst := fun W (hb : Below w.heap.size w W) => run_str (P := Try.prog) Try.underlying33 Try.underlying5 Try.underlying9 W B ap.length cB ap rfl (HA.out W hb).2.2
          have HST := Lib.hid hst
          have hst3 := hst w3.drew hO3.drew.bel
          clear hst
          have hfz := hB3.frozen N
          have hcl : w3.cell? ⟨w2.heap.size, N, none⟩ = some (sv (want[N]'(by rw [hI.len]; exact hN))) := by
            rw [hB3.cell]
            simp [hI.len, hN]
          go_region
          have hO4 := (hO3.setFar (i := N) (v := sv ap) hnF3 hw2).drew
          have hB4 := hB3.set_ N (sv ap)
          rw [set_map_sv] at hB4
          have HB4 := Lib.hid hB4
          clear hB4 hst3 hcl hfz c1 c2
          go_wp2
          go_roundw
          case rel => exact ⟨j + 1, done + 1, p3, D3, _, by omega, by go_num, by go_num, hI2, hO4, HB4.out, hnF3⟩
          case measure => simp [intOf]; omega
        · have hdo2 : done = n := by omega
          obtain ⟨z1, hI2⟩ := cuts_dead hI ⟨r1, r2, r3⟩ hdo2
          have HW := Lib.hid (write_own_d (n := (N : Int)) (c := cB) hO hI.ok hp2 (HA.out wr hO.bel).2.2)
          rw [z1] at HW
          obtain ⟨c1, c2, _⟩ := HA.out wr hO.bel
          clear hdo2
          go_upto_region 12 with (fail)
          go_region_held3 (fun W => W.cell? ⟨b, off + j * 3 + 1, none⟩ = some (.int .i64 (N : Int)) ∧ W.cell? ⟨b, off + j * 3 + 2, none⟩ = some (.slice B ap.length cB)) (first | go_keep | exact ⟨(HA.out _ hO3.bel).1, (HA.out _ hO3.bel).2.1⟩) ((first
            | (go_at_call 13
               refine HW.out.mono ?_
               rintro e w3 ⟨rfl, p3, hO3, hA3⟩)))
          obtain ⟨hB3, hnF3⟩ := hA3.blk hB hnF
          clear HW c1 c2 hO hA3 hB hnF z1
          generalize (D.write (N : Int) ap).snd = D3 at *
          obtain ⟨c1, c2, hrB⟩ := HA.out w3 hO3.bel
          have hd2 : decide (done < n) = false := by simp; omega
          have hd3 : decide ((ap.length : Int) ≤ 64) = true := by simp; omega
          go_wp2_with (go_at_call 11; refine (num_any _ _).mono ?_; rintro e w' ⟨rfl, rfl⟩)
          go_roundw
          case rel => exact ⟨j + 1, done, p3, D3, want, by omega, by go_num, rfl, hI2, hO3, hB3, hnF3⟩
          case measure => simp [intOf]; omega
      · obtain ⟨r, hwr, hr12⟩ := cuts_no hI hright
        have HW := Lib.hid (write_own_d (n := an) (c := cB) hO hI.ok hp2 (HA.out wr hO.bel).2.2)
        rw [hwr] at HW
        have hr0 : ((r : Int) == 0) = false := by rcases hr12 with rfl | rfl <;> rfl
        have hways : (decide (0 ≤ an) = false) ∨ (decide (0 ≤ an) = true ∧ decide (an < 16) = false) ∨ (decide (0 ≤ an) = true ∧ decide (an < 16) = true ∧ decide ((ap.length : Int) ≤ 64) = false) := by
          unfold rightB at hright
          simp only [decide_eq_false_iff_not, decide_eq_true_eq]
          omega
        obtain ⟨c1, c2, _⟩ := HA.out wr hO.bel
        clear hr12 hwr hright
        go_upto_region 12 with (fail)
        go_region_held3 (fun W => W.cell? ⟨b, off + j * 3 + 1, none⟩ = some (.int .i64 an) ∧ W.cell? ⟨b, off + j * 3 + 2, none⟩ = some (.slice B ap.length cB)) (first | go_keep | exact ⟨(HA.out _ hO3.bel).1, (HA.out _ hO3.bel).2.1⟩) ((first
          | (go_at_call 13
             refine HW.out.mono ?_
             rintro e w3 ⟨rfl, p3, hO3, hA3⟩)))
        obtain ⟨hB3, hnF3⟩ := hA3.blk hB hnF
        clear HW c1 c2 hO hA3 hB hnF
        obtain ⟨c1, c2, hrB⟩ := HA.out w3 hO3.bel
        rcases hways with hd2 | ⟨hd2, hd3⟩ | ⟨hd2, hd3, hd4⟩
        all_goals
          go_wp2_with (go_at_call 11; refine (num_any _ _).mono ?_; rintro e w' ⟨rfl, rfl⟩)
          go_roundw
          case rel => exact ⟨j + 1, done, p3, D, want, by omega, by go_num, rfl, hI, hO3, hB3, hnF3⟩
          case measure => simp [intOf]; omega
    · have hd1 : decide (j < k) = false := by simp; omega
      clear HO hr hlt
      have HR := Lib.hid (restore_any hO.disk)
      have hI3 := hI
      have hlg := hI.log
      have hw16 := hI.len
      clear hI
      go_upto_region 20 with (go_at_call 14; refine HR.out.mono ?_; rintro e w3 ⟨rfl, p3, hA3⟩)
      have hO3 : Own w pd p3 D.back w3 := hO.act hA3
      obtain ⟨hB3, _⟩ := hA3.blk hB hnF
      clear HR hA3 hB hO hnF
      have ok3 := back_ok hI3.ok
      have HI := Lib.hid hI3
      have HLG := Lib.hid hlg
      have HW16 := Lib.hid hw16
      clear hI3 hlg hw16
      go_wp2
      obtain ⟨wo, rfl⟩ : ∃ wo : World, wo = wr := ⟨_, rfl⟩
      go_loopw [12] (fun i wr => ∃ t : Nat, t ≤ 16 ∧ i = .int .i64 t ∧ Own w pd p3 D.back wr ∧ Blk wr w2.heap.size 9 (want.map sv).toArray) (fun i _ => 16 - (intOf i).toNat)
      case atStart => exact ⟨0, Nat.zero_le _, rfl, hO3, hB3⟩
      case round =>
        obtain ⟨t, ht, rfl, hO4, hB4⟩ := hrel
        clear hO3 hB3
        by_cases htl : t < 16
        · have htw : t < want.length := by rw [HW16.out]; exact htl
          have hx64 := HI.out.w64 t htw
          have hR := cuts_read HI.out t htw
          have HB : Hid ((want.map sv).toArray[t]? = some (sv want[t])) := by
            show (want.map sv).toArray[t]? = some (sv want[t])
            simp [htw]
          generalize want[t] = x at *
          have HRd := Lib.hid (read_own2 (n := t) hO4 ok3 hR (padB_len hx64))
          clear hR
          go_upto_region 24 with (go_at_call 15; refine HRd.out.mono ?_; rintro e w5 ⟨C, cC, rfl, hrC, hcC, hO5, hb5⟩)
          have hB5 := hB4.keep hb5
          have hcl : w5.cell? ⟨w2.heap.size, t, none⟩ = some (.string ⟨x.toArray⟩) := by rw [hB5.cell]; exact HB.out
          clear HRd hO4 hB4 hb5
          obtain ⟨cb, co, hC0⟩ : ∃ b off, C = some ⟨b, off, none⟩ := by
            obtain ⟨b, off, h1, _⟩ := hrC.at_ (k := 0) (by rw [padB_len hx64]; omega)
            exact ⟨b, off, h1⟩
          subst hC0
          have hst := fun q => run_str (P := Try.prog) Try.underlying33 Try.underlying5 Try.underlying9 (w5.drewN q) (some ⟨cb, co, none⟩) x.length cC x rfl (by have := hrC.take_ x.length; rwa [padB_take] at this)
          have q3 : (0 : Int) ≤ (x.length : Int) := by omega
          have q4 : (x.length : Int) ≤ (cC : Int) := by omega
          have q5 : (0 : Int) ≤ (t : Int) := by omega
          have q6 : (t : Int) < 16 := by omega
          go_quiet ((go_at_call 11; exact num_q _ _ _))
          clear q3 q4
          go_wp2
          go_loop [15] (fun i => ∃ s : Nat, x.length ≤ s ∧ s ≤ 64 ∧ i = .int .i64 s) (fun i => 64 - (intOf i).toNat)
          case atStart => exact ⟨x.length, Nat.le_refl _, hx64, rfl⟩
          case round =>
            obtain ⟨s, hs1, hs2, rfl⟩ := hrel
            by_cases hsl : s < 64
            · have hsp : s < (padB 64 x).length := by rw [padB_len hx64]; exact hsl
              obtain ⟨b', off', hCe, _, hcell⟩ := hrC.at_ hsp
              injection hCe with hCe
              injection hCe with e1 e2
              subst e1 e2
              rw [padB_at' hsp (by omega)] at hcell
              clear hsp
              go_wp2
              go_round
              case rel => exact ⟨s + 1, by omega, by omega, by go_num⟩
              case measure => simp [intOf]; omega
            · go_wp2
              go_roundw
              case rel => exact ⟨t + 1, by omega, by go_num, hO5.below (below_drewN (Below.refl _ _) nq), hB5.keep (below_drewN (Below.refl _ _) nq)⟩
              case measure => simp [intOf]; omega
        · have HLg := Lib.hid (log_any hO4.disk ok3)
          have hle : done ≤ n := HI.out.le
          go_wp2_with (first
            | (go_at_call 16; refine HLg.out.mono ?_; rintro e w6 ⟨v, rfl, hown, hb6⟩; rw [show D.back.log.length = done from HLG.out] at hown; obtain ⟨B, cB, rfl, _, _, _⟩ := own_rdi hown)
            | (go_at_call 9; refine (live_from (below_step hO4.bel hb6)).mono ?_; rintro e w7 ⟨rfl, hb7⟩))
          go_ret
          exact ⟨rfl, hb7⟩

set_option maxRecDepth 100000 in
set_option maxHeartbeats 600000 in
theorem cuts_out (A : Option Addr) (l : List ActV) (k c : Nat) (n : Int) (w : World) (hl : l.length = k) (hk : k ≤ 9223372036854775807) (hr : RdA w A l) (ho : ∀ a ∈ l, a.Ok) (hh : hugeB l = true ∨ (hugeB l = false ∧ n < 0) ∨ (hugeB l = false ∧ ¬ n < 0 ∧ 150 < n)) :
    Calls Try.prog 3 #[.slice A k c, .int .i64 n] w (Yes w) := by
  have HH := Lib.hid (huge_any A l k c w hl hk hr ho)
  clear hl ho hr
  rcases hh with h1 | ⟨h1, h2⟩ | ⟨h1, h2, h3⟩
  all_goals
    rw [h1] at HH
    clear h1
    go_enter Try.func3, Try.ntmps3
    go_wp2_with (first
      | (go_at_call 8; refine HH.out.mono ?_; rintro e w' ⟨rfl, rfl⟩)
      | (go_at_call 9; refine (live_any w).mono ?_; rintro e w1 ⟨rfl, hb1⟩))
    go_ret
    exact ⟨rfl, hb1⟩

/-- DiskCuts at every input. -/
theorem cuts_any (A : Option Addr) (l : List ActV) (k c : Nat) (n : Int) (w : World) (hl : l.length = k) (hk : k ≤ 9223372036854775807) (hr : RdA w A l) (ho : ∀ a ∈ l, a.Ok) :
    Calls Try.prog 3 #[.slice A k c, .int .i64 n] w (Yes w) := by
  by_cases h : hugeB l = true ∨ n < 0 ∨ 150 < n
  · refine cuts_out A l k c n w hl hk hr ho ?_
    cases hB : hugeB l with
    | true => exact .inl rfl
    | false =>
      rw [hB] at h
      by_cases h2 : n < 0
      · exact .inr (.inl ⟨rfl, h2⟩)
      · exact .inr (.inr ⟨rfl, h2, by rcases h with h | h | h; (cases h); (exact absurd h h2); exact h⟩)
  · have hn0 : 0 ≤ n := by omega
    obtain ⟨m, rfl⟩ := Int.eq_ofNat_of_zero_le hn0
    exact cuts_in A l k c m w hl hk hr ho (by cases hB : hugeB l with | true => exact absurd (.inl hB) h | false => rfl) (by omega)
end Go.Proofs.Ytclbhhgifjegiaa
