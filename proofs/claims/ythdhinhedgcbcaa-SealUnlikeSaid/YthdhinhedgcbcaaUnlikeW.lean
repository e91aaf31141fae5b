/- The walk of the statement SealUnlike. -/
import Derived.Test.YthdhinhedgcbcaaTurnedW
namespace Go.Proofs.Ythdhinhedgcbcaa
open Go.RowKit
set_option linter.unusedVariables false

theorem sealed_inj {size kind num kind' num' : Nat} {load load' : List UInt8} (h64 : 64 ≤ size) (h4096 : size ≤ 4096) (hk : kind ≠ 0) (hk2 : kind < 256) (hn : num < 18446744073709551616) (hl : load.length + 15 ≤ size) (hk' : kind' ≠ 0) (hk2' : kind' < 256) (hn' : num' < 18446744073709551616) (hl' : load'.length + 15 ≤ size) :
    (sealed size kind num load = sealed size kind' num' load') ↔ (kind = kind' ∧ num = num' ∧ load = load') := by
  constructor
  · intro h
    have h1 := get_sealed (kind := kind) (num := num) (load := load) h64 h4096 hk hk2 hn hl
    have h2 := get_sealed (kind := kind') (num := num') (load := load') h64 h4096 hk' hk2' hn' hl'
    rw [h, h2] at h1
    injection h1 with h1
    injection h1 with e1 h1
    injection h1 with e2 e3
    exact ⟨e1.symm, e2.symm, e3.symm⟩
  · rintro ⟨rfl, rfl, rfl⟩
    rfl

set_option maxHeartbeats 400000 in
theorem unlike_out (size : Int) (kind num kind' num' : Int) (A A' : Option Addr) (n c n' c' : Nat) (more : Int) (w : World) (h : 20000 < n ∨ 20000 < n' ∨ more < 1 ∨ 100 < more) :
    Calls Try.prog 4 #[.int .i64 size, .agg #[.int .u8 kind, .int .u64 num, .slice A n c], .agg #[.int .u8 kind', .int .u64 num', .slice A' n' c'], .int .i64 more] w (Yes w) := by
  have h2 : decide (20000 < (n : Int)) = true ∨ (decide (20000 < (n : Int)) = false ∧ decide (20000 < (n' : Int)) = true) ∨ (decide (20000 < (n : Int)) = false ∧ decide (20000 < (n' : Int)) = false ∧ decide (more < 1) = true) ∨ (decide (20000 < (n : Int)) = false ∧ decide (20000 < (n' : Int)) = false ∧ decide (more < 1) = false ∧ decide (100 < more) = true) := by
    simp only [decide_eq_true_eq, decide_eq_false_iff_not]; omega
  clear h
  rcases h2 with h1 | ⟨h1, h2⟩ | ⟨h1, h2, h3⟩ | ⟨h1, h2, h3, h4⟩
  all_goals
    go_enter Try.func4, Try.ntmps4
    go_wp2_with (go_at_call 8; refine (live_from ((below_alloc w _).alloc (by simp) _)).mono ?_; rintro e w1 ⟨rfl, hb1⟩)
    go_ret
    exact ⟨rfl, hb1⟩

/-- What is known of memory behind the two boxes. -/
theorem boxes_rd {w : World} {A : Option Addr} {l : List UInt8} (hr : Rd w A l) (o1 o2 : Obj) : Rd ((w.alloc o1).alloc o2) A l := hr.below ((below_alloc _ _).alloc (by simp) _)

theorem blk_new_at {w : World} {n : Nat} (h : n = w.heap.size) (t : TypeId) (cs : Array Value) : Blk (w.alloc (.cells cs t)) n t cs := by
  subst h
  exact Blk.new _ _ _

theorem get_short {l : List UInt8} (h : l.length < 64) : getP l = none := by
  unfold getP room
  rw [if_pos]
  rw [if_pos (by omega)]

theorem get_shape {A : Option Addr} {n c : Nat} {l : List UInt8} {w : World} (hc : Calls Try.prog 11 #[.slice A n c] w (GetEnds w l)) :
    Calls Try.prog 11 #[.slice A n c] w fun e w' => ∃ (k num : Int) (B : Option Addr) (m cB : Nat) (er : Int), e = .returned (.tuple #[.agg #[.int .u8 k, .int .u64 num, .slice B m cB], .int .i64 er]) ∧ Below w.heap.size w w' :=
  hc.mono fun e w' ⟨hb, hh⟩ => by
    rcases hh with ⟨_, h1⟩ | ⟨k', num', load', B, cB, _, h1, _⟩
    · exact ⟨_, _, _, _, _, _, h1, hb⟩
    · exact ⟨_, _, _, _, _, _, h1, hb⟩
theorem put_shape {size : Int} {kind num : Nat} {A : Option Addr} {n c : Nat} {load : List UInt8} {w : World} (hc : Calls Try.prog 9 #[.int .i64 size, .agg #[.int .u8 kind, .int .u64 num, .slice A n c]] w (PutEnds w size kind num load)) :
    Calls Try.prog 9 #[.int .i64 size, .agg #[.int .u8 kind, .int .u64 num, .slice A n c]] w fun e w' => ∃ (B : Option Addr) (m cB : Nat) (er : Int), e = .returned (.tuple #[.slice B m cB, .int .i64 er]) ∧ Below w.heap.size w w' :=
  hc.mono fun e w' ⟨hb, hh⟩ => by
    rcases hh with ⟨_, h1⟩ | ⟨_, g, h1, _⟩
    · exact ⟨_, _, _, _, h1, hb⟩
    · exact ⟨_, _, _, _, h1, hb⟩

/-- The two boxes. -/
structure UnM (w : World) (b1 b2 : Array Value) (W : World) : Prop where
  bel : Below w.heap.size w W
  box1 : Blk W w.heap.size 25 b1
  box2 : Blk W (w.heap.size + 1) 25 b2
theorem UnM.below {w W W' : World} {b1 b2 : Array Value} (h : UnM w b1 b2 W) (hb : Below W.heap.size W W') : UnM w b1 b2 W' :=
  ⟨below_step h.bel hb, h.box1.keep hb, h.box2.keep hb⟩
theorem un_facts {w W : World} {a0 a1 a2 b0 b1 b2 : Value} {g g' s : Nat} {pl pl' : List UInt8} (h : UnM w #[a0, a1, a2] #[b0, b1, b2] W) (h1 : Rd W (some ⟨g, 0, none⟩) pl) (h2 : Rd W (some ⟨g', 0, none⟩) pl') (hl : pl.length = s) (hl' : pl'.length = s) :
    W.cell? ⟨w.heap.size, 0, none⟩ = some a0 ∧ W.cell? ⟨w.heap.size, 1, none⟩ = some a1 ∧ W.cell? ⟨w.heap.size, 2, none⟩ = some a2 ∧
      W.cell? ⟨w.heap.size + 1, 0, none⟩ = some b0 ∧ W.cell? ⟨w.heap.size + 1, 1, none⟩ = some b1 ∧ W.cell? ⟨w.heap.size + 1, 2, none⟩ = some b2 ∧
      (convert 23 9 (.slice (some ⟨g, 0, none⟩) s s)).run Try.prog W = .ok (.string ⟨pl.toArray⟩) W ∧ (convert 23 9 (.slice (some ⟨g', 0, none⟩) s s)).run Try.prog W = .ok (.string ⟨pl'.toArray⟩) W :=
  ⟨h.box1.cell 0, h.box1.cell 1, h.box1.cell 2, h.box2.cell 0, h.box2.cell 1, h.box2.cell 2, run_str Try.underlying23 Try.underlying5 Try.underlying9 W _ s s pl hl h1, run_str Try.underlying23 Try.underlying5 Try.underlying9 W _ s s pl' hl' h2⟩

set_option maxHeartbeats 800000 in
theorem unlike_in (size : Int) (kind num kind' num' : Nat) (A A' : Option Addr) (n c n' c' : Nat) (load load' : List UInt8) (more : Int) (w : World) (h1 : n ≤ 20000) (h2 : n' ≤ 20000) (h3 : 1 ≤ more) (h4 : more ≤ 100)
    (hk : kind < 256) (hnum : num < 18446744073709551616) (hl : load.length = n) (hr : Rd w A load) (hk' : kind' < 256) (hnum' : num' < 18446744073709551616) (hl' : load'.length = n') (hr' : Rd w A' load') :
    Calls Try.prog 4 #[.int .i64 size, .agg #[.int .u8 kind, .int .u64 num, .slice A n c], .agg #[.int .u8 kind', .int .u64 num', .slice A' n' c'], .int .i64 more] w (Yes w) := by
  have d1 : decide (20000 < (n : Int)) = false := by simp; omega
  have d2 : decide (20000 < (n' : Int)) = false := by simp; omega
  have d3 : decide (more < 1) = false := by simp; omega
  have d4 : decide (100 < more) = false := by simp; omega
  have HL := Lib.hid hl
  have HL' := Lib.hid hl'
  clear hl hl'
  have HP := Lib.hid (put_any size kind num A n c load ((w.alloc (.cells #[.int .u8 (kind : Int), .int .u64 (num : Int), .slice A n c] 25)).alloc (.cells #[.int .u8 (kind' : Int), .int .u64 (num' : Int), .slice A' n' c'] 25)) hk hnum HL.out (boxes_rd hr _ _))
  rcases hp : putP size kind num load with ⟨pe, pl⟩
  rcases hp' : putP size kind' num' load' with ⟨pe', pl'⟩
  by_cases hpe : pe = 0
  · subst hpe
    obtain ⟨s, rfl, h64, h4096, hk0, hn⟩ := putP_zero hp
    have HG := Lib.hid (put_good hp HP.out)
    clear HP
    go_enter Try.func4, Try.ntmps4
    go_upto_region 4 with (go_at_call 9; refine HG.out.mono ?_; rintro e w1 ⟨g, rfl, hb1, hg1, hB1, hlen1⟩)
    have hbx : UnM w #[.int .u8 (kind : Int), .int .u64 (num : Int), .slice A n c] #[.int .u8 (kind' : Int), .int .u64 (num' : Int), .slice A' n' c'] w1 :=
      ⟨((below_alloc w _).alloc (by simp) _).trans (hb1.mono (by simp; omega)), ((Blk.new w _ _).alloc _).keep hb1, (blk_new_at (by simp) _ _).keep hb1⟩
    have hrd1 : Rd w1 (some ⟨g, 0, none⟩) pl := by have := hB1.rd0 s; rwa [List.take_of_length_le (by omega)] at this
    have HLn := Lib.hid hlen1
    clear hb1 hg1 hB1 hlen1 HG
    have hx0 := hbx.box2.cell 0
    have hx1 := hbx.box2.cell 1
    have hx2 := hbx.box2.cell 2
    have HM := Lib.hid hbx
    clear hbx
    have HP' := Lib.hid (put_any s kind' num' A' n' c' load' w1 hk' hnum' HL'.out (hr'.below HM.out.bel))
    by_cases hpe' : pe' = 0
    · subst hpe'
      obtain ⟨s2, hs2, _, _, hk0', hn'⟩ := putP_zero hp'
      obtain rfl : s = s2 := by omega
      have HG' := Lib.hid (put_good hp' HP'.out)
      clear HP' hs2
      have hpl : pl = sealed s kind num load := by
        have h9 := putP_ok (num := num) (load := load) h64 h4096 hk0 hn
        rw [hp] at h9
        injection h9
      have hpl' : pl' = sealed s kind' num' load' := by
        have h9 := putP_ok (num := num') (load := load') h64 h4096 hk0' hn'
        rw [hp'] at h9
        injection h9
      have Hiff := Lib.hid (show (pl == pl') = sameB kind kind' num num' load load' by
        rw [Bool.eq_iff_iff, beq_iff_eq, hpl, hpl', sealed_inj h64 h4096 hk0 hk hnum hn hk0' hk' hnum' hn']
        simp [sameB])
      clear hp hp' hpl hpl'
      go_upto_region 7 with (first
        | (go_at_call 9; refine HG'.out.mono ?_; rintro e w2 ⟨g', rfl, hb2, hg2, hB2, hlen2⟩)
        | (go_at_call 10; refine (num_any _ _).mono ?_; rintro e w' ⟨rfl, rfl⟩))
      have hrd2 : Rd w2 (some ⟨g', 0, none⟩) pl' := by have := hB2.rd0 s; rwa [List.take_of_length_le (by omega)] at this
      have hM2 := HM.out.below hb2
      have hrd1 := hrd1.below hb2
      have HLn' := Lib.hid hlen2
      clear hb2 hg2 hB2 hlen2 HG' HM hx0 hx1 hx2
      have HS := Lib.hid (fun W (hb : Below w2.heap.size w2 W) => same_any kind kind' num num' A A' n c n' c' load load' W HL.out HL'.out (hr.below (below_step hM2.bel hb)) (hr'.below (below_step hM2.bel hb)))
      have HF := Lib.hid (fun W (hb : Below w2.heap.size w2 W) => un_facts (hM2.below hb) (hrd1.below hb) (hrd2.below hb) HLn.out HLn'.out)
      obtain ⟨f0, f1, f2, f3, f4, f5, f6, f7⟩ := HF.out w2.drew (Below.refl _ _).drew
      go_region_held3 (fun W => W.cell? ⟨w.heap.size, 0, none⟩ = some (.int .u8 (kind : Int)) ∧ W.cell? ⟨w.heap.size, 1, none⟩ = some (.int .u64 (num : Int)) ∧ W.cell? ⟨w.heap.size, 2, none⟩ = some (.slice A n c) ∧
          W.cell? ⟨w.heap.size + 1, 0, none⟩ = some (.int .u8 (kind' : Int)) ∧ W.cell? ⟨w.heap.size + 1, 1, none⟩ = some (.int .u64 (num' : Int)) ∧ W.cell? ⟨w.heap.size + 1, 2, none⟩ = some (.slice A' n' c') ∧
          (convert 23 9 (.slice (some ⟨g, 0, none⟩) s s)).run Try.prog W = .ok (.string ⟨pl.toArray⟩) W ∧ (convert 23 9 (.slice (some ⟨g', 0, none⟩) s s)).run Try.prog W = .ok (.string ⟨pl'.toArray⟩) W)
        (first | exact ⟨f0, f1, f2, f3, f4, f5, f6, f7⟩ | exact HF.out _ hb3) ((first
        | (go_at_call 12
           refine (HS.out w2.drew (Below.refl _ _).drew).mono ?_
           rintro e w3 ⟨rfl, hb3'⟩
           have hb3 : Below w2.heap.size w2 w3 := (Below.refl _ _).drew.trans hb3')))
      rw [← Hiff.out]
      clear f0 f1 f2 f3 f4 f5 f6 f7 HF HS Hiff
      have hrd3 := hrd1.below hb3
      have hbw3 := below_step hM2.bel hb3
      clear hrd1 hrd2 hM2 hb3' hb3
      obtain ⟨mo, rfl⟩ := Int.eq_ofNat_of_zero_le (show 0 ≤ more by omega)
      by_cases hms : mo ≤ s
      · have hmin : min (mo : Int) (s : Int) = (mo : Int) := by omega
        have q1 : (0 : Int) ≤ (s : Int) - (mo : Int) := by omega
        have q2 : (s : Int) - (mo : Int) ≤ (s : Int) := by omega
        have q3 : ((s : Int) - (mo : Int)).toNat = s - mo := by omega
        have HGt := Lib.hid (get_any (some ⟨g, 0, none⟩) (s - mo) s (pl.take (s - mo)) w3 (by rw [List.length_take, HLn.out]; omega) (by omega) (by omega) (by have := hrd3.sub 0 (s - mo); simpa using this))
        by_cases h64' : 64 ≤ s - mo
        · have q5 : decide (64 ≤ (s : Int) - (mo : Int)) = true := by simp; omega
          cases hbb : (pl == pl')
          all_goals
            clear hbb
            go_wp2_with (first
              | (go_at_call 11; refine (get_shape HGt.out).mono ?_; rintro e w4 ⟨k5, n5, B5, l5, c5, er, rfl, hb4⟩)
              | (go_at_call 10; refine (num_any _ _).mono ?_; rintro e w' ⟨rfl, rfl⟩)
              | (go_at_call 8; refine (live_from (below_step (below_step hbw3 hb4) (below_alloc w4 _))).mono ?_; rintro e w5 ⟨rfl, hb5⟩))
            all_goals
              go_ret
              exact ⟨rfl, hb5⟩
        · have HGn := Lib.hid (get_bad (get_short (by rw [List.length_take]; omega)) HGt.out)
          clear HGt
          cases hbb : (pl == pl')
          all_goals
            clear hbb
            go_wp2_with (first
              | (go_at_call 11; refine HGn.out.mono ?_; rintro e w4 ⟨rfl, hb4⟩)
              | (go_at_call 10; refine (num_any _ _).mono ?_; rintro e w' ⟨rfl, rfl⟩)
              | (go_at_call 8; refine (live_from (below_step (below_step hbw3 hb4) (below_alloc w4 _))).mono ?_; rintro e w5 ⟨rfl, hb5⟩))
            go_ret
            exact ⟨rfl, hb5⟩
      · have HGn := Lib.hid (get_bad (get_short (l := []) (by simp)) (get_any (some ⟨g, 0, none⟩) 0 s [] w3 rfl (by omega) (by omega) (.inl rfl)))
        have hmin : min (mo : Int) (s : Int) = (s : Int) := by omega
        cases hbb : (pl == pl')
        all_goals
          clear hbb
          go_wp2_with (first
            | (go_at_call 11; go_must (with_reducible refine HGn.out.mono ?_); rintro e w4 ⟨rfl, hb4⟩)
            | (go_at_call 10; refine (num_any _ _).mono ?_; rintro e w' ⟨rfl, rfl⟩)
            | (go_at_call 8; refine (live_from (below_step (below_step hbw3 hb4) (below_alloc w4 _))).mono ?_; rintro e w5 ⟨rfl, hb5⟩))
          go_ret
          exact ⟨rfl, hb5⟩
    · have hb' : ((pe' : Int) != 0) = true := by rw [bne_iff_ne]; omega
      have HB' := Lib.hid (put_bad hp' hpe' HP'.out)
      have Hbel := Lib.hid HM.out.bel
      clear HP' hp hp' hpe'
      go_wp2_with (first
        | (go_at_call 9; refine HB'.out.mono ?_; rintro e w2 ⟨rfl, hb2⟩)
        | (go_at_call 10; refine (num_any _ _).mono ?_; rintro e w' ⟨rfl, rfl⟩)
        | (go_at_call 8; refine (live_from (below_step Hbel.out hb2)).mono ?_; rintro e w3 ⟨rfl, hb3⟩))
      go_ret
      exact ⟨rfl, hb3⟩
  · have hb : ((pe : Int) != 0) = true := by rw [bne_iff_ne]; omega
    have HB := Lib.hid (put_bad hp hpe HP.out)
    clear HP hp hp' hpe
    go_enter Try.func4, Try.ntmps4
    go_upto_region 4 with (go_at_call 9; refine HB.out.mono ?_; rintro e w1 ⟨rfl, hb1⟩)
    have hbx : UnM w #[.int .u8 (kind : Int), .int .u64 (num : Int), .slice A n c] #[.int .u8 (kind' : Int), .int .u64 (num' : Int), .slice A' n' c'] w1 :=
      ⟨((below_alloc w _).alloc (by simp) _).trans (hb1.mono (by simp; omega)), ((Blk.new w _ _).alloc _).keep hb1, (blk_new_at (by simp) _ _).keep hb1⟩
    have hx0 := hbx.box2.cell 0
    have hx1 := hbx.box2.cell 1
    have hx2 := hbx.box2.cell 2
    have Hbel := Lib.hid hbx.bel
    have HP' := Lib.hid (put_any size kind' num' A' n' c' load' w1 hk' hnum' HL'.out (hr'.below hbx.bel))
    clear hbx HB
    go_wp2_with (first
      | (go_at_call 9; refine (put_shape HP'.out).mono ?_; rintro e w2 ⟨B5, l5, c5, er, rfl, hb2⟩)
      | (go_at_call 10; refine (num_any _ _).mono ?_; rintro e w' ⟨rfl, rfl⟩)
      | (go_at_call 8; refine (live_from (below_step Hbel.out hb2)).mono ?_; rintro e w3 ⟨rfl, hb3⟩))
    all_goals
      go_ret
      exact ⟨rfl, hb3⟩

/-- SealUnlike at every input. -/
theorem unlike_any (size : Int) (kind num kind' num' : Nat) (A A' : Option Addr) (n c n' c' : Nat) (load load' : List UInt8) (more : Int) (w : World)
    (hk : kind < 256) (hnum : num < 18446744073709551616) (hl : load.length = n) (hr : Rd w A load) (hk' : kind' < 256) (hnum' : num' < 18446744073709551616) (hl' : load'.length = n') (hr' : Rd w A' load') :
    Calls Try.prog 4 #[.int .i64 size, .agg #[.int .u8 kind, .int .u64 num, .slice A n c], .agg #[.int .u8 kind', .int .u64 num', .slice A' n' c'], .int .i64 more] w (Yes w) := by
  by_cases h : 20000 < n ∨ 20000 < n' ∨ more < 1 ∨ 100 < more
  · exact unlike_out size kind num kind' num' A A' n c n' c' more w h
  · exact unlike_in size kind num kind' num' A A' n c n' c' load load' more w (by omega) (by omega) (by omega) (by omega) hk hnum hl hr hk' hnum' hl' hr'
end Go.Proofs.Ythdhinhedgcbcaa
