/- The program's term.Compare is the order of terms (ArG's text, for seats without arith). -/
import Derived.Test.YtmpknhdfglbocaaGreatArB
namespace Go.Proofs.YtmpknhdfglbocaaGreat
open Go.RowKit
set_option linter.unusedVariables false

set_option maxRecDepth 100000 in
set_option maxHeartbeats 1000000 in
theorem isnan64 (n : Int) (w : World) : Calls Tryz.prog 91 #[.int .i64 n] w fun e w' => e = .returned (.bool false) ∧ w = w' := by
  go_enter Tryz.func91, Tryz.ntmps91
  go_wp2
  exact bodyPost_ret (v := .bool false) (by simp [results, Tryz.results91, go_sem]) rfl ⟨rfl, rfl⟩
set_option maxRecDepth 100000 in
set_option maxHeartbeats 1000000 in
theorem compare64 (a b : Int) (w : World) : Calls Tryz.prog 74 #[.int .i64 a, .int .i64 b] w fun e w' => e = .returned (.int .i64 (cmpI a b)) ∧ w = w' := by
  by_cases h1 : a < b
  · have hr : cmpI a b = -1 := by simp [cmpI, h1]
    rw [hr]
    have d1 : decide (a < b) = true := by simp; omega
    clear hr
    go_enter Tryz.func74, Tryz.ntmps74
    go_wp2_with (go_at_call 91; refine (isnan64 _ _).mono ?_; rintro e w9 ⟨rfl, rfl⟩)
    exact bodyPost_ret (v := .int .i64 (-1)) (by simp [results, Tryz.results74, go_sem]) rfl ⟨rfl, rfl⟩
  · have d1 : decide (a < b) = false := by simp; omega
    by_cases h2 : b < a
    · have hr : cmpI a b = 1 := by simp [cmpI, h1, h2]
      rw [hr]
      have d2 : decide (b < a) = true := by simp; omega
      clear hr h1
      go_enter Tryz.func74, Tryz.ntmps74
      go_wp2_with (go_at_call 91; refine (isnan64 _ _).mono ?_; rintro e w9 ⟨rfl, rfl⟩)
      exact bodyPost_ret (v := .int .i64 1) (by simp [results, Tryz.results74, go_sem]) rfl ⟨rfl, rfl⟩
    · have hr : cmpI a b = 0 := by simp [cmpI, h1, h2]
      rw [hr]
      have d2 : decide (b < a) = false := by simp; omega
      clear hr h1
      go_enter Tryz.func74, Tryz.ntmps74
      go_wp2_with (go_at_call 91; refine (isnan64 _ _).mono ?_; rintro e w9 ⟨rfl, rfl⟩)
      exact bodyPost_ret (v := .int .i64 0) (by simp [results, Tryz.results74, go_sem]) rfl ⟨rfl, rfl⟩
theorem cmpS_lib : ∀ s t : List UInt8, Lib.compareBytes s t = cmpS s t
  | [], [] => rfl
  | [], b :: t => by simp [Lib.compareBytes, cmpS, Op.bytesLess]
  | a :: s, [] => by simp [Lib.compareBytes, cmpS, Op.bytesLess]
  | a :: s, b :: t => by
    have ih := cmpS_lib s t
    unfold cmpS at ih ⊢
    simp only [Lib.compareBytes, Op.bytesLess, ih]
    by_cases h1 : a < b
    · simp [h1]
    · by_cases h2 : b < a
      · have : a ≠ b := fun e => by subst e; exact h1 h2
        simp [h1, h2, this]
      · have : a = b := by
          rw [UInt8.lt_iff_toNat_lt] at h1 h2
          exact UInt8.toNat_inj.1 (by omega)
        simp [this]
section
variable {W V V' : World} {u u1 u2 : Value} {t t1 t2 : TV}
def orP (a b c d : Int) : Int := if a ≠ 0 then a else if b ≠ 0 then b else if c ≠ 0 then c else d
set_option maxRecDepth 100000 in
set_option maxHeartbeats 2000000 in
theorem or_v (a b c d : Int) {g : Nat} (hB : Blk V g 3 #[.int .i64 a, .int .i64 b, .int .i64 c, .int .i64 d]) : Calls Tryz.prog 72 #[.slice (some ⟨g, 0, none⟩) 4 4] V fun e w' => e = .returned (.int .i64 (orP a b c d)) ∧ V = w' := by
  have c0 := hB.cell 0
  have c1 := hB.cell 1
  have c2 := hB.cell 2
  have c3 := hB.cell 3
  clear hB
  unfold orP
  by_cases h0 : a = 0
  · by_cases h1 : b = 0
    · by_cases h2 : c = 0
      · by_cases h3 : d = 0
        · subst h0 h1 h2 h3
          go_enter Tryz.func72, Tryz.ntmps72
          go_upto_region 3 with (fail)
          refine wp_loop_rounds 5 ?_
          repeat (rw [rounds_succ]; go_wp2_with (fail))
          exact bodyPost_ret (v := .int .i64 0) (by simp [results, Tryz.results72, go_sem]) rfl ⟨by simp, rfl⟩
        · subst h0 h1 h2
          go_enter Tryz.func72, Tryz.ntmps72
          go_upto_region 3 with (fail)
          refine wp_loop_rounds 5 ?_
          repeat (rw [rounds_succ]; go_wp2_with (fail))
          exact bodyPost_ret (v := .int .i64 d) (by simp [results, Tryz.results72, go_sem]) rfl ⟨by simp, rfl⟩
      · subst h0 h1
        go_enter Tryz.func72, Tryz.ntmps72
        go_upto_region 3 with (fail)
        refine wp_loop_rounds 5 ?_
        repeat (rw [rounds_succ]; go_wp2_with (fail))
        exact bodyPost_ret (v := .int .i64 c) (by simp [results, Tryz.results72, go_sem]) rfl ⟨by simp, rfl⟩
    · subst h0
      go_enter Tryz.func72, Tryz.ntmps72
      go_upto_region 3 with (fail)
      refine wp_loop_rounds 5 ?_
      repeat (rw [rounds_succ]; go_wp2_with (fail))
      exact bodyPost_ret (v := .int .i64 b) (by simp [results, Tryz.results72, go_sem]) rfl ⟨by simp, rfl⟩
  · skip
    go_enter Tryz.func72, Tryz.ntmps72
    go_upto_region 3 with (fail)
    refine wp_loop_rounds 5 ?_
    repeat (rw [rounds_succ]; go_wp2_with (fail))
    exact bodyPost_ret (v := .int .i64 a) (by simp [results, Tryz.results72, go_sem]) rfl ⟨by simp, rfl⟩

def PCmpItem (w0 : World) (l m : List TV) : Prop := ∀ (k : Nat) (h : k < l.length) (h' : k < m.length) (A : Option Addr) (c : Nat) (A' : Option Addr) (c' : Nat) (W' : World), Below w0.heap.size w0 W' → RdM w0 A c l[k].items → RdM w0 A' c' m[k].items →
    Calls Tryz.prog 66 #[.agg #[.int .i64 l[k].kind, .int .i64 l[k].int, .string ⟨l[k].name.toArray⟩, .slice A l[k].items.length c], .agg #[.int .i64 m[k].kind, .int .i64 m[k].int, .string ⟨m[k].name.toArray⟩, .slice A' m[k].items.length c']] W' (CmpEnds W' (l[k].cmp m[k]))
set_option maxRecDepth 100000 in
set_option maxHeartbeats 4000000 in
theorem cfunc_yes (l l' : List TV) (A : Option Addr) (len c : Nat) (A' : Option Addr) (c' : Nat) (w0 W : World) (hlc : len ≤ 9223372036854775807) (hlen : l.length = len) (hlen' : l'.length = len) (hW : Below w0.heap.size w0 W) (hR : RdM w0 A c l) (hR' : RdM w0 A' c' l') (hit : PCmpItem w0 l l') :
    Calls Tryz.prog 76 #[.slice A len c, .slice A' len c', .func (.func 66) #[] #[]] W (CmpEnds W (TV.cmpL l l')) := by
  have HIT := Lib.hid hit
  have HLEN := Lib.hid hlen
  have HLEN' := Lib.hid hlen'
  clear hit hlen hlen'
  go_enter Tryz.func76, Tryz.ntmps76
  go_upto_region 2 with (fail)
  go_loopw [6, 13] (fun r i wr => ∃ j : Nat, j ≤ len ∧ i = .int .i64 j ∧ r = .int .i64 0 ∧ Hid (TV.cmpL (l.take j) (l'.take j) = 0) ∧ Below W.heap.size W wr) (fun _ i _ => len - (intOf i).toNat)
  case atStart => exact ⟨0, Nat.zero_le _, rfl, rfl, by exact (by simp [TV.cmpL] : TV.cmpL (l.take 0) (l'.take 0) = 0), Below.refl _ _⟩
  case round =>
    obtain ⟨j, hj, rfl, rfl, HZ, hC⟩ := hrel
    have hbr := below_step hW hC
    have HC0 := Lib.hid hC
    by_cases hlt : j < len
    · have hd8 : decide (j < len) = true := by simp; omega
      have hd6 : decide (len ≤ j) = false := by simp; omega
      have hkl : j < l.length := by rw [HLEN.out]; exact hlt
      have hkl' : j < l'.length := by rw [HLEN'.out]; exact hlt
      obtain ⟨b, o, A1, c1, rfl, h0, h1, h2, h3, hR1⟩ := hR.item hkl
      obtain ⟨b', o', A2, c2, rfl, g0, g1, g2, g3, hR2⟩ := hR'.item hkl'
      have e0 := (hbr.cell (World.block_lt_of_cell? w0 _ h0)).trans h0
      have e1 := (hbr.cell (World.block_lt_of_cell? w0 _ h1)).trans h1
      have e2 := (hbr.cell (World.block_lt_of_cell? w0 _ h2)).trans h2
      have e3 := (hbr.cell (World.block_lt_of_cell? w0 _ h3)).trans h3
      have f0 := (hbr.cell (World.block_lt_of_cell? w0 _ g0)).trans g0
      have f1 := (hbr.cell (World.block_lt_of_cell? w0 _ g1)).trans g1
      have f2 := (hbr.cell (World.block_lt_of_cell? w0 _ g2)).trans g2
      have f3 := (hbr.cell (World.block_lt_of_cell? w0 _ g3)).trans g3
      have p3 : b' < (wr.heap.size) := World.block_lt_of_cell? wr _ f0
      have HC := Lib.hid (fun V (h : Below w0.heap.size w0 V) => HIT.out j hkl hkl' A1 c1 A2 c2 V h hR1 hR2)
      have HBR := Lib.hid hbr
      have HNX := Lib.hid (show TV.cmpL (l.take (j + 1)) (l'.take (j + 1)) = l[j].cmp l'[j] by rw [cmpL_take l l' j hkl hkl', HZ.out]; simp)
      have HEA := Lib.hid (fun (hz0 : ¬ l[j].cmp l'[j] = 0) => show TV.cmpL l l' = l[j].cmp l'[j] by rw [cmpL_early l l' (j + 1) (by rw [HNX.out]; exact hz0), HNX.out])
      generalize l[j] = ti at *
      generalize l'[j] = tj at *
      generalize ti.cmp tj = z at *
      generalize ti.items.length = tl at *
      generalize tj.items.length = tm at *
      have q1 : (0 : Int) ≤ (j : Int) := by omega
      have q2 : (j : Int) < (len : Int) := by omega
      clear h0 h1 h2 h3 g0 g1 g2 g3 hkl hkl' hR1 hR2 hbr hC
      by_cases hz0 : z = 0
      · subst hz0
        go_wp2_with (go_at_call 66; refine (HC.out _ (below_step (below_step HBR.out (below_alloc _ _)) (below_alloc _ _))).mono ?_; rintro e w5 ⟨rfl, hb5⟩)
        go_roundw
        case rel => exact ⟨j + 1, by omega, by go_num, rfl, HNX.out, below_step (below_step (below_step HC0.out (below_alloc _ _)) (below_alloc _ _)) hb5⟩
        case measure => simp [intOf]; omega
      · have hd7 : (z == 0) = false := by simp [hz0]
        go_wp2_with (go_at_call 66; refine (HC.out _ (below_step (below_step HBR.out (below_alloc _ _)) (below_alloc _ _))).mono ?_; rintro e w5 ⟨rfl, hb5⟩)
        go_ret
        exact ⟨by rw [HEA.out hz0]; rfl, below_step (below_step (below_step HC0.out (below_alloc _ _)) (below_alloc _ _)) hb5⟩
    · obtain rfl : j = len := by omega
      have hd8 : decide (j < j) = false := by simp
      have HE : Hid (TV.cmpL l l' = 0) := by
        have := HZ.out
        rw [List.take_of_length_le (by rw [HLEN.out]; exact Nat.le_refl _), List.take_of_length_le (by rw [HLEN'.out]; exact Nat.le_refl _)] at this
        exact this
      clear HZ
      go_wp2_with (fail)
      go_ret
      exact ⟨by rw [HE.out]; rfl, HC0.out⟩

theorem blk_newDrew (w : World) (t : TypeId) (cs : Array Value) : Blk (w.alloc (.cells cs t)).drew w.heap.size t cs := (Blk.new w t cs).keep (Below.refl _ _).drew
theorem C2.cells {k n : Int} {s : List UInt8} {A : Option Addr} {len c : Nat} {k' n' : Int} {s' : List UInt8} {A' : Option Addr} {len' c' : Nat} (h : C2 W #[.int .i64 k, .int .i64 n, .string ⟨s.toArray⟩, .slice A len c] #[.int .i64 k', .int .i64 n', .string ⟨s'.toArray⟩, .slice A' len' c'] V) :
    V.cell? ⟨W.heap.size, 0, none⟩ = some (.int .i64 k) ∧ V.cell? ⟨W.heap.size, 1, none⟩ = some (.int .i64 n) ∧ V.cell? ⟨W.heap.size, 2, none⟩ = some (.string ⟨s.toArray⟩) ∧ V.cell? ⟨W.heap.size, 3, none⟩ = some (.slice A len c) ∧ V.cell? ⟨W.heap.size + 1, 0, none⟩ = some (.int .i64 k') ∧ V.cell? ⟨W.heap.size + 1, 1, none⟩ = some (.int .i64 n') ∧ V.cell? ⟨W.heap.size + 1, 2, none⟩ = some (.string ⟨s'.toArray⟩) ∧ V.cell? ⟨W.heap.size + 1, 3, none⟩ = some (.slice A' len' c') :=
  ⟨h.x.cell 0, h.x.cell 1, h.x.cell 2, h.x.cell 3, h.y.cell 0, h.y.cell 1, h.y.cell 2, h.y.cell 3⟩
set_option maxRecDepth 100000 in
set_option maxHeartbeats 4000000 in
theorem pcmp_head (k n : Int) (s : List UInt8) (A : Option Addr) (len c : Nat) (k' n' : Int) (s' : List UInt8) (A' : Option Addr) (len' c' : Nat) (W : World) (z : Int) (hz : headC k n s len k' n' s' len' = z) {zl : Int} (hcf : z = 0 → ∀ V, Below W.heap.size W V → Calls Tryz.prog 76 #[.slice A len c, .slice A' len' c', .func (.func 66) #[] #[]] V (CmpEnds V zl)) :
    Calls Tryz.prog 66 #[.agg #[.int .i64 k, .int .i64 n, .string ⟨s.toArray⟩, .slice A len c], .agg #[.int .i64 k', .int .i64 n', .string ⟨s'.toArray⟩, .slice A' len' c']] W (CmpEnds W (if z ≠ 0 then z else zl)) := by
  have HF := Lib.hid hcf
  have HZ := Lib.hid hz
  clear hcf hz
  go_enter Tryz.func66, Tryz.ntmps66
  go_upto_region 1 with (fail)
  refine wp_world (fun V => C2 W #[.int .i64 k, .int .i64 n, .string ⟨s.toArray⟩, .slice A len c] #[.int .i64 k', .int .i64 n', .string ⟨s'.toArray⟩, .slice A' len' c'] V) (C2.new W _ _) ?_
  intro V0 hV0
  have H00 : Hid (C2 W #[.int .i64 k, .int .i64 n, .string ⟨s.toArray⟩, .slice A len c] #[.int .i64 k', .int .i64 n', .string ⟨s'.toArray⟩, .slice A' len' c'] V0.drew) := hV0.keep (Below.refl _ _).drew
  have HK : Hid (∀ V, C2 W #[.int .i64 k, .int .i64 n, .string ⟨s.toArray⟩, .slice A len c] #[.int .i64 k', .int .i64 n', .string ⟨s'.toArray⟩, .slice A' len' c'] V → (V.cell? ⟨W.heap.size, 0, none⟩ = some (.int .i64 k) ∧ V.cell? ⟨W.heap.size, 1, none⟩ = some (.int .i64 n) ∧ V.cell? ⟨W.heap.size, 2, none⟩ = some (.string ⟨s.toArray⟩) ∧ V.cell? ⟨W.heap.size, 3, none⟩ = some (.slice A len c) ∧ V.cell? ⟨W.heap.size + 1, 0, none⟩ = some (.int .i64 k') ∧ V.cell? ⟨W.heap.size + 1, 1, none⟩ = some (.int .i64 n') ∧ V.cell? ⟨W.heap.size + 1, 2, none⟩ = some (.string ⟨s'.toArray⟩) ∧ V.cell? ⟨W.heap.size + 1, 3, none⟩ = some (.slice A' len' c')) ∧ C2 W #[.int .i64 k, .int .i64 n, .string ⟨s.toArray⟩, .slice A len c] #[.int .i64 k', .int .i64 n', .string ⟨s'.toArray⟩, .slice A' len' c'] V) := fun V h => ⟨h.cells, h⟩
  have HKA : Hid (∀ V o, C2 W #[.int .i64 k, .int .i64 n, .string ⟨s.toArray⟩, .slice A len c] #[.int .i64 k', .int .i64 n', .string ⟨s'.toArray⟩, .slice A' len' c'] V → ((World.alloc V o).cell? ⟨W.heap.size, 0, none⟩ = some (.int .i64 k) ∧ (World.alloc V o).cell? ⟨W.heap.size, 1, none⟩ = some (.int .i64 n) ∧ (World.alloc V o).cell? ⟨W.heap.size, 2, none⟩ = some (.string ⟨s.toArray⟩) ∧ (World.alloc V o).cell? ⟨W.heap.size, 3, none⟩ = some (.slice A len c) ∧ (World.alloc V o).cell? ⟨W.heap.size + 1, 0, none⟩ = some (.int .i64 k') ∧ (World.alloc V o).cell? ⟨W.heap.size + 1, 1, none⟩ = some (.int .i64 n') ∧ (World.alloc V o).cell? ⟨W.heap.size + 1, 2, none⟩ = some (.string ⟨s'.toArray⟩) ∧ (World.alloc V o).cell? ⟨W.heap.size + 1, 3, none⟩ = some (.slice A' len' c')) ∧ C2 W #[.int .i64 k, .int .i64 n, .string ⟨s.toArray⟩, .slice A len c] #[.int .i64 k', .int .i64 n', .string ⟨s'.toArray⟩, .slice A' len' c'] (World.alloc V o)) := fun V o h => ⟨(h.keep (below_alloc _ _)).cells, h.keep (below_alloc _ _)⟩
  clear hV0
  go_region_held3 (fun V => (V.cell? ⟨W.heap.size, 0, none⟩ = some (.int .i64 k) ∧ V.cell? ⟨W.heap.size, 1, none⟩ = some (.int .i64 n) ∧ V.cell? ⟨W.heap.size, 2, none⟩ = some (.string ⟨s.toArray⟩) ∧ V.cell? ⟨W.heap.size, 3, none⟩ = some (.slice A len c) ∧ V.cell? ⟨W.heap.size + 1, 0, none⟩ = some (.int .i64 k') ∧ V.cell? ⟨W.heap.size + 1, 1, none⟩ = some (.int .i64 n') ∧ V.cell? ⟨W.heap.size + 1, 2, none⟩ = some (.string ⟨s'.toArray⟩) ∧ V.cell? ⟨W.heap.size + 1, 3, none⟩ = some (.slice A' len' c')) ∧ C2 W #[.int .i64 k, .int .i64 n, .string ⟨s.toArray⟩, .slice A len c] #[.int .i64 k', .int .i64 n', .string ⟨s'.toArray⟩, .slice A' len' c'] V) (first | exact HK.out _ H00.out | exact HKA.out _ _ H00.out | exact HKA.out _ _ (And.right (by assumption)) | assumption) ((first
    | (go_at_call 73; refine (Tryz.cmp_Compare_int _ _ _).mono ?_; rintro r V9 ⟨rfl, h9⟩; subst h9)
    | (go_at_call 74; refine (compare64 _ _ _).mono ?_; rintro r V9 ⟨rfl, rfl⟩)
    | (go_at_call 75; refine (Tryz.strings_Compare _ _ _).mono ?_; rintro r V9 ⟨rfl, h9⟩; subst h9)
    | (go_at_call 72; refine (or_v _ _ _ _ (blk_newDrew _ _ _)).mono ?_; rintro r V9 ⟨rfl, rfl⟩)))
  rename_i hHeld9
  have hH9 := hHeld9.2
  clear hHeld9
  have hor : orP (Lib.compareInt k k') (cmpI n n') (Lib.compareBytes s s') (Lib.compareInt len len') = z := by rw [cmpS_lib]; exact HZ.out
  rw [hor]
  clear hor
  go_upto_region 2 with (fail)
  refine wp_world (fun V => C2 W #[.int .i64 k, .int .i64 n, .string ⟨s.toArray⟩, .slice A len c] #[.int .i64 k', .int .i64 n', .string ⟨s'.toArray⟩, .slice A' len' c'] V) hH9 ?_
  clear hH9 H00 HK HKA
  intro V hV
  have t3 := hV.x.cell 3
  have u3 := hV.y.cell 3
  have HB := Lib.hid hV.bel
  clear hV
  by_cases hz0 : z = 0
  · subst hz0
    rw [if_neg (by simp)]
    go_wp2_with (go_at_call 76; refine (HF.out rfl _ HB.out).mono ?_; rintro e w5 ⟨rfl, hb5⟩)
    go_ret
    exact ⟨rfl, below_step HB.out hb5⟩
  · have hd7 : (z == 0) = false := by simp [hz0]
    rw [if_pos hz0]
    go_wp2_with (fail)
    go_ret
    exact ⟨rfl, HB.out⟩
theorem pcmp_any (N : Nat) : ∀ (a b : TV) (A : Option Addr) (c : Nat) (A' : Option Addr) (c' : Nat) (w0 W : World), a.parts ≤ N → Below w0.heap.size w0 W → RdM w0 A c a.items → RdM w0 A' c' b.items →
    Calls Tryz.prog 66 #[.agg #[.int .i64 a.kind, .int .i64 a.int, .string ⟨a.name.toArray⟩, .slice A a.items.length c], .agg #[.int .i64 b.kind, .int .i64 b.int, .string ⟨b.name.toArray⟩, .slice A' b.items.length c']] W fun e w' => e = .returned (.int .i64 (a.cmp b)) ∧ Below W.heap.size W w' := by
  induction N with
  | zero => intro a b A c A' c' w0 W ht; have := a.parts_pos; omega
  | succ N ih =>
    intro a b A c A' c' w0 W ht hW hR hR'
    have hpe := a.parts_eq
    have hlc : a.items.length ≤ 9223372036854775807 := by have := hR.1; have := hR.2.1; omega
    rw [TV.cmp_eq]
    refine pcmp_head a.kind a.int a.name A a.items.length c b.kind b.int b.name A' b.items.length c' W _ rfl (fun hz V hV => ?_)
    obtain ⟨e1, e2, e3, e4⟩ := headC_zero.1 hz
    rw [← e4]
    exact cfunc_yes a.items b.items A a.items.length c A' c' w0 V hlc rfl e4.symm (below_step hW hV) hR hR' (fun k hk hk' A1 c1 A2 c2 W' hW' hR1 hR2 => ih a.items[k] b.items[k] A1 c1 A2 c2 w0 W' (by have := parts_item a.items k hk; omega) hW' hR1 hR2)
end
end Go.Proofs.YtmpknhdfglbocaaGreat
