/- The walk of Put of layer 3. -/
import Derived.Test.YtcnhfbckaacalaaProg
import Derived.Test.YtcnhfbckaacalaaSealA
import Derived.Test.YtcnhfbckaacalaaSum
import Derived.StillTailTactics
import Derived.Deep.QuietTactic
import Derived.BigQuiet
import Derived.Outline
import Derived.Deep.Cut
import Derived.Deep.DeepMust
import Derived.IntWalk
import Derived.Deep.RegionHeld3
namespace Go.Proofs.Ytcnhfbckaacalaa
open Go.RowKit
set_option linter.unusedVariables false

def room (n : Int) : Int := if n < 64 then 0 else if 4096 < n then 0 else n - 15

set_option maxHeartbeats 400000 in
theorem room_any (n : Int) (w : World) :
    Calls Try.prog 65 #[.int .i64 n] w fun e w' => e = .returned (.int .i64 (room n)) ∧ w = w' := by
  by_cases h1 : n < 64
  · have : room n = 0 := by unfold room; rw [if_pos h1]
    rw [this]; clear this
    go_enter Try.func65, Try.ntmps65
    go_wp2
    go_ret
    exact ⟨rfl, rfl⟩
  · by_cases h2 : 4096 < n
    · have : room n = 0 := by unfold room; rw [if_neg h1, if_pos h2]
      rw [this]; clear this
      go_enter Try.func65, Try.ntmps65
      go_wp2
      go_ret
      exact ⟨rfl, rfl⟩
    · have : room n = n - 15 := by unfold room; rw [if_neg h1, if_neg h2]
      rw [this]; clear this
      go_enter Try.func65, Try.ntmps65
      go_wp2
      go_ret
      exact ⟨rfl, rfl⟩

theorem rdl_one {W : World} {B : Option Addr} {l : List UInt8} {n c t : Nat} (h : Rd W B l) (hl : l.length = n) : RdL (W.alloc (.cells #[.slice B n c] t)) (some ⟨W.heap.size, 0, none⟩) [l] := by
  refine .inr ⟨W.heap.size, 0, rfl, fun j hj => ?_⟩
  simp at hj
  subst hj
  refine ⟨B, c, ?_, h.below (below_alloc _ _)⟩
  subst hl
  exact (Blk.new W t _).cell 0
theorem RdL.drew {W : World} {A : Option Addr} {ls : List (List UInt8)} (h : RdL W A ls) : RdL W.drew A ls := h
theorem Blk.rd0 {w : World} {g t : Nat} {l : List UInt8} (h : Blk w g t (l.map bv).toArray) (n : Nat) : Rd w (some ⟨g, 0, none⟩) (l.take n) := by
  refine .inr ⟨g, 0, rfl, fun j hj => ?_⟩
  rw [h.cell]
  have hj2 : j < l.length := by rw [List.length_take] at hj; omega
  rw [Nat.zero_add, List.getElem?_toArray, List.getElem?_map, List.getElem?_eq_getElem hj2, List.getElem_take]
  rfl

/-- Where the size or the kind may not be. -/
theorem put_arg (size : Int) (kind num : Int) (A : Option Addr) (n c : Nat) (w : World) (h : room size = 0 ∨ kind = 0) :
    Calls Try.prog 74 #[.int .i64 size, .agg #[.int .u8 kind, .int .u64 num, .slice A n c]] w fun e w' => e = .returned (.tuple #[.slice none 0 0, .int .i64 2]) ∧ Below w.heap.size w w' := by
  by_cases hr : room size = 0
  · have hR := Lib.hid hr
    have hb : (room size == 0) = true := by simp [hr]
    clear h hr
    generalize hrs : room size = r at *
    have Hrs := Lib.hid hrs
    clear hrs
    go_enter Try.func74, Try.ntmps74
    go_wp2_with (go_at_call 65; refine (room_any _ _).mono ?_; rintro e w' ⟨rfl, rfl⟩; rw [Hrs.out])
    go_ret2
    exact ⟨rfl, below_alloc _ _⟩
  · have hk : kind = 0 := h.resolve_left hr
    subst hk
    have hb : (room size == 0) = false := by simp [hr]
    have hb2 : ((0 : Int) == 0) = true := rfl
    clear h hr
    generalize hrs : room size = r at *
    have Hrs := Lib.hid hrs
    clear hrs
    go_enter Try.func74, Try.ntmps74
    go_wp2_with (go_at_call 65; refine (room_any _ _).mono ?_; rintro e w' ⟨rfl, rfl⟩; rw [Hrs.out])
    go_ret2
    exact ⟨rfl, below_alloc _ _⟩

set_option maxHeartbeats 400000 in
/-- Where the load is too long. -/
theorem put_long (size : Int) (kind num : Int) (A : Option Addr) (n c : Nat) (w : World) (h1 : room size ≠ 0) (h2 : kind ≠ 0) (h3 : room size < n) :
    Calls Try.prog 74 #[.int .i64 size, .agg #[.int .u8 kind, .int .u64 num, .slice A n c]] w fun e w' => e = .returned (.tuple #[.slice none 0 0, .int .i64 1]) ∧ Below w.heap.size w w' := by
  have hb : (room size == 0) = false := by simp [h1]
  have hb2 : (kind == 0) = false := by simp [h2]
  clear h1 h2
  generalize hrs : room size = r at *
  have Hrs := Lib.hid hrs
  clear hrs
  go_enter Try.func74, Try.ntmps74
  go_wp2_with (go_at_call 65; refine (room_any _ _).mono ?_; rintro e w' ⟨rfl, rfl⟩; rw [Hrs.out])
  go_quiet ((go_at_call 65; exact Calls.quiet_of_same ((room_any _ _).mono fun e w' ⟨he, hw⟩ => ⟨he, hw.symm⟩)))
  rw [Hrs.out]
  go_wp2
  go_ret2
  exact ⟨rfl, below_drewN (below_alloc _ _) _⟩

/-- The bytes ahead of the sum. -/
def sealBody (size kind num : Nat) (load : List UInt8) : List UInt8 :=
  UInt8.ofNat kind :: be 8 num ++ be 2 load.length ++ load ++ List.replicate (size - 15 - load.length) 0
/-- The sealed block. -/
def sealed (size kind num : Nat) (load : List UInt8) : List UInt8 := sealBody size kind num load ++ be 4 (crc (sealBody size kind num load))

/-- What is known of memory on the way: the box of x, and the block. -/
structure PutM (w : World) (box : Array Value) (l : List UInt8) (W : World) : Prop where
  bel : Below w.heap.size w W
  box : Blk W w.heap.size 89 box
  row : Blk W (w.heap.size + 1) 5 (l.map bv).toArray

theorem PutM.put {w W : World} {box : Array Value} {l : List UInt8} (h : PutM w box l W) (i : Nat) {v : Value} {c : UInt8} (hv : v = bv c) : PutM w box (l.set i c) (W.setCell ⟨w.heap.size + 1, i, none⟩ v) :=
  ⟨h.bel.setCell (by show w.heap.size ≤ w.heap.size + 1; omega) _, h.box.far (by show w.heap.size ≠ w.heap.size + 1; omega) _, h.row.put i hv⟩
theorem PutM.wrote {w W W' : World} {box : Array Value} {l l' : List UInt8} (h : PutM w box l W) (hg : W.grownBy W' (some (w.heap.size + 1))) (hr : Blk W' (w.heap.size + 1) 5 (l'.map bv).toArray) : PutM w box l' W' :=
  ⟨h.bel.grown hg h.bel.size (fun k hk => by injection hk; omega), h.box.grown hg (by simp), hr⟩
theorem PutM.below {w W W' : World} {box : Array Value} {l : List UInt8} (h : PutM w box l W) (hb : Below W.heap.size W W') : PutM w box l W' :=
  ⟨below_step h.bel hb, h.box.keep hb, h.row.keep hb⟩
theorem PutM.drew {w W : World} {box : Array Value} {l : List UInt8} (h : PutM w box l W) : PutM w box l { heap := W.heap, tape := W.tape, drawn := W.drawn + 1, os := W.os, output := W.output } :=
  ⟨h.bel.drew, h.box, h.row⟩
theorem PutM.cell0 {w W : World} {l : List UInt8} {a b c : Value} (h : PutM w #[a, b, c] l W) : W.cell? ⟨w.heap.size, 0, none⟩ = some a ∧ W.cell? ⟨w.heap.size, 1, none⟩ = some b ∧ W.cell? ⟨w.heap.size, 2, none⟩ = some c :=
  ⟨h.box.cell 0, h.box.cell 1, h.box.cell 2⟩

/-- The steps in which the block is filled. -/
def put1 (size kind : Nat) : List UInt8 := (List.replicate size 0).set 0 (UInt8.ofNat kind)
def put2 (size kind num : Nat) : List UInt8 := laidTo (put1 size kind) 1 8 num 8
def put3 (size kind num n : Nat) : List UInt8 := laidTo (put2 size kind num) 9 2 n 2
def put4 (size kind num n : Nat) (load : List UInt8) : List UInt8 := spliceB (put3 size kind num n) 11 load
def put5 (size kind num n : Nat) (load : List UInt8) : List UInt8 := laidTo (put4 size kind num n load) (size - 4) 4 (crc ((put4 size kind num n load).take (size - 4))) 4

section
variable {size kind num n : Nat} {load : List UInt8}
theorem put1_len : (put1 size kind).length = size := by simp [put1]
theorem put2_len (h : 64 ≤ size) : (put2 size kind num).length = size := by
  unfold put2; rw [laidTo_length _ _ _ _ _ (by rw [put1_len]; omega) (by omega), put1_len]
theorem put3_len (h : 64 ≤ size) : (put3 size kind num n).length = size := by
  unfold put3; rw [laidTo_length _ _ _ _ _ (by rw [put2_len h]; omega) (by omega), put2_len h]
theorem put4_len (h : 64 ≤ size) (hl : load.length = n) (hn : n + 15 ≤ size) : (put4 size kind num n load).length = size := by
  unfold put4 spliceB; simp [put3_len h]; omega

theorem drop_set_zero (size : Nat) (c : UInt8) (k : Nat) (hk : 0 < k) : ((List.replicate size (0 : UInt8)).set 0 c).drop k = List.replicate (size - k) 0 := by
  rw [List.drop_set_of_lt (by omega)]; simp

theorem put1_is (h : 64 ≤ size) : put1 size kind = UInt8.ofNat kind :: List.replicate (size - 1) 0 := by
  unfold put1
  obtain ⟨m, rfl⟩ : ∃ m, size = m + 1 := ⟨size - 1, by omega⟩
  simp [List.replicate_succ]
theorem put2_is (h : 64 ≤ size) : put2 size kind num = UInt8.ofNat kind :: be 8 num ++ List.replicate (size - 9) 0 := by
  unfold put2 laidTo
  rw [put1_is h]
  simp [Nat.sub_sub]
theorem put3_is (h : 64 ≤ size) : put3 size kind num n = UInt8.ofNat kind :: be 8 num ++ be 2 n ++ List.replicate (size - 11) 0 := by
  have hb := be_length 8 num
  unfold put3 laidTo
  rw [put2_is h]
  have e1 : (UInt8.ofNat kind :: be 8 num ++ List.replicate (size - 9) (0 : UInt8)).take (9 + 2 - 2) = UInt8.ofNat kind :: be 8 num := by
    rw [List.take_left' (by simp [hb])]
  have e2 : (UInt8.ofNat kind :: be 8 num ++ List.replicate (size - 9) (0 : UInt8)).drop (9 + 2) = List.replicate (size - 11) 0 := by
    rw [List.drop_append]
    simp [hb, Nat.sub_sub]
  rw [e1, e2]
theorem put4_is (h : 64 ≤ size) (hl : load.length = n) (hn : n + 15 ≤ size) : put4 size kind num n load = sealBody size kind num load ++ List.replicate 4 0 := by
  subst hl
  have hb := be_length 8 num
  have hb2 := be_length 2 load.length
  unfold put4 spliceB
  rw [put3_is h]
  have e1 : (UInt8.ofNat kind :: be 8 num ++ be 2 load.length ++ List.replicate (size - 11) (0 : UInt8)).take 11 = UInt8.ofNat kind :: be 8 num ++ be 2 load.length := by
    rw [List.take_left' (by simp [hb, hb2])]
  have e2 : (UInt8.ofNat kind :: be 8 num ++ be 2 load.length ++ List.replicate (size - 11) (0 : UInt8)).drop (11 + load.length) = List.replicate (size - 11 - load.length) 0 := by
    rw [List.drop_append]
    simp [hb, hb2, Nat.sub_sub]
    try omega
  rw [e1, e2]
  unfold sealBody
  rw [show size - 11 - load.length = (size - 15 - load.length) + 4 from by omega, ← List.replicate_append_replicate]
  simp only [List.append_assoc]
theorem sealBody_len (h : 64 ≤ size) (hn : load.length + 15 ≤ size) : (sealBody size kind num load).length = size - 4 := by
  simp [sealBody, be_length]; omega
theorem put5_is (h : 64 ≤ size) (hl : load.length = n) (hn : n + 15 ≤ size) : put5 size kind num n load = sealed size kind num load := by
  have hb := sealBody_len (kind := kind) (num := num) (load := load) h (by omega)
  unfold put5 laidTo
  rw [put4_is h hl hn]
  rw [show size - 4 + 4 - 4 = size - 4 from by omega, List.take_left' hb]
  unfold sealed
  rw [List.drop_of_length_le (by simp [hb])]
  simp
end

set_option maxRecDepth 100000 in
set_option maxHeartbeats 600000 in
theorem put_ok (size kind num : Nat) (A : Option Addr) (n c : Nat) (load : List UInt8) (w : World) (h64 : 64 ≤ size) (h4096 : size ≤ 4096) (h2 : kind ≠ 0) (hk : kind < 256) (hnum : num < 18446744073709551616) (h3 : n + 15 ≤ size) (hl : load.length = n) (hr : Rd w A load) :
    Calls Try.prog 74 #[.int .i64 size, .agg #[.int .u8 kind, .int .u64 num, .slice A n c]] w fun e w' => ∃ g, e = .returned (.tuple #[.slice (some ⟨g, 0, none⟩) size size, .int .i64 0]) ∧ w.heap.size ≤ g ∧ Blk w' g 5 ((sealed size kind num load).map bv).toArray ∧ Below w.heap.size w w' := by
  have Hrs := Lib.hid (show room (size : Int) = (size : Int) - 15 by unfold room; rw [if_neg (by omega), if_neg (by omega)])
  have hb : ((size : Int) - 15 == 0) = false := by simp; omega
  have hb2 : ((kind : Int) == 0) = false := by simp; omega
  have Hmk := Lib.hid (fun W => run_make_bytes (P := Try.prog) bytesT size (by omega) W)
  clear h2
  have HL := Lib.hid hl
  clear hl
  have q9 : (9 : Int) ≤ (size : Int) := by omega
  have q1 : ¬ size = 1 := by omega
  have q11 : (11 : Int) ≤ (size : Int) := by omega
  have q9' : ¬ size = 9 := by omega
  have q11' : ¬ size = 11 := by omega
  go_enter Try.func74, Try.ntmps74
  go_wp2_with (go_at_call 65; refine (room_any _ _).mono ?_; rintro e w' ⟨rfl, rfl⟩; rw [Hrs.out])
  go_quiet ((go_at_call 65; exact Calls.quiet_of_same ((room_any _ _).mono fun e w' ⟨he, hw⟩ => ⟨he, hw.symm⟩)))
  rw [Hrs.out]
  have hmk := Hmk.out ((w.alloc (.cells #[.int .u8 (kind : Int), .int .u64 (num : Int), .slice A n c] 89)).drewN nq)
  simp only [World.heap_drewN, World.size_alloc] at hmk
  go_upto_region 6 with (fail)
  clear hmk
  refine wp_world (PutM w #[.int .u8 (kind : Int), .int .u64 (num : Int), .slice A n c] (List.replicate size 0)) ?_ ?_
  · refine ⟨?_, ?_, ?_⟩
    · exact (below_drewN (below_alloc _ _) _).alloc (by simp) _
    · exact Blk.alloc (w := (w.alloc (.cells #[.int .u8 (kind : Int), .int .u64 (num : Int), .slice A n c] 89)).drewN nq) (Blk.new w _ _) _
    · have h8 := Blk.new ((w.alloc (.cells #[.int .u8 (kind : Int), .int .u64 (num : Int), .slice A n c] 89)).drewN nq) 5 (zerosB size)
      simp only [World.heap_drewN, World.size_alloc] at h8
      exact h8
  intro w2 hM
  obtain ⟨hc0, hc1, hc2⟩ := hM.cell0
  have hfr := hM.row.frozen 0
  have hrow : w2.cell? ⟨w.heap.size + 1, 0, none⟩ = some (.int .u8 0) := by
    rw [hM.row.cell, List.getElem?_toArray, List.getElem?_map, List.getElem?_replicate, if_pos (by omega)]; rfl
  go_upto_region 7 with (fail)
  have hkb : Value.int .u8 (kind : Int) = bv (UInt8.ofNat kind) := by
    rw [← bv_ofNat]; congr 1; omega
  refine wp_world (PutM w #[.int .u8 (kind : Int), .int .u64 (num : Int), .slice A n c] (put1 size kind)) (hM.put 0 hkb) ?_
  clear hM hc0 hc1 hc2 hrow hfr hkb
  intro w3 hM
  obtain ⟨hc0, hc1, hc2⟩ := hM.cell0
  go_still_tail 4, (by kernel_rfl)
  refine wpList_world (PutM w #[.int .u8 (kind : Int), .int .u64 (num : Int), .slice A n c] (put1 size kind)) hM.drew ?_
  clear hM hc0 hc1 hc2
  intro w4 hM
  go_upto_region 8 with (go_at_call 84; refine (lay_any (w.heap.size + 1) 1 8 _ (put1 size kind) num w4 hM.row (by rw [put1_len]; omega) (by omega) hnum).mono ?_; rintro e w5 ⟨rfl, hrow, hgr, hsz⟩)
  refine wp_world (PutM w #[.int .u8 (kind : Int), .int .u64 (num : Int), .slice A n c] (put2 size kind num)) (hM.wrote hgr hrow) ?_
  clear hM hrow hgr hsz
  intro w6 hM
  obtain ⟨hc0, hc1, hc2⟩ := hM.cell0
  go_still_tail 6, (by kernel_rfl)
  refine wpList_world (PutM w #[.int .u8 (kind : Int), .int .u64 (num : Int), .slice A n c] (put2 size kind num)) hM.drew ?_
  clear hM hc0 hc1 hc2
  intro w7 hM
  go_upto_region 9 with (go_at_call 84; refine (lay_any (w.heap.size + 1) 9 2 _ (put2 size kind num) n w7 hM.row (by rw [put2_len h64]; omega) (by omega) (by omega)).mono ?_; rintro e w8 ⟨rfl, hrow, hgr, hsz⟩)
  refine wp_world (PutM w #[.int .u8 (kind : Int), .int .u64 (num : Int), .slice A n c] (put3 size kind num n)) (hM.wrote hgr hrow) ?_
  clear hM hrow hgr hsz
  intro w9 hM
  obtain ⟨hc0, hc1, hc2⟩ := hM.cell0
  go_still_tail 4, (by kernel_rfl)
  refine wpList_world (PutM w #[.int .u8 (kind : Int), .int .u64 (num : Int), .slice A n c] (put3 size kind num n)) hM.drew ?_
  clear hM hc0 hc1 hc2
  intro w10 hM
  refine wpList_cpy bytesT rfl (.tmp 42) (.tmp 44) rfl (w.heap.size + 1) 11 (size - 11) (size - 11) A n c rfl rfl (put3 size kind num n) hM.row load HL.out (hr.below hM.bel) (by omega) (by rw [put3_len h64]; omega) ?_
  intro w11 hrow hgr hsz
  go_upto_region 10 with (fail)
  refine wp_world (PutM w #[.int .u8 (kind : Int), .int .u64 (num : Int), .slice A n c] (put4 size kind num n load)) (hM.wrote hgr hrow) ?_
  clear hM hrow hgr hsz
  intro w12 hM
  go_frame
  have q4 : (0 : Int) ≤ (size : Int) - 4 := by omega
  have q4' : (size : Int) - 4 ≤ (size : Int) := by omega
  have q4t : ((size : Int) - 4).toNat = size - 4 := by omega
  have q4n : ¬ size = size - 4 := by omega
  have q44 : (4 : Int) ≤ (size : Int) := by omega
  have q45 : 4 ≤ size := by omega
  have qw : IntKind.i64.wrap ((size : Int) - 4) = (size : Int) - 4 := IntWalk.i64_in _ (by omega)
  have hlen4 := put4_len (kind := kind) (num := num) h64 HL.out h3
  have HL4 := Lib.hid hlen4
  clear hlen4
  have HSum := Lib.hid (sum_any (some ⟨w12.heap.size, 0, none⟩) [(put4 size kind num n load).take (size - 4)] ((put4 size kind num n load).take (size - 4)) 1 1 (w12.alloc (.cells #[.slice (some ⟨w.heap.size + 1, 0, none⟩) (size - 4) size] 23)).drew (by simp) rfl (by omega) (by rw [List.length_take, HL4.out]; omega) (rdl_one (W := w12) (hM.row.rd0 (size - 4)) (by rw [List.length_take, HL4.out]; omega)).drew)
  have HM := Lib.hid (hM.below ((below_alloc w12 (.cells #[.slice (some ⟨w.heap.size + 1, 0, none⟩) (size - 4) size] 23)).drew))
  clear hM
  have hcl := crc_lt ((put4 size kind num n load).take (size - 4))
  have Hfin := Lib.hid (put5_is (kind := kind) (num := num) h64 HL.out h3)
  unfold put5 at Hfin
  generalize crc ((put4 size kind num n load).take (size - 4)) = cr at *
  have q4s : size - (size - 4) = 4 := by omega
  have qcr : IntKind.u64.wrap (cr : Int) = (cr : Int) := by simp only [IntKind.wrap, IntKind.bits, IntKind.signed]; simp; omega
  go_region_held3 (fun W => True) (trivial) ((first
    | (go_at_call 85
       refine HSum.out.mono ?_
       rintro e w13 ⟨rfl, hb13⟩
       have hM13 := HM.out.below hb13)
    | (go_at_call 84
       refine (lay_any (w.heap.size + 1) (size - 4) 4 _ (put4 size kind num n load) cr _ hM13.row (by rw [HL4.out]; omega) (by omega) (by omega)).mono ?_
       rintro e w14 ⟨rfl, hrow, hgr, hsz⟩)))
  clear q4 q4' q4t q4n q44 q45 qw q4s qcr
  have HR := Lib.hid (hM13.wrote hgr hrow)
  clear hrow hgr hsz
  go_wp2
  go_ret2
  refine ⟨w.heap.size + 1, rfl, by omega, ?_, HR.out.bel⟩
  have h9 := HR.out.row
  rw [Hfin.out] at h9
  exact h9

/-- Put, as a function: the error's number and the bytes. -/
def putP (size : Int) (kind num : Nat) (load : List UInt8) : Nat × List UInt8 :=
  if room size = 0 ∨ kind = 0 then (2, []) else if room size < load.length then (1, []) else (0, sealed size.toNat kind num load)

/-- What Put leaves: the error's number; where there is none, the block in memory of the call's own. -/
def PutEnds (w : World) (size : Int) (kind num : Nat) (load : List UInt8) (e : Ending) (w' : World) : Prop :=
  Below w.heap.size w w' ∧
  (((putP size kind num load).1 ≠ 0 ∧ e = .returned (.tuple #[.slice none 0 0, .int .i64 (putP size kind num load).1])) ∨
   ((putP size kind num load).1 = 0 ∧ ∃ g, e = .returned (.tuple #[.slice (some ⟨g, 0, none⟩) size.toNat size.toNat, .int .i64 0]) ∧ w.heap.size ≤ g ∧
      Blk w' g 5 ((putP size kind num load).2.map bv).toArray ∧ (putP size kind num load).2.length = size.toNat))

theorem sealed_len {size kind num : Nat} {load : List UInt8} (h : 64 ≤ size) (hn : load.length + 15 ≤ size) : (sealed size kind num load).length = size := by
  unfold sealed; rw [List.length_append, sealBody_len h hn, be_length]; omega

/-- Put at every input. -/
theorem put_any (size : Int) (kind num : Nat) (A : Option Addr) (n c : Nat) (load : List UInt8) (w : World) (hk : kind < 256) (hnum : num < 18446744073709551616) (hl : load.length = n) (hr : Rd w A load) :
    Calls Try.prog 74 #[.int .i64 size, .agg #[.int .u8 kind, .int .u64 num, .slice A n c]] w (PutEnds w size kind num load) := by
  by_cases h1 : room size = 0 ∨ kind = 0
  · refine (put_arg size kind num A n c w (h1.imp id (fun h => by omega))).mono fun e w' ⟨he, hb⟩ => ⟨hb, .inl ?_⟩
    have : putP size kind num load = (2, []) := by unfold putP; rw [if_pos h1]
    rw [this]
    exact ⟨by decide, he⟩
  · by_cases h2 : room size < load.length
    · refine (put_long size kind num A n c w (fun h => h1 (.inl h)) (fun h => h1 (.inr (by omega))) (by rw [← hl]; exact h2)).mono fun e w' ⟨he, hb⟩ => ⟨hb, .inl ?_⟩
      have : putP size kind num load = (1, []) := by unfold putP; rw [if_neg h1, if_pos h2]
      rw [this]
      exact ⟨by decide, he⟩
    · have h3 : putP size kind num load = (0, sealed size.toNat kind num load) := by unfold putP; rw [if_neg h1, if_neg h2]
      have h4 : 64 ≤ size ∧ size ≤ 4096 ∧ room size = size - 15 := by
        have h5 : room size ≠ 0 := fun h => h1 (.inl h)
        unfold room at h5 ⊢
        split at h5
        · exact absurd rfl h5
        · split at h5
          · exact absurd rfl h5
          · rename_i a b
            rw [if_neg a, if_neg b]
            exact ⟨by omega, by omega, rfl⟩
      obtain ⟨h5, h6, h7⟩ := h4
      obtain ⟨s, rfl⟩ := Int.eq_ofNat_of_zero_le (show 0 ≤ size by omega)
      rw [h7] at h2
      refine (put_ok s kind num A n c load w (by omega) (by omega) (fun h => h1 (.inr h)) hk hnum (by omega) hl hr).mono fun e w' ⟨g, he, hg, hB, hb⟩ => ⟨hb, .inr ?_⟩
      rw [h3]
      exact ⟨rfl, g, he, hg, hB, sealed_len (by omega) (by omega)⟩
end Go.Proofs.Ytcnhfbckaacalaa
