/- The walk of Get of layer 3. -/
import Derived.Test.YtcnhfbckaacalaaPut
import Derived.Test.YtcnhfbckaacalaaLibE
namespace Go.Proofs.Ytcnhfbckaacalaa
open Go.RowKit
set_option linter.unusedVariables false

theorem Rd.sub {w : World} {b off : Nat} {l : List UInt8} (h : Rd w (some ⟨b, off, none⟩) l) (i n : Nat) : Rd w (some ⟨b, off + i, none⟩) ((l.drop i).take n) := by
  rcases h with rfl | ⟨b', off', hA, hc⟩
  · exact .inl (by simp)
  · injection hA with hA
    injection hA with e1 e2
    subst e1 e2
    refine .inr ⟨b, off + i, rfl, fun j hj => ?_⟩
    simp at hj
    have h1 := hc (i + j) (by omega)
    rw [Nat.add_assoc, h1]
    simp

/-- Get, as a function: kind, number, load; none where the bytes were not sealed. -/
def getP (l : List UInt8) : Option (Nat × Nat × List UInt8) :=
  if room l.length = 0 then none
  else if room l.length < toldN ((l.drop 9).take 2) then none
  else if putP l.length (l.headD 0).toNat (toldN ((l.drop 1).take 8)) ((l.drop 11).take (toldN ((l.drop 9).take 2))) = (0, l)
    then some ((l.headD 0).toNat, toldN ((l.drop 1).take 8), (l.drop 11).take (toldN ((l.drop 9).take 2))) else none

/-- What Get leaves. -/
def GetEnds (w : World) (l : List UInt8) (e : Ending) (w' : World) : Prop :=
  Below w.heap.size w w' ∧
  ((getP l = none ∧ e = .returned (.tuple #[.agg #[.int .u8 0, .int .u64 0, .slice none 0 0], .int .i64 30])) ∨
   ∃ k num load A c, getP l = some (k, num, load) ∧ e = .returned (.tuple #[.agg #[.int .u8 (k : Int), .int .u64 (num : Int), .slice A load.length c], .int .i64 0]) ∧ Rd w' A load)

set_option maxHeartbeats 400000 in
theorem get_no (A : Option Addr) (n c : Nat) (w : World) (h : room n = 0) :
    Calls Try.prog 64 #[.slice A n c] w fun e w' => e = .returned (.tuple #[.agg #[.int .u8 0, .int .u64 0, .slice none 0 0], .int .i64 30]) ∧ Below w.heap.size w w' := by
  have Hrs := Lib.hid h
  clear h
  go_enter Try.func64, Try.ntmps64
  go_wp2_with (go_at_call 65; refine (room_any _ _).mono ?_; rintro e w' ⟨rfl, rfl⟩; rw [Hrs.out])
  exact bodyPost_ret (v := .tuple #[.agg #[.int .u8 0, .int .u64 0, .slice none 0 0], .int .i64 30]) (by simp [results, Try.results64, go_sem]) rfl ⟨rfl, below_alloc _ _⟩

theorem told_two (l : List UInt8) (h : l.length ≤ 2) : toldN l < 65536 := by
  rcases l with _ | ⟨a, _ | ⟨b, _ | ⟨c, r⟩⟩⟩
  · simp [toldN]
  · have := u8_lt a
    simp [toldN]; omega
  · have := u8_lt a
    have := u8_lt b
    simp [toldN]; omega
  · simp at h

set_option maxHeartbeats 400000 in
theorem get_long (b off n c : Nat) (l : List UInt8) (w : World) (hl : l.length = n) (hc : n ≤ c) (h64 : 64 ≤ n) (h4096 : n ≤ 4096) (hr : Rd w (some ⟨b, off, none⟩) l) (h : n < toldN ((l.drop 9).take 2) + 15) :
    Calls Try.prog 64 #[.slice (some ⟨b, off, none⟩) n c] w fun e w' => e = .returned (.tuple #[.agg #[.int .u8 0, .int .u64 0, .slice none 0 0], .int .i64 30]) ∧ Below w.heap.size w w' := by
  have Hrs := Lib.hid (show room (n : Int) = (n : Int) - 15 by unfold room; rw [if_neg (by omega), if_neg (by omega)])
  have hb : ((n : Int) - 15 == 0) = false := by simp; omega
  have HT := Lib.hid (told_any (some ⟨b, off + 9, none⟩) ((l.drop 9).take 2) 2 (c - 9) (w.alloc (.cells #[.int .u8 0, .int .u64 0, .slice none 0 0] 89)) (by simp; omega) (by omega) ((hr.sub 9 2).below (below_alloc _ _)))
  have ht := told_two ((l.drop 9).take 2) (List.length_take_le _ _)
  generalize toldN ((l.drop 9).take 2) = t at *
  have q9 : (9 : Int) ≤ (c : Int) := by omega
  have q11 : (11 : Int) ≤ (c : Int) := by omega
  have q9' : ¬ c = 9 := by omega
  go_enter Try.func64, Try.ntmps64
  go_wp2_with (first
    | (go_at_call 65; refine (room_any _ _).mono ?_; rintro e w' ⟨rfl, rfl⟩; rw [Hrs.out])
    | (go_at_call 80; refine HT.out.mono ?_; rintro e w' ⟨rfl, rfl⟩))
  exact bodyPost_ret (v := .tuple #[.agg #[.int .u8 0, .int .u64 0, .slice none 0 0], .int .i64 30]) (by simp [results, Try.results64, go_sem]) rfl ⟨rfl, below_alloc _ _⟩

theorem Rd.head {w : World} {b off : Nat} {l : List UInt8} (h : Rd w (some ⟨b, off, none⟩) l) (hl : 0 < l.length) : w.cell? ⟨b, off, none⟩ = some (.int .u8 ((l.headD 0).toNat : Int)) := by
  obtain ⟨b', off', hA, _, hc⟩ := h.at_ hl
  injection hA with hA
  injection hA with e1 e2
  subst e1 e2
  rw [Nat.add_zero] at hc
  rw [hc]
  cases l with
  | nil => simp at hl
  | cons x r => rfl

theorem cell_far3 {w : World} {g b off : Nat} {v0 v1 v2 u : Value} (h : w.cell? ⟨b, off, none⟩ = some u) (hne : b ≠ g) :
    (((w.setCell ⟨g, 0, none⟩ v0).setCell ⟨g, 1, none⟩ v1).setCell ⟨g, 2, none⟩ v2).cell? ⟨b, off, none⟩ = some u := by
  have hn : ∀ i, (⟨g, i, none⟩ : Addr) ≠ ⟨b, off, none⟩ := fun i e => hne (by injection e with e1; exact e1.symm)
  rw [World.cell?_setCell_other _ _ _ _ (hn _), World.cell?_setCell_other _ _ _ _ (hn _), World.cell?_setCell_other _ _ _ _ (hn _), h]

theorem put_good {size kind num : Nat} {A : Option Addr} {n c : Nat} {load pl : List UInt8} {w : World} (h : putP size kind num load = (0, pl))
    (hc : Calls Try.prog 74 #[.int .i64 size, .agg #[.int .u8 kind, .int .u64 num, .slice A n c]] w (PutEnds w size kind num load)) :
    Calls Try.prog 74 #[.int .i64 size, .agg #[.int .u8 kind, .int .u64 num, .slice A n c]] w fun e w' => ∃ g, e = .returned (.tuple #[.slice (some ⟨g, 0, none⟩) size size, .int .i64 0]) ∧ Below w.heap.size w w' ∧ w.heap.size ≤ g ∧ Blk w' g 5 (pl.map bv).toArray ∧ pl.length = size :=
  hc.mono fun e w' ⟨hb, hh⟩ => by
    rw [h] at hh
    rcases hh with ⟨h1, _⟩ | ⟨_, g, h2, h3, h4, h5⟩
    · exact absurd rfl h1
    · exact ⟨g, h2, hb, h3, h4, h5⟩
theorem put_bad {size : Int} {kind num : Nat} {A : Option Addr} {n c : Nat} {load pl : List UInt8} {w : World} {pe : Nat} (h : putP size kind num load = (pe, pl)) (hpe : pe ≠ 0)
    (hc : Calls Try.prog 74 #[.int .i64 size, .agg #[.int .u8 kind, .int .u64 num, .slice A n c]] w (PutEnds w size kind num load)) :
    Calls Try.prog 74 #[.int .i64 size, .agg #[.int .u8 kind, .int .u64 num, .slice A n c]] w fun e w' => e = .returned (.tuple #[.slice none 0 0, .int .i64 pe]) ∧ Below w.heap.size w w' :=
  hc.mono fun e w' ⟨hb, hh⟩ => by
    rw [h] at hh
    rcases hh with ⟨_, h2⟩ | ⟨h1, _⟩
    · exact ⟨h2, hb⟩
    · exact absurd h1 hpe

/-- A slice over other cells than those of block g, which alone is written (with what it holds). -/
theorem cell_same_set {w : World} {g i : Nat} {v : Value} (h : w.cell? ⟨g, i, none⟩ = some v) (p : Addr) : (w.setCell ⟨g, i, none⟩ v).cell? p = w.cell? p := by
  by_cases e : (⟨g, i, none⟩ : Addr) = p
  · subst e
    rw [World.cell?_setCell_same _ _ _ h, h]
  · exact World.cell?_setCell_other _ _ _ _ e
theorem Rd.same_sets {w : World} {A : Option Addr} {l : List UInt8} {g t q : Nat} {v0 v1 v2 : Value} (h : Rd w A l) (hB : Blk w g t #[v0, v1, v2]) :
    Rd ((((w.drewN q).setCell ⟨g, 0, none⟩ v0).setCell ⟨g, 1, none⟩ v1).setCell ⟨g, 2, none⟩ v2) A l := by
  refine h.keep fun p _ => ?_
  have h0 : Blk (w.drewN q) g t #[v0, v1, v2] := hB
  have h1 : Blk ((w.drewN q).setCell ⟨g, 0, none⟩ v0) g t #[v0, v1, v2] := h0.set_ 0 v0
  have h2 : Blk (((w.drewN q).setCell ⟨g, 0, none⟩ v0).setCell ⟨g, 1, none⟩ v1) g t #[v0, v1, v2] := h1.set_ 1 v1
  rw [cell_same_set (v := v2) (h2.cell 2), cell_same_set (v := v1) (h1.cell 1), cell_same_set (v := v0) (h0.cell 0)]
  rfl
theorem bp_world {P : Program} {fn : Func} {R : Ending → World → Prop} {ex : Exit} {a : Act} {w : World} (F : World → Prop) (hF : F w) (h : ∀ w', F w' → bodyPost P fn R ex a w') : bodyPost P fn R ex a w := h w hF

set_option maxHeartbeats 600000 in
theorem get_rest (b off n c : Nat) (l : List UInt8) (w : World) (hl : l.length = n) (hc : n ≤ c) (hc2 : c ≤ 9223372036854775807) (h64 : 64 ≤ n) (h4096 : n ≤ 4096) (hr : Rd w (some ⟨b, off, none⟩) l) (h : toldN ((l.drop 9).take 2) + 15 ≤ n) :
    Calls Try.prog 64 #[.slice (some ⟨b, off, none⟩) n c] w (GetEnds w l) := by
  have Hrs := Lib.hid (show room (n : Int) = (n : Int) - 15 by unfold room; rw [if_neg (by omega), if_neg (by omega)])
  have hb : ((n : Int) - 15 == 0) = false := by simp; omega
  have HT := Lib.hid (told_any (some ⟨b, off + 9, none⟩) ((l.drop 9).take 2) 2 (c - 9) (w.alloc (.cells #[.int .u8 0, .int .u64 0, .slice none 0 0] 89)) (by simp; omega) (by omega) ((hr.sub 9 2).below (below_alloc _ _)))
  have HG := Lib.hid (show getP l = if putP n (l.headD 0).toNat (toldN ((l.drop 1).take 8)) ((l.drop 11).take (toldN ((l.drop 9).take 2))) = (0, l)
    then some ((l.headD 0).toNat, toldN ((l.drop 1).take 8), (l.drop 11).take (toldN ((l.drop 9).take 2))) else none by
      unfold getP; rw [hl, Hrs.out, if_neg (by omega), if_neg (by omega)])
  have hk := u8_lt (l.headD 0)
  have hnum := toldN_lt ((l.drop 1).take 8)
  have HR11 := Lib.hid (hr.sub 11 (toldN ((l.drop 9).take 2)))
  have HR1 := Lib.hid (hr.sub 1 8)
  have Hl1 := Lib.hid (show ((l.drop 1).take 8).length = 8 by simp; omega)
  have Hl11 := Lib.hid (show ((l.drop 11).take (toldN ((l.drop 9).take 2))).length = toldN ((l.drop 9).take 2) by simp; omega)
  have Hhd := Lib.hid (hr.head (by omega))
  generalize toldN ((l.drop 9).take 2) = t at *
  generalize (l.headD 0).toNat = k at *
  generalize (l.drop 1).take 8 = l1 at *
  generalize (l.drop 11).take t = load at *
  have HL := Lib.hid hl
  clear hl
  have q9 : (9 : Int) ≤ (c : Int) := by omega
  have q11 : (11 : Int) ≤ (c : Int) := by omega
  have q9' : ¬ c = 9 := by omega
  have q1' : ¬ c = 1 := by omega
  have q11' : ¬ c = 11 := by omega
  go_enter Try.func64, Try.ntmps64
  go_upto_region 6 with (first
    | (go_at_call 65; refine (room_any _ _).mono ?_; rintro e w' ⟨rfl, rfl⟩; rw [Hrs.out])
    | (go_at_call 80; refine HT.out.mono ?_; rintro e w' ⟨rfl, rfl⟩))
  refine wp_world (fun W => Below w.heap.size w W ∧ Blk W w.heap.size 89 #[.int .u8 0, .int .u64 0, .slice none 0 0]) ⟨below_alloc _ _, Blk.new _ _ _⟩ ?_
  rintro w1 ⟨hb1, hbox⟩
  have HC := Lib.hid (clone_any (some ⟨b, off + 11, none⟩) load t (c - 11) w1.drew Hl11.out (by omega) (HR11.out.below hb1.drew))
  have HN := Lib.hid (told_any (some ⟨b, off + 1, none⟩) l1 8 (c - 1) w1.drew Hl1.out (by omega) (HR1.out.below hb1.drew))
  have hlt : b < w.heap.size := World.block_lt_of_cell? w ⟨b, off, none⟩ Hhd.out
  have hhd : w1.cell? ⟨b, off, none⟩ = some (.int .u8 (k : Int)) := (hb1.cell (p := ⟨b, off, none⟩) hlt).trans Hhd.out
  have HX := Lib.hid hbox
  clear hbox
  have p0 : 0 < n := by omega
  have p1 : (0 : Int) ≤ 11 + (t : Int) := by omega
  have p2 : 11 + (t : Int) ≤ (c : Int) := by omega
  have p3 : (11 + (t : Int)).toNat = 11 + t := by omega
  have p5 : (11 : Int) ≤ 11 + (t : Int) := by omega
  have p6 : (0 : Int) ≤ (t : Int) := by omega
  have p7 : 11 + t - 11 = t := by omega
  have qw : IntKind.i64.wrap (11 + (t : Int)) = 11 + (t : Int) := IntWalk.i64_in _ (by omega)
  go_region_held3 (fun W => W.cell? ⟨b, off, none⟩ = some (.int .u8 (k : Int))) (first | assumption | exact cell_far3 (by assumption) (by omega)) ((first
    | (go_at_call 80
       refine HN.out.mono ?_
       rintro e w2 ⟨rfl, rfl⟩)
    | (go_at_call 67
       refine HC.out.mono ?_
       rintro e w2 ⟨v2, rfl, hown, hb2⟩
       obtain ⟨A2, c2, rfl, hr2, _, _⟩ := own_rd hown
       have hbox2 := HX.out.keep ((Below.refl _ _).drew.trans hb2)
       have hhd2 : w2.cell? ⟨b, off, none⟩ = some (.int .u8 (k : Int)) := (hb2.cell (p := ⟨b, off, none⟩) (Nat.lt_of_lt_of_le hlt hb1.size)).trans hhd
       have hx0 := hbox2.cell 0
       have hx1 := hbox2.cell 1
       have hx2 := hbox2.cell 2
       have hf0 := hbox2.frozen 0
       have hf1 := hbox2.frozen 1
       have hf2 := hbox2.frozen 2)))
  clear p1 p2 p3 p5 p6 p7 qw hx0 hx1 hx2 hf0 hf1 hf2 q9 q11 q9' q1' q11'
  have HBx := Lib.hid hbox2
  clear hbox2
  go_upto_region 7 with (fail)
  refine wp_world (fun W => Below w.heap.size w W ∧ Blk W w.heap.size 89 #[.int .u8 (k : Int), .int .u64 (toldN l1 : Int), .slice A2 t c2] ∧ Rd W A2 load) ⟨?_, ?_, ?_⟩ ?_
  · have h1 : Below w.heap.size w w2 := below_step hb1 ((Below.refl _ _).drew.trans hb2)
    exact ((h1.setCell (Nat.le_refl _) _).setCell (Nat.le_refl _) _).setCell (Nat.le_refl _) _
  · exact ((HBx.out.set_ 0 _).set_ 1 _).set_ 2 _
  · have hlt2 : w.heap.size < w1.drew.heap.size := HX.out.lt
    obtain ⟨A3, c3, hv, hr3, _, _⟩ := own_rd (ownsRow_setCell_below (ownsRow_setCell_below (ownsRow_setCell_below hown (a := ⟨w.heap.size, 0, none⟩) hlt2 (.int .u8 (k : Int))) (a := ⟨w.heap.size, 1, none⟩) hlt2 (.int .u64 (toldN l1 : Int))) (a := ⟨w.heap.size, 2, none⟩) hlt2 (.slice A2 t c2))
    injection hv with hv1
    subst hv1
    exact hr3
  clear hown hr2 hb2 hhd2 HBx HX HC HN hhd hb1
  rintro w3 ⟨hb3, hbox3, hr3⟩
  have HP := Lib.hid (put_any n k (toldN l1) A2 t c2 load w3 hk hnum Hl11.out hr3)
  have hx0 := hbox3.cell 0
  have hx1 := hbox3.cell 1
  have hx2 := hbox3.cell 2
  have HX3 := Lib.hid hbox3
  clear hbox3
  clear HT Hhd HR1 HR11
  rcases hpp : putP n k (toldN l1) load with ⟨pe, pl⟩
  rw [hpp] at HG
  have HPP := Lib.hid hpp
  clear hpp
  by_cases hpe : pe = 0
  · subst hpe
    have HP2 := Lib.hid (put_good HPP.out HP.out)
    clear HP
    by_cases hpl : pl = l
    · have hG : getP l = some (k, toldN l1, load) := by rw [HG.out, hpl]; simp
      have Hpl := Lib.hid (show decide (pl = l) = true by simp [hpl])
      have HGG := Lib.hid hG
      clear hG hpl HG
      go_upto_region 8 with (go_at_call 74; refine HP2.out.mono ?_; rintro e w4 ⟨g, rfl, hb4, hg4, hB4, hlen4⟩)
      have HEq := Lib.hid (equal_any (some ⟨g, 0, none⟩) (some ⟨b, off, none⟩) pl l n n n c w4 hlen4 HL.out (by omega) (by omega) (by have := hB4.rd0 n; rwa [List.take_of_length_le (by omega)] at this) (hr.below (below_step hb3 hb4)))
      have hx := HX3.out.keep hb4
      have hx0 := hx.cell 0
      have hx1 := hx.cell 1
      have hx2 := hx.cell 2
      have hf0 := hx.frozen 0
      have hf1 := hx.frozen 1
      have hf2 := hx.frozen 2
      have HX4 := Lib.hid hx
      clear hx
      go_wp2_with (go_at_call 81; refine HEq.out.mono ?_; rintro e w5 ⟨rfl, q, rfl⟩; rw [Hpl.out])
      refine bp_world (fun W => Below w.heap.size w W ∧ Blk W w.heap.size 89 #[.int .u8 (k : Int), .int .u64 (toldN l1 : Int), .slice A2 t c2] ∧ Rd W A2 load) ⟨?_, ?_, ?_⟩ ?_
      · exact (((below_drewN (below_step hb3 hb4) q).setCell (Nat.le_refl _) _).setCell (Nat.le_refl _) _).setCell (Nat.le_refl _) _
      · exact ((Blk.set_ (w := w4.drewN q) HX4.out 0 _).set_ 1 _).set_ 2 _
      · exact (hr3.below hb4).same_sets HX4.out
      rintro W ⟨hbW, hBW, hrW⟩
      have y0 := hBW.cell 0
      have y1 := hBW.cell 1
      have y2 := hBW.cell 2
      exact bodyPost_ret (v := .tuple #[.agg #[.int .u8 (k : Int), .int .u64 (toldN l1 : Int), .slice A2 t c2], .int .i64 0]) (by simp [results, Try.results64, go_sem, y0, y1, y2]) rfl ⟨hbW, .inr ⟨k, toldN l1, load, A2, c2, HGG.out, by rw [Hl11.out], hrW⟩⟩
    · have hG : getP l = none := by rw [HG.out, if_neg (by simpa using hpl)]
      have Hpl := Lib.hid (show decide (pl = l) = false by simp [hpl])
      have HGG := Lib.hid hG
      clear hG hpl HG
      go_upto_region 8 with (go_at_call 74; refine HP2.out.mono ?_; rintro e w4 ⟨g, rfl, hb4, hg4, hB4, hlen4⟩)
      have HEq := Lib.hid (equal_any (some ⟨g, 0, none⟩) (some ⟨b, off, none⟩) pl l n n n c w4 hlen4 HL.out (by omega) (by omega) (by have := hB4.rd0 n; rwa [List.take_of_length_le (by omega)] at this) (hr.below (below_step hb3 hb4)))
      have hx := HX3.out.keep hb4
      have hx0 := hx.cell 0
      have hx1 := hx.cell 1
      have hx2 := hx.cell 2
      have hf0 := hx.frozen 0
      have hf1 := hx.frozen 1
      have hf2 := hx.frozen 2
      have HX4 := Lib.hid hx
      clear hx
      go_wp2_with (go_at_call 81; refine HEq.out.mono ?_; rintro e w5 ⟨rfl, q, rfl⟩; rw [Hpl.out])
      refine bp_world (fun W => Below w.heap.size w W ∧ Blk W w.heap.size 89 #[.int .u8 0, .int .u64 0, .slice none 0 0]) ⟨?_, ?_⟩ ?_
      · exact (((below_drewN (below_step hb3 hb4) q).setCell (Nat.le_refl _) _).setCell (Nat.le_refl _) _).setCell (Nat.le_refl _) _
      · exact ((Blk.set_ (w := w4.drewN q) HX4.out 0 _).set_ 1 _).set_ 2 _
      rintro W ⟨hbW, hBW⟩
      have y0 := hBW.cell 0
      have y1 := hBW.cell 1
      have y2 := hBW.cell 2
      exact bodyPost_ret (v := .tuple #[.agg #[.int .u8 0, .int .u64 0, .slice none 0 0], .int .i64 30]) (by simp [results, Try.results64, go_sem, y0, y1, y2]) rfl ⟨hbW, .inl ⟨HGG.out, rfl⟩⟩
  · have hG : getP l = none := by rw [HG.out, if_neg (by simp [hpe])]
    have HP2 := Lib.hid (put_bad HPP.out hpe HP.out)
    have hbe : ((pe : Int) != 0) = true := by rw [bne_iff_ne]; omega
    have HGG := Lib.hid hG
    clear HP hG HG hpe
    go_upto_region 8 with (go_at_call 74; refine HP2.out.mono ?_; rintro e w4 ⟨rfl, hb4⟩)
    have hx := HX3.out.keep hb4
    have hx0 := hx.cell 0
    have hx1 := hx.cell 1
    have hx2 := hx.cell 2
    have hf0 := hx.frozen 0
    have hf1 := hx.frozen 1
    have hf2 := hx.frozen 2
    have HX4 := Lib.hid hx
    clear hx
    go_wp2_with fail
    refine bp_world (fun W => Below w.heap.size w W ∧ Blk W w.heap.size 89 #[.int .u8 0, .int .u64 0, .slice none 0 0]) ⟨?_, ?_⟩ ?_
    · exact (((below_step hb3 hb4).setCell (Nat.le_refl _) _).setCell (Nat.le_refl _) _).setCell (Nat.le_refl _) _
    · exact ((HX4.out.set_ 0 _).set_ 1 _).set_ 2 _
    rintro W ⟨hbW, hBW⟩
    have y0 := hBW.cell 0
    have y1 := hBW.cell 1
    have y2 := hBW.cell 2
    exact bodyPost_ret (v := .tuple #[.agg #[.int .u8 0, .int .u64 0, .slice none 0 0], .int .i64 30]) (by simp [results, Try.results64, go_sem, y0, y1, y2]) rfl ⟨hbW, .inl ⟨HGG.out, rfl⟩⟩

/-- Get at every slice of bytes. -/
theorem get_any (A : Option Addr) (n c : Nat) (l : List UInt8) (w : World) (hl : l.length = n) (hc : n ≤ c) (hc2 : c ≤ 9223372036854775807) (hr : Rd w A l) :
    Calls Try.prog 64 #[.slice A n c] w (GetEnds w l) := by
  subst hl
  by_cases h1 : room (l.length : Int) = 0
  · refine (get_no A l.length c w h1).mono fun e w' ⟨he, hb⟩ => ⟨hb, .inl ⟨?_, he⟩⟩
    unfold getP; rw [if_pos h1]
  · have h4 : 64 ≤ l.length ∧ l.length ≤ 4096 ∧ room (l.length : Int) = l.length - 15 := by
      have h5 := h1
      unfold room at h5 ⊢
      split at h5
      · exact absurd rfl h5
      · split at h5
        · exact absurd rfl h5
        · rename_i a b
          rw [if_neg a, if_neg b]
          exact ⟨by omega, by omega, rfl⟩
    obtain ⟨h64, h4096, hrm⟩ := h4
    obtain ⟨b, off, rfl, _⟩ := hr.at_ (k := 0) (by omega)
    by_cases h2 : l.length < toldN ((l.drop 9).take 2) + 15
    · refine (get_long b off l.length c l w rfl hc h64 h4096 hr h2).mono fun e w' ⟨he, hb⟩ => ⟨hb, .inl ⟨?_, he⟩⟩
      unfold getP; rw [if_neg h1, if_pos (by omega)]
    · exact get_rest b off l.length c l w rfl hc hc2 h64 h4096 hr (by omega)
end Go.Proofs.Ytcnhfbckaacalaa
