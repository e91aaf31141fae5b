/- The walk of live of the statements of layer 2. -/
import Derived.Test.YtclbhhgifjegiaaLibI
import Derived.Lib.SlBytesConst
import Derived.Lib.SmallJoins
namespace Go.Proofs.Ytclbhhgifjegiaa
open Go.RowKit
set_option linter.unusedVariables false

def Yes (w : World) (e : Ending) (w' : World) : Prop := e = .returned (.bool true) ∧ Below w.heap.size w w'

set_option maxHeartbeats 400000 in
theorem num_any (n : Int) (w : World) :
    Calls Try.prog 11 #[.int .i64 n] w fun e w' => e = .returned (.int .i64 n) ∧ w = w' := by
  go_enter Try.func11, Try.ntmps11
  go_wp2
  go_ret
  exact ⟨rfl, rfl⟩

theorem rd_lit (w : World) (l : List UInt8) (t : Nat) (fr : Nat × Nat) : Rd (w.alloc (.cells (l.map bv).toArray t fr)) (some ⟨w.heap.size, 0, none⟩) l := by
  refine .inr ⟨w.heap.size, 0, rfl, fun j hj => ?_⟩
  rw [cell_of_row _ w.heap.size (0 + j) (l.map bv).toArray t fr (heap_alloc_new w _)]
  simp [hj]
theorem rdl_one {W : World} {B : Option Addr} {l : List UInt8} {n c t : Nat} (h : Rd W B l) (hl : l.length = n) : RdL (W.alloc (.cells #[.slice B n c] t)) (some ⟨W.heap.size, 0, none⟩) [l] := by
  refine .inr ⟨W.heap.size, 0, rfl, fun j hj => ?_⟩
  simp at hj
  subst hj
  refine ⟨B, c, ?_, h.below (below_alloc _ _)⟩
  subst hl
  exact (Blk.new W t _).cell 0
theorem rdl_two {W : World} {B C : Option Addr} {l m : List UInt8} {n c n' c' t : Nat} (h : Rd W B l) (hl : l.length = n) (h' : Rd W C m) (hm : m.length = n') : RdL (W.alloc (.cells #[.slice B n c, .slice C n' c'] t)) (some ⟨W.heap.size, 0, none⟩) [l, m] := by
  refine .inr ⟨W.heap.size, 0, rfl, fun j hj => ?_⟩
  subst hl hm
  rcases j with _ | _ | j
  · exact ⟨B, c, (Blk.new W t _).cell 0, h.below (below_alloc _ _)⟩
  · exact ⟨C, c', (Blk.new W t _).cell 1, h'.below (below_alloc _ _)⟩
  · simp at hj; omega

def dl0 : DS := DS.fresh 8 64
def dl1 : DS := (dl0.write 3 [97, 98]).2
def dl2 : DS := dl1.cut 0
def dl3 : DS := (dl2.write 3 [120]).2
def dl4 : DS := { dl3 with left := -1, off := false }
theorem dl0_ok : dl0.Ok := DS.fresh_ok (by omega) (by omega) (by omega) (by omega)
theorem dl1_ok : dl1.Ok := DS.write_ok_ dl0_ok (by decide)
theorem dl1_e : (dl0.write 3 [97, 98]).1 = 0 := by kernel_rfl
theorem dl2_ok : dl2.Ok := by
  have h := dl1_ok
  have e : dl2 = { dl1 with left := 0 } := by
    unfold dl2 DS.cut
    rw [if_neg (by have : dl1.off = false := by kernel_rfl
                   rw [this]; simp)]
    rfl
  rw [e]
  exact ⟨h.s1, h.s2, h.n1, h.n2, h.len, by show (-1 : Int) ≤ 0; omega, by show (0 : Int) ≤ _; omega, h.lg⟩
theorem dl3_e : (dl2.write 3 [120]).1 = 20 := by kernel_rfl
theorem dl3_off : dl3.off = true := by kernel_rfl
theorem dl3_ok : dl3.Ok := DS.write_ok_ dl2_ok (by have : dl2.log.length = 1 := by kernel_rfl
                                                   omega)
theorem dl4_ok : dl4.Ok := ⟨dl3_ok.s1, dl3_ok.s2, dl3_ok.n1, dl3_ok.n2, dl3_ok.len, by show (-1 : Int) ≤ -1; omega, by show (-1 : Int) ≤ _; omega, dl3_ok.lg⟩
theorem dl4_read : (dl4.read 3).1 = 0 ∧ (dl4.read 3).2.length = 64 ∧ (dl4.read 3).2.take 3 = [97, 98, 0] := ⟨by kernel_rfl, by kernel_rfl, by kernel_rfl⟩
theorem dl4_log : dl4.log = [3] := by kernel_rfl

theorem write_as {pd : Nat} {p : Pl} {d d' : DS} {r : Nat} {w W : World} {n : Int} {l : List UInt8} {args : Array Value} (hw : d.write n l = (r, d')) (hc : Calls Try.prog 13 args W (WriteEnds w pd p d n l)) :
    Calls Try.prog 13 args W fun e w' => e = .returned (.int .i64 (r : Int)) ∧ ∃ p', Acts w pd p d' w' p' :=
  hc.mono fun e w' ⟨he, p', hA⟩ => by
    rw [hw] at he hA
    exact ⟨he, p', hA⟩

theorem Rd.take_ {w : World} {A : Option Addr} {l : List UInt8} (h : Rd w A l) (n : Nat) : Rd w A (l.take n) := by
  rcases h with rfl | ⟨b, off, hA, hc⟩
  · exact .inl (by simp)
  · refine .inr ⟨b, off, hA, fun j hj => ?_⟩
    rw [List.length_take] at hj
    rw [hc j (by omega)]
    simp
/-- Read, its answer known. -/
theorem read_as {d : DS} {r : Nat} {l : List UInt8} {w W : World} {n : Int} {args : Array Value} (hw : d.read n = (r, l)) (hc : Calls Try.prog 15 args W (ReadEnds w d n)) :
    Calls Try.prog 15 args W fun e w' => ∃ A c, e = .returned (.tuple #[.slice A l.length c, .int .i64 (r : Int)]) ∧ Rd w' A l ∧ l.length ≤ c ∧ Below w.heap.size w w' :=
  hc.mono fun e w' ⟨v, he, ho, hb⟩ => by
    rw [hw] at he ho
    obtain ⟨A, c, rfl, hr, _, hlc⟩ := own_rd ho
    exact ⟨A, c, he, hr, hlc, hb⟩
theorem rdi_lit (w : World) : Rdi (w.alloc (.cells #[.int .i64 3] 3)) (some ⟨w.heap.size, 0, none⟩) [3] := by
  refine .inr ⟨w.heap.size, 0, rfl, fun j hj => ?_⟩
  simp at hj
  subst hj
  exact (Blk.new w 3 #[.int .i64 3]).cell 0
/-- A disk that the call itself made. -/
structure Own (w0 : World) (pd : Nat) (p : Pl) (d : DS) (W : World) : Prop where
  disk : DiskAt pd p d W
  bel : Below w0.heap.size w0 W
  own : ∀ k, p.F pd k → w0.heap.size ≤ k
theorem Own.act {w0 W W' : World} {pd : Nat} {p p' : Pl} {d d' : DS} (h : Own w0 pd p d W) (a : Acts W pd p d' W' p') : Own w0 pd p' d' W' :=
  ⟨a.disk, h.bel.trans (a.fr.below h.bel.size h.own), fun k hk => by
    rcases a.grown k hk with h1 | h1
    · exact h.own k h1
    · exact Nat.le_trans h.bel.size h1⟩
theorem Own.below {w0 W W' : World} {pd : Nat} {p : Pl} {d : DS} (h : Own w0 pd p d W) (hb : Below W.heap.size W W') : Own w0 pd p d W' :=
  ⟨h.disk.keep hb, below_step h.bel hb, h.own⟩

set_option maxHeartbeats 1000000 in
theorem live_any (w : World) : Calls Try.prog 9 #[] w (Yes w) := by
  have kc := fun (w : World) (C : Array Value) (n c : Nat) => Lib.run_convert_bytes_const (P := Try.prog) w 33 5 C n c Try.underlying33 Try.underlying5
  have HN := Lib.hid (new_ok 8 64 w (by omega) (by omega) (by omega) (by omega))
  go_enter Try.func9, Try.ntmps9
  go_upto_region 2 with (go_at_call 10; refine HN.out.mono ?_; rintro e w1 ⟨pd, p, rfl, hD1, hb1, hF1⟩)
  have HW := Lib.hid (write_as (d' := dl1) (r := 0) (Prod.ext dl1_e rfl) (write_any (n := 3) (c := 2) (A := some ⟨w1.heap.size + 1 + 1, 0, none⟩) (ls := [[97], [98]]) (l := [97, 98]) (m := 2) (w := ((w1.alloc (.cells #[.int .u8 97] 5 (1, 2))).alloc (.cells #[.int .u8 98] 5 (1, 2))).alloc (.cells #[.slice (some ⟨w1.heap.size, 0, none⟩) 1 1, .slice (some ⟨w1.heap.size + 1, 0, none⟩) 1 1] 33)) (hD1.keep (((below_alloc w1 _).alloc (by simp) _).alloc (by simp; omega) _)) dl0_ok rfl rfl (by omega) (by simp) (by
    have h1 := rdl_two (t := 33) (c := 1) (c' := 1) ((rd_lit w1 [97] 5 (1, 2)).below (below_alloc _ (.cells #[.int .u8 98] 5 (1, 2)))) rfl (rd_lit (w1.alloc (.cells #[.int .u8 97] 5 (1, 2))) [98] 5 (1, 2)) rfl
    simp only [World.size_alloc] at h1
    exact h1)))
  have kc2 := Joins.run_convert_bytes_const_at (P := Try.prog) (w1.alloc (.cells #[.int .u8 97] 5 (1, 2))) 33 5 #[.int .u8 98] 1 1 (w1.heap.size + 1) (by simp) Try.underlying33 Try.underlying5
  go_upto_region 4 with (first
    | (go_at_call 11; refine (num_any _ _).mono ?_; rintro e w' ⟨rfl, rfl⟩)
    | (go_at_call 13; refine HW.out.mono ?_; rintro e w2 ⟨rfl, p2, hA2⟩))
  have hO1 : Own w pd p dl0 w1 := ⟨hD1, hb1, hF1⟩
  have hO2 := (hO1.below (((below_alloc w1 _).alloc (by simp) _).alloc (by simp; omega) _)).act hA2
  refine wp_world (fun W => Own w pd p2 dl1 W) hO2 ?_
  clear hO1 hO2 hA2 hD1 hb1 hF1 HW HN kc2
  intro w3 hO3
  have HC := Lib.hid (cut_any hO3.disk 0)
  go_upto_region 5 with (go_at_call 12; refine HC.out.mono ?_; rintro e w4 ⟨rfl, hA4⟩)
  refine wp_world (fun W => Own w pd p2 dl2 W) (hO3.act hA4) ?_
  clear hO3 hA4 HC
  intro w5 hO5
  have kc3 := Joins.run_convert_bytes_const_at (P := Try.prog) w5 33 5 #[.int .u8 120] 1 1 w5.heap.size rfl Try.underlying33 Try.underlying5
  have HW := Lib.hid (write_as (d' := dl3) (r := 20) (Prod.ext dl3_e rfl) (write_any (n := 3) (c := 1) (A := some ⟨w5.heap.size + 1, 0, none⟩) (ls := [[120]]) (l := [120]) (m := 1) (w := (w5.alloc (.cells #[.int .u8 120] 5 (1, 2))).alloc (.cells #[.slice (some ⟨w5.heap.size, 0, none⟩) 1 1] 33)) (hO5.disk.keep ((below_alloc w5 _).alloc (by simp) _)) dl2_ok rfl rfl (by omega) (by simp) (by
    have h1 := rdl_one (t := 33) (c := 1) (rd_lit w5 [120] 5 (1, 2)) rfl
    simp only [World.size_alloc] at h1
    exact h1)))
  clear kc
  go_upto_region 6 with (go_at_call 13; refine HW.out.mono ?_; rintro e w6 ⟨rfl, p6, hA6⟩)
  refine wp_world (fun W => Own w pd p6 dl3 W) ((hO5.below ((below_alloc w5 _).alloc (by simp) _)).act hA6) ?_
  clear hO5 hA6 HW kc3
  intro w7 hO7
  have HD := Lib.hid (dead_any hO7.disk)
  have HR := Lib.hid (restore_any hO7.disk)
  have Hoff := Lib.hid dl3_off
  go_upto_region 8 with (first
    | (go_at_call 17; refine HD.out.mono ?_; rintro e w' ⟨rfl, rfl⟩; rw [Hoff.out])
    | (go_at_call 14; refine HR.out.mono ?_; rintro e w8 ⟨rfl, p8, hA8⟩))
  refine wp_world (fun W => Own w pd p8 dl4 W) (hO7.act hA8) ?_
  clear hO7 hA8 HD HR
  intro w9 hO9
  obtain ⟨bl, hbl⟩ : ∃ bl, bl = (dl4.read 3).2 := ⟨_, rfl⟩
  have hbl64 : bl.length = 64 := by rw [hbl]; exact dl4_read.2.1
  have hbl3 : bl.take 3 = [97, 98, 0] := by rw [hbl]; exact dl4_read.2.2
  have HRd := Lib.hid (read_as (r := 0) (l := bl) (Prod.ext dl4_read.1 hbl.symm) (read_any (n := 3) hO9.disk dl4_ok))
  rw [hbl64] at HRd
  clear hbl
  go_upto_region 9 with (go_at_call 15; refine HRd.out.mono ?_; rintro e w10 ⟨A, c, rfl, hr10, hc10, hb10⟩)
  refine wp_world (fun W => Own w pd p8 dl4 W ∧ Rd W A bl) ⟨hO9.below hb10, hr10⟩ ?_
  clear hO9 hb10 hr10 HRd
  rintro w11 ⟨hO11, hr11⟩
  obtain ⟨b, off, hAe⟩ : ∃ b off, A = some ⟨b, off, none⟩ := by
    obtain ⟨b, off, h1, _⟩ := hr11.at_ (k := 0) (by omega)
    exact ⟨b, off, h1⟩
  subst hAe
  have hst := run_str (P := Try.prog) Try.underlying33 Try.underlying5 Try.underlying9 w11 (some ⟨b, off, none⟩) 3 c [97, 98, 0] rfl (by have := hr11.take_ 3; rwa [hbl3] at this)
  have q3 : (3 : Int) ≤ (c : Int) := by omega
  have HLg := Lib.hid (log_any hO11.disk dl4_ok)
  rw [dl4_log] at HLg
  clear hbl3 hbl64
  go_wp2_with (first
    | (go_at_call 11; refine (num_any _ _).mono ?_; rintro e w' ⟨rfl, rfl⟩)
    | (go_at_call 16; refine HLg.out.mono ?_; rintro e w12 ⟨v, rfl, hown, hb12⟩; obtain ⟨B, cB, rfl, hri, _, _⟩ := own_rdi hown)
    | (go_at_call 24; refine (ints_any B (some ⟨w12.heap.size, 0, none⟩) [3] [3] 1 cB 1 1 (w12.alloc (.cells #[.int .i64 3] 3)) rfl rfl (by omega) (by omega) (hri.below (below_alloc _ _)) (rdi_lit w12)).mono ?_; rintro e w13 ⟨rfl, q, rfl⟩))
  go_ret
  exact ⟨rfl, below_drewN ((below_step hO11.bel hb12).alloc (Nat.le_trans hO11.bel.size hb12.size) _) q⟩
end Go.Proofs.Ytclbhhgifjegiaa
