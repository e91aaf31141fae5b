/- Heap (layer 9): the walker; the walks of fails, leaf. -/
import Derived.Test.YtefnjplfemgibaaHpG
import Derived.Test.YtefnjplfemgibaaHpF
namespace Go.Proofs.Ytefnjplfemgibaa
open Go.RowKit
set_option linter.unusedVariables false

section
variable {W W' : World} {pw : Nat} {Aw Aa Ar : Option Addr} {lw cw la ca lr cr : Nat} {ws : List Nat} {nm : List (List UInt8)}
/-- The cells of a walker. -/
def WC (Aw : Option Addr) (lw cw : Nat) (Aa : Option Addr) (la ca : Nat) (Ar : Option Addr) (lr cr : Nat) (left e : Int) : Array Value := #[.slice Aw lw cw, .slice Aa la ca, .slice Ar lr cr, .int .i64 left, .int .i64 e]
def zT : Value := .agg #[.int .i64 0, .int .i64 0, .string ⟨#[]⟩, .slice none 0 0]
set_option maxHeartbeats 1000000 in
theorem wfails_v {left e : Int} (hB : Blk W pw 79 (WC Aw lw cw Aa la ca Ar lr cr left 0)) : Calls Try.prog 68 #[.pointer (some ⟨pw, 0, none⟩), .int .i64 e] W fun r W' => r = .returned zT ∧ Blk W' pw 79 (WC Aw lw cw Aa la ca Ar lr cr left e) ∧ Fr (fun k => k = pw) W W' := by
  unfold WC at *
  have HB := Lib.hid hB
  clear hB
  obtain ⟨g, hg⟩ : ∃ g, W.heap.size = g := ⟨_, rfl⟩
  have HG := Lib.hid hg
  go_enter Try.func68, Try.ntmps68
  go_upto_region 1 with (fail)
  refine wp_world (fun V => Below W.heap.size W V ∧ Blk V g 37 #[.int .i64 0, .int .i64 0, .string ⟨#[]⟩, .slice none 0 0]) ⟨below_alloc _ _, by rw [← HG.out]; exact Blk.new _ _ _⟩ ?_
  rintro V ⟨hb, hk⟩
  have hw := HB.out.keep hb
  have hgp : g ≠ pw := by have := HB.out.lt; omega
  have HK := Lib.hid hk
  have HW := Lib.hid hw
  have HBL := Lib.hid hb
  have x4 := hw.cell 4
  have xf4 := hw.frozen 4
  have z0 := hk.cell 0
  have z1 := hk.cell 1
  have z2 := hk.cell 2
  have z3 := hk.cell 3
  have zf0 := hk.frozen 0
  have zf1 := hk.frozen 1
  have zf2 := hk.frozen 2
  have zf3 := hk.frozen 3
  clear hb hk hw hg
  go_upto_region 3 with (fail)
  have h1 := HW.out.set_ 4 (.int .i64 e)
  have h2 : Blk (V.setCell ⟨pw, 4, none⟩ (.int .i64 e)) g 37 #[.int .i64 0, .int .i64 0, .string ⟨#[]⟩, .slice none 0 0] := HK.out.far (p := ⟨pw, 4, none⟩) hgp _
  refine wp_world (fun V => Blk V pw 79 #[.slice Aw lw cw, .slice Aa la ca, .slice Ar lr cr, .int .i64 left, .int .i64 e] ∧ Blk V g 37 #[.int .i64 0, .int .i64 0, .string ⟨#[]⟩, .slice none 0 0] ∧ Fr (fun k => k = pw) W V) ⟨by simpa using h1, h2, (Fr.of_below HBL.out _).same (Fr.setCell (fun k => k = pw) V (p := ⟨pw, 4, none⟩) (fun _ => rfl) _)⟩ ?_
  clear h1 h2 x4 xf4 z0 z1 z2 z3 zf0 zf1 zf2 zf3 HK HW HBL
  rintro V2 ⟨h1, h2, h3⟩
  have HW := Lib.hid h1
  have HK := Lib.hid h2
  have HF := Lib.hid h3
  have z0 := h2.cell 0
  have z1 := h2.cell 1
  have z2 := h2.cell 2
  have z3 := h2.cell 3
  have zf0 := h2.frozen 0
  have zf1 := h2.frozen 1
  have zf2 := h2.frozen 2
  have zf3 := h2.frozen 3
  clear h1 h2 h3
  go_wp2
  have hB2 := HK.out.set4 (.int .i64 0) (.int .i64 0) (.string ⟨#[]⟩) (.slice none 0 0)
  have y0 := hB2.cell 0
  have y1 := hB2.cell 1
  have y2 := hB2.cell 2
  have y3 := hB2.cell 3
  refine bodyPost_ret (v := zT) (by simp [zT, results, Try.results68, go_sem, y0, y1, y2, y3]) rfl ?_
  have hfr := fr_set4 V2 g (.int .i64 0) (.int .i64 0) (.string ⟨#[]⟩) (.slice none 0 0)
  exact ⟨rfl, hfr.blk HW.out (fun e9 => hgp e9.symm), HF.out.trans hfr (fun k hk e9 => by have := HG.out; omega)⟩
set_option maxHeartbeats 1000000 in
theorem ppid_v (n : Int) (W : World) : Calls Try.prog 94 #[.int .i64 n] W fun e w' => e = .returned (.agg #[.int .i64 5, .int .i64 n, .string ⟨#[]⟩, .slice none 0 0]) ∧ Below W.heap.size W w' := by
  go_enter Try.func94, Try.ntmps94
  go_wp2
  exact bodyPost_ret (v := .agg #[.int .i64 5, .int .i64 n, .string ⟨#[]⟩, .slice none 0 0]) (by simp [results, Try.results94, go_sem]) rfl ⟨rfl, below_alloc _ _⟩
set_option maxHeartbeats 1000000 in
theorem pref_v (n : Int) (W : World) : Calls Try.prog 95 #[.int .i64 n] W fun e w' => e = .returned (.agg #[.int .i64 3, .int .i64 n, .string ⟨#[]⟩, .slice none 0 0]) ∧ Below W.heap.size W w' := by
  go_enter Try.func95, Try.ntmps95
  go_wp2
  exact bodyPost_ret (v := .agg #[.int .i64 3, .int .i64 n, .string ⟨#[]⟩, .slice none 0 0]) (by simp [results, Try.results95, go_sem]) rfl ⟨rfl, below_alloc _ _⟩
/-- What leaf hands back. -/
def LeafEnds (pw : Nat) (W : World) (r : Option TV) (e : Ending) (W' : World) : Prop := ∃ (k i : Int) (s : List UInt8), e = .returned (.tuple #[.agg #[.int .i64 k, .int .i64 i, .string ⟨s.toArray⟩, .slice none 0 0], .bool r.isSome]) ∧ (∀ t, r = some t → t = .mk k i s []) ∧ Below W.heap.size W W'
end
end Go.Proofs.Ytefnjplfemgibaa
