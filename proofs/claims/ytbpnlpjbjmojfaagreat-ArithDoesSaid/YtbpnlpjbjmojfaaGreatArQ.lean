/- Arith (layer 14): the tables of functions are made. Written by argenp.py. -/
import Derived.Test.YtbpnlpjbjmojfaaGreatArP
namespace Go.Proofs.YtbpnlpjbjmojfaaGreat
open Go.RowKit Go.Maps Go.WideMaps
set_option linter.unusedVariables false
section
variable {W w V V' : World} {u u1 u2 : Value} {t t1 t2 : TV}
/-- A table under way, in the block that was made first. -/
structure TW (Sv : Nat → World → Value → List UInt8 → Prop) (W V : World) (ns : List (List UInt8)) : Prop where
  tab : TabS Tryz.prog 9 Sv V W.heap.size ns
  bel : Below W.heap.size W V
theorem TabS.lt {P : Program} {k : TypeId} {Sv : Nat → World → Value → List UInt8 → Prop} {b : Nat} {ns : List (List UInt8)} (h : TabS P k Sv V b ns) : b < V.heap.size := by
  obtain ⟨l, h1, _⟩ := h
  exact h1.lt
theorem tw_made (Sv : Nat → World → Value → List UInt8 → Prop) (W : World) : TW Sv W (W.alloc (.map #[] 0)) [] := ⟨tabS_made _ _ _ _, below_alloc _ _⟩
theorem wpList_insW {e ty t : TypeId} {Sv : Nat → World → Value → List UInt8 → Prop} {ns : List (List UInt8)} {ops : Array Oper} {rest : List Oper} {dst : Option Nat} {pos : String} {after : Array Edge} {a : Act} {Q : Exit → Act → World → Prop} {m x v : Operand}
    (hm : Mono Sv) (ht : Tryz.prog.underlying t = some (.map 9 e)) (HT : Hid (TW Sv W w ns)) (hlen : ns.length < 1000) (s : List UInt8) (val : Value) (hem : a.eval m = .map (some W.heap.size)) (hex : a.eval x = .string ⟨s.toArray⟩) (hev : a.eval v = val) (hs : s.length < 1000) (hS : Hid (Sv W.heap.size w val s))
    (hK : ∀ w', Hid (TW Sv W w' (ns ++ [s])) → wpList Tryz.prog ops Q rest (a.put dst undef) w') :
    wpList Tryz.prog ops Q ({ dst := dst, op := Op.insert t m x v, type := ty, pos := pos, after := after, guard := none } :: rest) a w :=
  wpList_insS hm ksA ht (show Hid (TabS _ _ _ _ _ _) from HT.out.tab) hlen s val hem hex hev (keyN (by unfold maxLen; omega)) hS fun w' h1 h2 =>
    hK w' ⟨h1.out, HT.out.bel.trans (h2.out.below HT.out.bel.size (fun k hk => by rw [hk]; exact Nat.le_refl _))⟩
variable {Sv : Nat → World → Value → List UInt8 → Prop} {ns : List (List UInt8)}
theorem TW.keep (h : TW Sv W w ns) (hm : Mono Sv) (hb : Below w.heap.size w V) : TW Sv W V ns := ⟨h.tab.keep hm hb, below_step h.bel hb⟩
theorem TW.ne (h : TW Sv W w ns) {g : Nat} (hg : w.heap.size ≤ g) : g ≠ W.heap.size := by have := h.tab.lt; omega

theorem numbers_w (hT : TW Sv W w ns) (hm : Mono Sv) (f : Fn) (ca cb : Array Value) : Calls Tryz.prog 51 #[.func f ca cb] w fun e w' => ∃ g, e = .returned (.func (.func 92) #[] #[.pointer (some ⟨g, 0, none⟩)]) ∧ TW Sv W w' ns ∧ g ≠ W.heap.size ∧ Blk w' g 73 #[.func f ca cb] :=
  (numbers_m f ca cb).mono (by rintro e w' ⟨g, rfl, hb, hg, hB⟩; exact ⟨g, rfl, hT.keep hm hb, hT.ne hg, hB⟩)
theorem order_w (hT : TW Sv W w ns) (hm : Mono Sv) (f : Fn) (ca cb : Array Value) : Calls Tryz.prog 58 #[.func f ca cb] w fun e w' => ∃ g, e = .returned (.func (.func 96) #[] #[.pointer (some ⟨g, 0, none⟩)]) ∧ TW Sv W w' ns ∧ g ≠ W.heap.size ∧ Blk w' g 77 #[.func f ca cb] :=
  (order_m f ca cb).mono (by rintro e w' ⟨g, rfl, hb, hg, hB⟩; exact ⟨g, rfl, hT.keep hm hb, hT.ne hg, hB⟩)
theorem truths_w (hT : TW Sv W w ns) (hm : Mono Sv) (f : Fn) (ca cb : Array Value) : Calls Tryz.prog 65 #[.func f ca cb] w fun e w' => ∃ g, e = .returned (.func (.func 98) #[] #[.pointer (some ⟨g, 0, none⟩)]) ∧ TW Sv W w' ns ∧ g ≠ W.heap.size ∧ Blk w' g 79 #[.func f ca cb] :=
  (truths_m f ca cb).mono (by rintro e w' ⟨g, rfl, hb, hg, hB⟩; exact ⟨g, rfl, hT.keep hm hb, hT.ne hg, hB⟩)
theorem list_w (hT : TW Sv W w ns) (hm : Mono Sv) (f : Fn) (ca cb : Array Value) : Calls Tryz.prog 46 #[.func f ca cb] w fun e w' => ∃ g, e = .returned (.func (.func 91) #[] #[.pointer (some ⟨g, 0, none⟩)]) ∧ TW Sv W w' ns ∧ g ≠ W.heap.size ∧ Blk w' g 70 #[.func f ca cb] :=
  (list_m f ca cb).mono (by rintro e w' ⟨g, rfl, hb, hg, hB⟩; exact ⟨g, rfl, hT.keep hm hb, hT.ne hg, hB⟩)
theorem kind_w (hT : TW Sv W w ns) (hm : Mono Sv) (row : Array Value) (m c : Nat) : Calls Tryz.prog 38 #[.slice (some ⟨w.heap.size, 0, none⟩) m c] (w.alloc (.cells row 3)) fun e w' => ∃ g ga, e = .returned (.func (.func 86) #[] #[.pointer (some ⟨g, 0, none⟩)]) ∧ TW Sv W w' ns ∧ g ≠ W.heap.size ∧ ga ≠ W.heap.size ∧ Blk w' g 89 #[.slice (some ⟨ga, 0, none⟩) m c] ∧ Blk w' ga 3 row :=
  (kind_m (some ⟨w.heap.size, 0, none⟩) m c).mono (by rintro e w' ⟨g, rfl, hb, hg, hB⟩; exact ⟨g, w.heap.size, rfl, hT.keep hm (below_step (below_alloc _ _) hb), hT.ne (by simp at hg; omega), hT.ne (Nat.le_refl _), hB, (Blk.new _ _ _).keep hb⟩)
theorem of_w (hT : TW Sv W w ns) (hm : Mono Sv) (k : Int) (f : Fn) (ca cb : Array Value) : Calls Tryz.prog 39 #[.int .i64 k, .func f ca cb] w fun e w' => ∃ g1 g, e = .returned (.func (.func 88) #[] #[.pointer (some ⟨g1, 0, none⟩), .pointer (some ⟨g, 0, none⟩)]) ∧ TW Sv W w' ns ∧ g1 ≠ W.heap.size ∧ g ≠ W.heap.size ∧ Blk w' g1 3 #[.int .i64 k] ∧ Blk w' g 42 #[.func f ca cb] :=
  (of_m k f ca cb).mono (by rintro e w' ⟨g1, g, rfl, hb, hg1, hg, hB1, hB⟩; exact ⟨g1, g, rfl, hT.keep hm hb, hT.ne hg1, hT.ne hg, hB1, hB⟩)
theorem parts_w (hT : TW Sv W w ns) (hm : Mono Sv) (f : Fn) (ca cb : Array Value) : Calls Tryz.prog 55 #[.func f ca cb] w fun e w' => ∃ g1 g, e = .returned (.func (.func 92) #[] #[.pointer (some ⟨g, 0, none⟩)]) ∧ TW Sv W w' ns ∧ g1 ≠ W.heap.size ∧ g ≠ W.heap.size ∧ Blk w' g1 75 #[.func f ca cb] ∧ Blk w' g 73 #[.func (.func 95) #[] #[.pointer (some ⟨g1, 0, none⟩)]] :=
  (parts_m f ca cb).mono (by rintro e w' ⟨g1, g, rfl, hb, hg1, hg, hB1, hB⟩; exact ⟨g1, g, rfl, hT.keep hm hb, hT.ne hg1, hT.ne hg, hB1, hB⟩)
set_option maxRecDepth 100000 in
set_option maxHeartbeats 4000000 in
theorem ones_m (W : World) : Calls Tryz.prog 18 #[] W fun e w' => ∃ b, e = .returned (.map (some b)) ∧ Below W.heap.size W w' ∧ W.heap.size ≤ b ∧ TabS Tryz.prog 9 Srv1 w' b onesN := by
  have HT := Lib.hid (tw_made Srv1 W)
  have hmm := @run_makeMap Tryz.prog
  go_enter Tryz.func18, Tryz.ntmps18
  go_wp2_with (first
    | (go_at_call 38; refine (kind_w HT.out mono1 _ _ _).mono ?_; rintro e w1 ⟨g, ga, rfl, hT, hg, hga, hB, hA⟩; have HT := Lib.hid hT; have HG := Lib.hid hg; have HGA := Lib.hid hga; have HB := Lib.hid hB; have HA := Lib.hid hA; clear hT hg hga hB hA)
    | (go_at_call 39; refine (of_w HT.out mono1 _ _ _ _).mono ?_; rintro e w1 ⟨g1, g, rfl, hT, hg1, hg, hB1, hB⟩; have HT := Lib.hid hT; have HG1 := Lib.hid hg1; have HG := Lib.hid hg; have HB1 := Lib.hid hB1; have HB := Lib.hid hB; clear hT hg1 hg hB1 hB)
    | (go_at_call 46; refine (list_w HT.out mono1 _ _ _).mono ?_; rintro e w1 ⟨g, rfl, hT, hg, hB⟩; have HT := Lib.hid hT; have HG := Lib.hid hg; have HB := Lib.hid hB; clear hT hg hB)
    | ((with_reducible refine wpList_insW (x := .const (.string ⟨#[45]⟩)) mono1 Tryz.underlying45 HT (by simp) [45] _ ?_ ?_ ?_ (by simp) (Lib.hid (srv1_neg _)) ?_); rfl; rfl; rfl; intro w1 HT)
    | ((with_reducible refine wpList_insW (x := .const (.string ⟨#[110, 111, 116]⟩)) mono1 Tryz.underlying45 HT (by simp) [110, 111, 116] _ ?_ ?_ ?_ (by simp) (Lib.hid (srv1_not _)) ?_); rfl; rfl; rfl; intro w1 HT)
    | ((with_reducible refine wpList_insW (x := .const (.string ⟨#[105, 115, 95, 105, 110, 116, 101, 103, 101, 114]⟩)) mono1 Tryz.underlying45 HT (by simp) [105, 115, 95, 105, 110, 116, 101, 103, 101, 114] _ ?_ ?_ ?_ (by simp) (Lib.hid (srv1_is_integer HB.out HA.out HG.out HGA.out)) ?_); rfl; rfl; rfl; intro w1 HT)
    | ((with_reducible refine wpList_insW (x := .const (.string ⟨#[105, 115, 95, 97, 116, 111, 109]⟩)) mono1 Tryz.underlying45 HT (by simp) [105, 115, 95, 97, 116, 111, 109] _ ?_ ?_ ?_ (by simp) (Lib.hid (srv1_is_atom HB.out HA.out HG.out HGA.out)) ?_); rfl; rfl; rfl; intro w1 HT)
    | ((with_reducible refine wpList_insW (x := .const (.string ⟨#[105, 115, 95, 112, 105, 100]⟩)) mono1 Tryz.underlying45 HT (by simp) [105, 115, 95, 112, 105, 100] _ ?_ ?_ ?_ (by simp) (Lib.hid (srv1_is_pid HB.out HA.out HG.out HGA.out)) ?_); rfl; rfl; rfl; intro w1 HT)
    | ((with_reducible refine wpList_insW (x := .const (.string ⟨#[105, 115, 95, 114, 101, 102, 101, 114, 101, 110, 99, 101]⟩)) mono1 Tryz.underlying45 HT (by simp) [105, 115, 95, 114, 101, 102, 101, 114, 101, 110, 99, 101] _ ?_ ?_ ?_ (by simp) (Lib.hid (srv1_is_reference HB.out HA.out HG.out HGA.out)) ?_); rfl; rfl; rfl; intro w1 HT)
    | ((with_reducible refine wpList_insW (x := .const (.string ⟨#[105, 115, 95, 102, 117, 110, 99, 116, 105, 111, 110]⟩)) mono1 Tryz.underlying45 HT (by simp) [105, 115, 95, 102, 117, 110, 99, 116, 105, 111, 110] _ ?_ ?_ ?_ (by simp) (Lib.hid (srv1_is_function HB.out HA.out HG.out HGA.out)) ?_); rfl; rfl; rfl; intro w1 HT)
    | ((with_reducible refine wpList_insW (x := .const (.string ⟨#[105, 115, 95, 116, 117, 112, 108, 101]⟩)) mono1 Tryz.underlying45 HT (by simp) [105, 115, 95, 116, 117, 112, 108, 101] _ ?_ ?_ ?_ (by simp) (Lib.hid (srv1_is_tuple HB.out HA.out HG.out HGA.out)) ?_); rfl; rfl; rfl; intro w1 HT)
    | ((with_reducible refine wpList_insW (x := .const (.string ⟨#[105, 115, 95, 108, 105, 115, 116]⟩)) mono1 Tryz.underlying45 HT (by simp) [105, 115, 95, 108, 105, 115, 116] _ ?_ ?_ ?_ (by simp) (Lib.hid (srv1_is_list HB.out HA.out HG.out HGA.out)) ?_); rfl; rfl; rfl; intro w1 HT)
    | ((with_reducible refine wpList_insW (x := .const (.string ⟨#[104, 100]⟩)) mono1 Tryz.underlying45 HT (by simp) [104, 100] _ ?_ ?_ ?_ (by simp) (Lib.hid (srv1_hd HB1.out HB.out HG1.out HG.out)) ?_); rfl; rfl; rfl; intro w1 HT)
    | ((with_reducible refine wpList_insW (x := .const (.string ⟨#[116, 108]⟩)) mono1 Tryz.underlying45 HT (by simp) [116, 108] _ ?_ ?_ ?_ (by simp) (Lib.hid (srv1_tl HB1.out HB.out HG1.out HG.out)) ?_); rfl; rfl; rfl; intro w1 HT)
    | ((with_reducible refine wpList_insW (x := .const (.string ⟨#[116, 117, 112, 108, 101, 95, 115, 105, 122, 101]⟩)) mono1 Tryz.underlying45 HT (by simp) [116, 117, 112, 108, 101, 95, 115, 105, 122, 101] _ ?_ ?_ ?_ (by simp) (Lib.hid (srv1_tuple_size HB1.out HB.out HG1.out HG.out)) ?_); rfl; rfl; rfl; intro w1 HT)
    | ((with_reducible refine wpList_insW (x := .const (.string ⟨#[116, 117, 112, 108, 101, 95, 116, 111, 95, 108, 105, 115, 116]⟩)) mono1 Tryz.underlying45 HT (by simp) [116, 117, 112, 108, 101, 95, 116, 111, 95, 108, 105, 115, 116] _ ?_ ?_ ?_ (by simp) (Lib.hid (srv1_tuple_to_list HB1.out HB.out HG1.out HG.out)) ?_); rfl; rfl; rfl; intro w1 HT)
    | ((with_reducible refine wpList_insW (x := .const (.string ⟨#[108, 101, 110, 103, 116, 104]⟩)) mono1 Tryz.underlying45 HT (by simp) [108, 101, 110, 103, 116, 104] _ ?_ ?_ ?_ (by simp) (Lib.hid (srv1_length HB.out HG.out)) ?_); rfl; rfl; rfl; intro w1 HT)
    | ((with_reducible refine wpList_insW (x := .const (.string ⟨#[108, 105, 115, 116, 95, 116, 111, 95, 116, 117, 112, 108, 101]⟩)) mono1 Tryz.underlying45 HT (by simp) [108, 105, 115, 116, 95, 116, 111, 95, 116, 117, 112, 108, 101] _ ?_ ?_ ?_ (by simp) (Lib.hid (srv1_list_to_tuple HB.out HG.out)) ?_); rfl; rfl; rfl; intro w1 HT)
    | ((with_reducible refine wpList_insW (x := .const (.string ⟨#[114, 101, 118, 101, 114, 115, 101]⟩)) mono1 Tryz.underlying45 HT (by simp) [114, 101, 118, 101, 114, 115, 101] _ ?_ ?_ ?_ (by simp) (Lib.hid (srv1_reverse HB.out HG.out)) ?_); rfl; rfl; rfl; intro w1 HT))
  exact bodyPost_ret (v := .map (some W.heap.size)) (by simp [results, Tryz.results18, go_sem]) rfl ⟨_, rfl, HT.out.bel, Nat.le_refl _, HT.out.tab⟩
set_option maxRecDepth 100000 in
set_option maxHeartbeats 4000000 in
theorem twos_m (W : World) : Calls Tryz.prog 19 #[] W fun e w' => ∃ b, e = .returned (.map (some b)) ∧ Below W.heap.size W w' ∧ W.heap.size ≤ b ∧ TabS Tryz.prog 9 Srv2 w' b twosN := by
  have HT := Lib.hid (tw_made Srv2 W)
  have hmm := @run_makeMap Tryz.prog
  go_enter Tryz.func19, Tryz.ntmps19
  go_wp2_with (first
    | (go_at_call 51; refine (numbers_w HT.out mono2 _ _ _).mono ?_; rintro e w1 ⟨g, rfl, hT, hg, hB⟩; have HT := Lib.hid hT; have HG := Lib.hid hg; have HB := Lib.hid hB; clear hT hg hB)
    | (go_at_call 55; refine (parts_w HT.out mono2 _ _ _).mono ?_; rintro e w1 ⟨g1, g, rfl, hT, hg1, hg, hB1, hB⟩; have HT := Lib.hid hT; have HG1 := Lib.hid hg1; have HG := Lib.hid hg; have HB1 := Lib.hid hB1; have HB := Lib.hid hB; clear hT hg1 hg hB1 hB)
    | (go_at_call 58; refine (order_w HT.out mono2 _ _ _).mono ?_; rintro e w1 ⟨g, rfl, hT, hg, hB⟩; have HT := Lib.hid hT; have HG := Lib.hid hg; have HB := Lib.hid hB; clear hT hg hB)
    | (go_at_call 65; refine (truths_w HT.out mono2 _ _ _).mono ?_; rintro e w1 ⟨g, rfl, hT, hg, hB⟩; have HT := Lib.hid hT; have HG := Lib.hid hg; have HB := Lib.hid hB; clear hT hg hB)
    | ((with_reducible refine wpList_insW (x := .const (.string ⟨#[43]⟩)) mono2 Tryz.underlying49 HT (by simp) [43] _ ?_ ?_ ?_ (by simp) (Lib.hid (srv2_add HB.out HG.out)) ?_); rfl; rfl; rfl; intro w1 HT)
    | ((with_reducible refine wpList_insW (x := .const (.string ⟨#[45]⟩)) mono2 Tryz.underlying49 HT (by simp) [45] _ ?_ ?_ ?_ (by simp) (Lib.hid (srv2_sub HB.out HG.out)) ?_); rfl; rfl; rfl; intro w1 HT)
    | ((with_reducible refine wpList_insW (x := .const (.string ⟨#[42]⟩)) mono2 Tryz.underlying49 HT (by simp) [42] _ ?_ ?_ ?_ (by simp) (Lib.hid (srv2_mul HB.out HG.out)) ?_); rfl; rfl; rfl; intro w1 HT)
    | ((with_reducible refine wpList_insW (x := .const (.string ⟨#[100, 105, 118]⟩)) mono2 Tryz.underlying49 HT (by simp) [100, 105, 118] _ ?_ ?_ ?_ (by simp) (Lib.hid (srv2_div HB1.out HB.out HG1.out HG.out)) ?_); rfl; rfl; rfl; intro w1 HT)
    | ((with_reducible refine wpList_insW (x := .const (.string ⟨#[114, 101, 109]⟩)) mono2 Tryz.underlying49 HT (by simp) [114, 101, 109] _ ?_ ?_ ?_ (by simp) (Lib.hid (srv2_rem HB1.out HB.out HG1.out HG.out)) ?_); rfl; rfl; rfl; intro w1 HT)
    | ((with_reducible refine wpList_insW (x := .const (.string ⟨#[61, 61]⟩)) mono2 Tryz.underlying49 HT (by simp) [61, 61] _ ?_ ?_ ?_ (by simp) (Lib.hid (srv2_eq HB.out HG.out)) ?_); rfl; rfl; rfl; intro w1 HT)
    | ((with_reducible refine wpList_insW (x := .const (.string ⟨#[47, 61]⟩)) mono2 Tryz.underlying49 HT (by simp) [47, 61] _ ?_ ?_ ?_ (by simp) (Lib.hid (srv2_ne HB.out HG.out)) ?_); rfl; rfl; rfl; intro w1 HT)
    | ((with_reducible refine wpList_insW (x := .const (.string ⟨#[60]⟩)) mono2 Tryz.underlying49 HT (by simp) [60] _ ?_ ?_ ?_ (by simp) (Lib.hid (srv2_lt HB.out HG.out)) ?_); rfl; rfl; rfl; intro w1 HT)
    | ((with_reducible refine wpList_insW (x := .const (.string ⟨#[62]⟩)) mono2 Tryz.underlying49 HT (by simp) [62] _ ?_ ?_ ?_ (by simp) (Lib.hid (srv2_gt HB.out HG.out)) ?_); rfl; rfl; rfl; intro w1 HT)
    | ((with_reducible refine wpList_insW (x := .const (.string ⟨#[61, 60]⟩)) mono2 Tryz.underlying49 HT (by simp) [61, 60] _ ?_ ?_ ?_ (by simp) (Lib.hid (srv2_le HB.out HG.out)) ?_); rfl; rfl; rfl; intro w1 HT)
    | ((with_reducible refine wpList_insW (x := .const (.string ⟨#[62, 61]⟩)) mono2 Tryz.underlying49 HT (by simp) [62, 61] _ ?_ ?_ ?_ (by simp) (Lib.hid (srv2_ge HB.out HG.out)) ?_); rfl; rfl; rfl; intro w1 HT)
    | ((with_reducible refine wpList_insW (x := .const (.string ⟨#[97, 110, 100]⟩)) mono2 Tryz.underlying49 HT (by simp) [97, 110, 100] _ ?_ ?_ ?_ (by simp) (Lib.hid (srv2_and HB.out HG.out)) ?_); rfl; rfl; rfl; intro w1 HT)
    | ((with_reducible refine wpList_insW (x := .const (.string ⟨#[111, 114]⟩)) mono2 Tryz.underlying49 HT (by simp) [111, 114] _ ?_ ?_ ?_ (by simp) (Lib.hid (srv2_or HB.out HG.out)) ?_); rfl; rfl; rfl; intro w1 HT)
    | ((with_reducible refine wpList_insW (x := .const (.string ⟨#[99, 111, 110, 115]⟩)) mono2 Tryz.underlying49 HT (by simp) [99, 111, 110, 115] _ ?_ ?_ ?_ (by simp) (Lib.hid (srv2_cons _)) ?_); rfl; rfl; rfl; intro w1 HT)
    | ((with_reducible refine wpList_insW (x := .const (.string ⟨#[101, 108, 101, 109, 101, 110, 116]⟩)) mono2 Tryz.underlying49 HT (by simp) [101, 108, 101, 109, 101, 110, 116] _ ?_ ?_ ?_ (by simp) (Lib.hid (srv2_element _)) ?_); rfl; rfl; rfl; intro w1 HT)
    | ((with_reducible refine wpList_insW (x := .const (.string ⟨#[97, 112, 112, 101, 110, 100]⟩)) mono2 Tryz.underlying49 HT (by simp) [97, 112, 112, 101, 110, 100] _ ?_ ?_ ?_ (by simp) (Lib.hid (srv2_append _)) ?_); rfl; rfl; rfl; intro w1 HT))
  exact bodyPost_ret (v := .map (some W.heap.size)) (by simp [results, Tryz.results19, go_sem]) rfl ⟨_, rfl, HT.out.bel, Nat.le_refl _, HT.out.tab⟩
end
end Go.Proofs.YtbpnlpjbjmojfaaGreat
