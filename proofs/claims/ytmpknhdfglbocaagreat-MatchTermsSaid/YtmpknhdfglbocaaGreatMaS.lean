/- Layer 13: the walk of the document's match at leaves. Written by magens.py. -/
import Derived.Test.YtmpknhdfglbocaaGreatMaR
import Derived.Test.YtmpknhdfglbocaaGreatMaO
namespace Go.Proofs.YtmpknhdfglbocaaGreat
open Go.RowKit
set_option linter.unusedVariables false

/-- Names that are few: some that came in, then others, each once, of a row. -/
def LimN (K : List (List UInt8)) (ns : List (List UInt8)) : Prop := ∃ l1 l2, ns = l1 ++ l2 ∧ l1.length ≤ 1000 ∧ l2.Nodup ∧ ∀ s ∈ l2, s ∈ K
theorem LimN.len {K ns : List (List UInt8)} (h : LimN K ns) : ns.length ≤ 1000 + K.length := by
  obtain ⟨l1, l2, rfl, h1, h2, h3⟩ := h
  have := nodup_le h2 h3
  rw [List.length_append]
  omega
theorem LimN.snoc {K ns : List (List UInt8)} (h : LimN K ns) {s : List UInt8} (hs : s ∈ K) (hn : s ∉ ns) : LimN K (ns ++ [s]) := by
  obtain ⟨l1, l2, rfl, h1, h2, h3⟩ := h
  refine ⟨l1, l2 ++ [s], by rw [List.append_assoc], h1, ?_, fun x hx => ?_⟩
  · refine List.nodup_append.2 ⟨h2, by simp, fun a ha b hb e => hn ?_⟩
    rw [List.mem_singleton.1 hb] at e
    rw [← e]
    exact List.mem_append_right _ ha
  · rcases List.mem_append.1 hx with hx | hx
    · exact h3 x hx
    · rw [List.mem_singleton.1 hx]; exact hs
/-- How the document's match ends. -/
def RMEnd (K : List (List UInt8)) (W : World) (R : List BV × Bool) (e : Ending) (w' : World) : Prop :=
  ∃ (A : Option Addr) (c : Nat) (E : List (BG (TE w'))), e = .returned (.tuple #[.slice A E.length c, .bool R.2]) ∧ vE E = R.1 ∧ RdB w' A c E ∧ LimN K ((vE E).map (·.1)) ∧ Below W.heap.size W w'
section
variable {W V : World} {K : List (List UInt8)} {E : List (BG (TE W))} {A : Option Addr} {c : Nat}
theorem RMEnd.same (hb : Below W.heap.size W V) (hE : RdB W A c E) (hL : LimN K ((vE E).map (·.1))) {ne : Nat} (hn : E.length = ne) (b : Bool) {R : List BV × Bool} (hR : R = (vE E, b)) : RMEnd K W R (.returned (.tuple #[.slice A ne c, .bool b])) V := by
  subst hR hn
  exact ⟨A, c, upE hb E, by rw [upE_len], vE_up _ _, (hE.below hb).up hb, by rw [vE_up]; exact hL, hb⟩

set_option maxRecDepth 100000 in
set_option maxHeartbeats 4000000 in
theorem rm_k1 (t : TE W) (hE : RdB W A c E) (hL : LimN K ((vE E).map (·.1))) (n : Int) (s : List UInt8) (a : Int) (v4 v5 v6 : Value)  :
    Calls Tryz.prog 32 #[.agg #[.int .i64 1, .int .i64 n, .string ⟨s.toArray⟩, .int .i64 a, v4, v5, v6], .agg #[.int .i64 t.t.kind, .int .i64 t.t.int, .string ⟨t.t.name.toArray⟩, .slice t.A t.t.items.length t.c], .slice A E.length c] W (RMEnd K W (vE E, t.t.kind == 1 && t.t.int == n)) := by
  obtain ⟨ne, hne⟩ : ∃ ne, E.length = ne := ⟨_, rfl⟩
  have HEN := Lib.hid (fun V (hb : Below W.heap.size W V) (b : Bool) (R : List BV × Bool) (hR : R = (vE E, b)) => RMEnd.same hb hE hL hne b hR)
  rw [hne]
  obtain ⟨R, hR⟩ : ∃ R, ((vE E, t.t.kind == 1 && t.t.int == n) : List BV × Bool) = R := ⟨_, rfl⟩
  rw [hR]
  have HR := Lib.hid hR
  clear hE hL hne hR
  generalize t.t.items.length = tl at *
  generalize t.t.kind = tk at *
  generalize t.t.int = ti at *
  generalize t.t.name = tn at *
  generalize t.A = tA at *
  generalize t.c = tc at *
  cases hk : (tk == 1) with
  | false =>
    have HRR := Lib.hid (show R = (vE E, false) by rw [← HR.out, hk]; rfl)
    go_enter Tryz.func32, Tryz.ntmps32
    go_upto_region 1 with (fail)
    refine wp_world (fun V => Blk V W.heap.size 29 #[.int .i64 1, .int .i64 n, .string ⟨s.toArray⟩, .int .i64 a, v4, v5, v6] ∧ Blk V (W.heap.size + 1) 35 #[.int .i64 tk, .int .i64 ti, .string ⟨tn.toArray⟩, .slice tA tl tc] ∧ Below W.heap.size W V) (two_box W _ _) ?_
    rintro V ⟨h7, h4, hb⟩
    have x0 := h7.cell 0
    have x1 := h7.cell 1
    have x2 := h7.cell 2
    have x4 := h7.cell 4
    have y0 := h4.cell 0
    have y1 := h4.cell 1
    have y2 := h4.cell 2
    have y3 := h4.cell 3
    have hl7 := h7.lt
    have hl4 := h4.lt
    have HB := Lib.hid hb
    clear h7 h4 hb
    go_wp2
    go_quiet (fail)
    go_wp2
    refine bodyPost_ret (v := .tuple #[.slice A ne c, .bool false]) (by simp [results, Tryz.results32, go_sem]) rfl ?_
    exact HEN.out _ (below_step HB.out (below_drewN (Below.refl _ _) _)) false R HRR.out
  | true =>
    obtain ⟨z, hz⟩ : ∃ z, (ti == n) = z := ⟨_, rfl⟩
    have HRR := Lib.hid (show R = (vE E, z) by rw [← HR.out, hk, ← hz]; rfl)
    cases z with
    | false =>
      go_enter Tryz.func32, Tryz.ntmps32
      go_upto_region 1 with (fail)
      refine wp_world (fun V => Blk V W.heap.size 29 #[.int .i64 1, .int .i64 n, .string ⟨s.toArray⟩, .int .i64 a, v4, v5, v6] ∧ Blk V (W.heap.size + 1) 35 #[.int .i64 tk, .int .i64 ti, .string ⟨tn.toArray⟩, .slice tA tl tc] ∧ Below W.heap.size W V) (two_box W _ _) ?_
      rintro V ⟨h7, h4, hb⟩
      have x0 := h7.cell 0
      have x1 := h7.cell 1
      have x2 := h7.cell 2
      have x4 := h7.cell 4
      have y0 := h4.cell 0
      have y1 := h4.cell 1
      have y2 := h4.cell 2
      have y3 := h4.cell 3
      have hl7 := h7.lt
      have hl4 := h4.lt
      have HB := Lib.hid hb
      clear h7 h4 hb
      go_wp2
      go_quiet (fail)
      go_wp2
      refine bodyPost_ret (v := .tuple #[.slice A ne c, .bool false]) (by simp [results, Tryz.results32, go_sem]) rfl ?_
      exact HEN.out _ (below_step HB.out (below_drewN (Below.refl _ _) _)) _ R HRR.out
    | true =>
      go_enter Tryz.func32, Tryz.ntmps32
      go_upto_region 1 with (fail)
      refine wp_world (fun V => Blk V W.heap.size 29 #[.int .i64 1, .int .i64 n, .string ⟨s.toArray⟩, .int .i64 a, v4, v5, v6] ∧ Blk V (W.heap.size + 1) 35 #[.int .i64 tk, .int .i64 ti, .string ⟨tn.toArray⟩, .slice tA tl tc] ∧ Below W.heap.size W V) (two_box W _ _) ?_
      rintro V ⟨h7, h4, hb⟩
      have x0 := h7.cell 0
      have x1 := h7.cell 1
      have x2 := h7.cell 2
      have x4 := h7.cell 4
      have y0 := h4.cell 0
      have y1 := h4.cell 1
      have y2 := h4.cell 2
      have y3 := h4.cell 3
      have hl7 := h7.lt
      have hl4 := h4.lt
      have HB := Lib.hid hb
      clear h7 h4 hb
      go_wp2
      go_quiet (fail)
      go_wp2
      refine bodyPost_ret (v := .tuple #[.slice A ne c, .bool true]) (by simp [results, Tryz.results32, go_sem]) rfl ?_
      exact HEN.out _ (below_step HB.out (below_drewN (Below.refl _ _) _)) _ R HRR.out

set_option maxRecDepth 100000 in
set_option maxHeartbeats 4000000 in
theorem rm_k2 (t : TE W) (hE : RdB W A c E) (hL : LimN K ((vE E).map (·.1))) (n : Int) (s : List UInt8) (a : Int) (v4 v5 v6 : Value)  :
    Calls Tryz.prog 32 #[.agg #[.int .i64 2, .int .i64 n, .string ⟨s.toArray⟩, .int .i64 a, v4, v5, v6], .agg #[.int .i64 t.t.kind, .int .i64 t.t.int, .string ⟨t.t.name.toArray⟩, .slice t.A t.t.items.length t.c], .slice A E.length c] W (RMEnd K W (vE E, t.t.kind == 2 && t.t.name == s)) := by
  obtain ⟨ne, hne⟩ : ∃ ne, E.length = ne := ⟨_, rfl⟩
  have HEN := Lib.hid (fun V (hb : Below W.heap.size W V) (b : Bool) (R : List BV × Bool) (hR : R = (vE E, b)) => RMEnd.same hb hE hL hne b hR)
  rw [hne]
  obtain ⟨R, hR⟩ : ∃ R, ((vE E, t.t.kind == 2 && t.t.name == s) : List BV × Bool) = R := ⟨_, rfl⟩
  rw [hR]
  have HR := Lib.hid hR
  clear hE hL hne hR
  generalize t.t.items.length = tl at *
  generalize t.t.kind = tk at *
  generalize t.t.int = ti at *
  generalize t.t.name = tn at *
  generalize t.A = tA at *
  generalize t.c = tc at *
  cases hk : (tk == 2) with
  | false =>
    have HRR := Lib.hid (show R = (vE E, false) by rw [← HR.out, hk]; rfl)
    go_enter Tryz.func32, Tryz.ntmps32
    go_upto_region 1 with (fail)
    refine wp_world (fun V => Blk V W.heap.size 29 #[.int .i64 2, .int .i64 n, .string ⟨s.toArray⟩, .int .i64 a, v4, v5, v6] ∧ Blk V (W.heap.size + 1) 35 #[.int .i64 tk, .int .i64 ti, .string ⟨tn.toArray⟩, .slice tA tl tc] ∧ Below W.heap.size W V) (two_box W _ _) ?_
    rintro V ⟨h7, h4, hb⟩
    have x0 := h7.cell 0
    have x1 := h7.cell 1
    have x2 := h7.cell 2
    have x4 := h7.cell 4
    have y0 := h4.cell 0
    have y1 := h4.cell 1
    have y2 := h4.cell 2
    have y3 := h4.cell 3
    have hl7 := h7.lt
    have hl4 := h4.lt
    have HB := Lib.hid hb
    clear h7 h4 hb
    go_wp2
    go_quiet (fail)
    go_wp2
    refine bodyPost_ret (v := .tuple #[.slice A ne c, .bool false]) (by simp [results, Tryz.results32, go_sem]) rfl ?_
    exact HEN.out _ (below_step HB.out (below_drewN (Below.refl _ _) _)) false R HRR.out
  | true =>
    obtain ⟨z, hz⟩ : ∃ z, (tn == s) = z := ⟨_, rfl⟩
    have HRR := Lib.hid (show R = (vE E, z) by rw [← HR.out, hk, ← hz]; rfl)
    cases z with
    | false =>
      go_enter Tryz.func32, Tryz.ntmps32
      go_upto_region 1 with (fail)
      refine wp_world (fun V => Blk V W.heap.size 29 #[.int .i64 2, .int .i64 n, .string ⟨s.toArray⟩, .int .i64 a, v4, v5, v6] ∧ Blk V (W.heap.size + 1) 35 #[.int .i64 tk, .int .i64 ti, .string ⟨tn.toArray⟩, .slice tA tl tc] ∧ Below W.heap.size W V) (two_box W _ _) ?_
      rintro V ⟨h7, h4, hb⟩
      have x0 := h7.cell 0
      have x1 := h7.cell 1
      have x2 := h7.cell 2
      have x4 := h7.cell 4
      have y0 := h4.cell 0
      have y1 := h4.cell 1
      have y2 := h4.cell 2
      have y3 := h4.cell 3
      have hl7 := h7.lt
      have hl4 := h4.lt
      have HB := Lib.hid hb
      clear h7 h4 hb
      go_wp2
      go_quiet (fail)
      go_wp2
      refine bodyPost_ret (v := .tuple #[.slice A ne c, .bool false]) (by simp [results, Tryz.results32, go_sem]) rfl ?_
      exact HEN.out _ (below_step HB.out (below_drewN (Below.refl _ _) _)) _ R HRR.out
    | true =>
      go_enter Tryz.func32, Tryz.ntmps32
      go_upto_region 1 with (fail)
      refine wp_world (fun V => Blk V W.heap.size 29 #[.int .i64 2, .int .i64 n, .string ⟨s.toArray⟩, .int .i64 a, v4, v5, v6] ∧ Blk V (W.heap.size + 1) 35 #[.int .i64 tk, .int .i64 ti, .string ⟨tn.toArray⟩, .slice tA tl tc] ∧ Below W.heap.size W V) (two_box W _ _) ?_
      rintro V ⟨h7, h4, hb⟩
      have x0 := h7.cell 0
      have x1 := h7.cell 1
      have x2 := h7.cell 2
      have x4 := h7.cell 4
      have y0 := h4.cell 0
      have y1 := h4.cell 1
      have y2 := h4.cell 2
      have y3 := h4.cell 3
      have hl7 := h7.lt
      have hl4 := h4.lt
      have HB := Lib.hid hb
      clear h7 h4 hb
      go_wp2
      go_quiet (fail)
      go_wp2
      refine bodyPost_ret (v := .tuple #[.slice A ne c, .bool true]) (by simp [results, Tryz.results32, go_sem]) rfl ?_
      exact HEN.out _ (below_step HB.out (below_drewN (Below.refl _ _) _)) _ R HRR.out

set_option maxRecDepth 100000 in
set_option maxHeartbeats 4000000 in
theorem rm_k5 (t : TE W) (hE : RdB W A c E) (hL : LimN K ((vE E).map (·.1))) (n : Int) (s : List UInt8) (a : Int) (v4 v5 v6 : Value)  :
    Calls Tryz.prog 32 #[.agg #[.int .i64 5, .int .i64 n, .string ⟨s.toArray⟩, .int .i64 a, v4, v5, v6], .agg #[.int .i64 t.t.kind, .int .i64 t.t.int, .string ⟨t.t.name.toArray⟩, .slice t.A t.t.items.length t.c], .slice A E.length c] W (RMEnd K W (vE E, t.t.kind == 7)) := by
  obtain ⟨ne, hne⟩ : ∃ ne, E.length = ne := ⟨_, rfl⟩
  have HEN := Lib.hid (fun V (hb : Below W.heap.size W V) (b : Bool) (R : List BV × Bool) (hR : R = (vE E, b)) => RMEnd.same hb hE hL hne b hR)
  rw [hne]
  have HEN2 := Lib.hid (fun V hb => HEN.out V hb (t.t.kind == 7) _ rfl)
  clear hE hL hne HEN
  generalize t.t.items.length = tl at *
  generalize t.t.kind = tk at *
  generalize t.t.int = ti at *
  generalize t.t.name = tn at *
  generalize t.A = tA at *
  generalize t.c = tc at *
  go_enter Tryz.func32, Tryz.ntmps32
  go_upto_region 1 with (fail)
  refine wp_world (fun V => Blk V W.heap.size 29 #[.int .i64 5, .int .i64 n, .string ⟨s.toArray⟩, .int .i64 a, v4, v5, v6] ∧ Blk V (W.heap.size + 1) 35 #[.int .i64 tk, .int .i64 ti, .string ⟨tn.toArray⟩, .slice tA tl tc] ∧ Below W.heap.size W V) (two_box W _ _) ?_
  rintro V ⟨h7, h4, hb⟩
  have x0 := h7.cell 0
  have x1 := h7.cell 1
  have x2 := h7.cell 2
  have x4 := h7.cell 4
  have y0 := h4.cell 0
  have y1 := h4.cell 1
  have y2 := h4.cell 2
  have y3 := h4.cell 3
  have hl7 := h7.lt
  have hl4 := h4.lt
  have HB := Lib.hid hb
  clear h7 h4 hb
  go_wp2
  go_quiet (fail)
  go_wp2
  refine bodyPost_ret (v := .tuple #[.slice A ne c, .bool (tk == 7)]) (by simp [results, Tryz.results32, go_sem]) rfl ?_
  exact HEN2.out _ (below_step HB.out (below_drewN (Below.refl _ _) _))

set_option maxRecDepth 100000 in
set_option maxHeartbeats 4000000 in
theorem rm_k10 (t : TE W) (hE : RdB W A c E) (hL : LimN K ((vE E).map (·.1))) (n : Int) (s : List UInt8) (a : Int) (v5 v6 : Value) (hs : (s == [45]) = true) (ba oa cc : Nat) (m nm : Int) (hc0 : W.cell? ⟨ba, oa, none⟩ = some (.int .i64 1)) (hc1 : W.cell? ⟨ba, oa + 1, none⟩ = some (.int .i64 m)) (hneg : IntKind.i64.wrap (-m) = nm) (h1c : 1 ≤ cc) (hc63 : cc ≤ 9223372036854775807) :
    Calls Tryz.prog 32 #[.agg #[.int .i64 10, .int .i64 n, .string ⟨s.toArray⟩, .int .i64 a, .slice (some ⟨ba, oa, none⟩) 1 cc, v5, v6], .agg #[.int .i64 t.t.kind, .int .i64 t.t.int, .string ⟨t.t.name.toArray⟩, .slice t.A t.t.items.length t.c], .slice A E.length c] W (RMEnd K W (vE E, t.t.kind == 1 && t.t.int == nm)) := by
  obtain ⟨ne, hne⟩ : ∃ ne, E.length = ne := ⟨_, rfl⟩
  have HEN := Lib.hid (fun V (hb : Below W.heap.size W V) (b : Bool) (R : List BV × Bool) (hR : R = (vE E, b)) => RMEnd.same hb hE hL hne b hR)
  rw [hne]
  obtain ⟨R, hR⟩ : ∃ R, ((vE E, t.t.kind == 1 && t.t.int == nm) : List BV × Bool) = R := ⟨_, rfl⟩
  rw [hR]
  have HR := Lib.hid hR
  clear hE hL hne hR
  generalize t.t.items.length = tl at *
  generalize t.t.kind = tk at *
  generalize t.t.int = ti at *
  generalize t.t.name = tn at *
  generalize t.A = tA at *
  generalize t.c = tc at *
  cases hk : (tk == 1) with
  | false =>
    have HRR := Lib.hid (show R = (vE E, false) by rw [← HR.out, hk]; rfl)
    go_enter Tryz.func32, Tryz.ntmps32
    go_upto_region 1 with (fail)
    refine wp_world (fun V => Blk V W.heap.size 29 #[.int .i64 10, .int .i64 n, .string ⟨s.toArray⟩, .int .i64 a, .slice (some ⟨ba, oa, none⟩) 1 cc, v5, v6] ∧ Blk V (W.heap.size + 1) 35 #[.int .i64 tk, .int .i64 ti, .string ⟨tn.toArray⟩, .slice tA tl tc] ∧ Below W.heap.size W V) (two_box W _ _) ?_
    rintro V ⟨h7, h4, hb⟩
    have x0 := h7.cell 0
    have x1 := h7.cell 1
    have x2 := h7.cell 2
    have x4 := h7.cell 4
    have y0 := h4.cell 0
    have y1 := h4.cell 1
    have y2 := h4.cell 2
    have y3 := h4.cell 3
    have hl7 := h7.lt
    have hl4 := h4.lt
    have HB := Lib.hid hb
    have e0 := (hb.cell (World.block_lt_of_cell? W _ hc0)).trans hc0
    have e1 := (hb.cell (World.block_lt_of_cell? W _ hc1)).trans hc1
    clear h7 h4 hb
    go_wp2
    go_quiet (fail)
    go_wp2
    refine bodyPost_ret (v := .tuple #[.slice A ne c, .bool false]) (by simp [results, Tryz.results32, go_sem]) rfl ?_
    exact HEN.out _ (below_step HB.out (below_drewN (Below.refl _ _) _)) false R HRR.out
  | true =>
    obtain ⟨z, hz⟩ : ∃ z, (ti == nm) = z := ⟨_, rfl⟩
    have HRR := Lib.hid (show R = (vE E, z) by rw [← HR.out, hk, ← hz]; rfl)
    cases z with
    | false =>
      go_enter Tryz.func32, Tryz.ntmps32
      go_upto_region 1 with (fail)
      refine wp_world (fun V => Blk V W.heap.size 29 #[.int .i64 10, .int .i64 n, .string ⟨s.toArray⟩, .int .i64 a, .slice (some ⟨ba, oa, none⟩) 1 cc, v5, v6] ∧ Blk V (W.heap.size + 1) 35 #[.int .i64 tk, .int .i64 ti, .string ⟨tn.toArray⟩, .slice tA tl tc] ∧ Below W.heap.size W V) (two_box W _ _) ?_
      rintro V ⟨h7, h4, hb⟩
      have x0 := h7.cell 0
      have x1 := h7.cell 1
      have x2 := h7.cell 2
      have x4 := h7.cell 4
      have y0 := h4.cell 0
      have y1 := h4.cell 1
      have y2 := h4.cell 2
      have y3 := h4.cell 3
      have hl7 := h7.lt
      have hl4 := h4.lt
      have HB := Lib.hid hb
      have e0 := (hb.cell (World.block_lt_of_cell? W _ hc0)).trans hc0
      have e1 := (hb.cell (World.block_lt_of_cell? W _ hc1)).trans hc1
      clear h7 h4 hb
      go_wp2
      go_quiet (fail)
      go_wp2
      refine bodyPost_ret (v := .tuple #[.slice A ne c, .bool false]) (by simp [results, Tryz.results32, go_sem]) rfl ?_
      exact HEN.out _ (below_step HB.out (below_drewN (Below.refl _ _) _)) _ R HRR.out
    | true =>
      go_enter Tryz.func32, Tryz.ntmps32
      go_upto_region 1 with (fail)
      refine wp_world (fun V => Blk V W.heap.size 29 #[.int .i64 10, .int .i64 n, .string ⟨s.toArray⟩, .int .i64 a, .slice (some ⟨ba, oa, none⟩) 1 cc, v5, v6] ∧ Blk V (W.heap.size + 1) 35 #[.int .i64 tk, .int .i64 ti, .string ⟨tn.toArray⟩, .slice tA tl tc] ∧ Below W.heap.size W V) (two_box W _ _) ?_
      rintro V ⟨h7, h4, hb⟩
      have x0 := h7.cell 0
      have x1 := h7.cell 1
      have x2 := h7.cell 2
      have x4 := h7.cell 4
      have y0 := h4.cell 0
      have y1 := h4.cell 1
      have y2 := h4.cell 2
      have y3 := h4.cell 3
      have hl7 := h7.lt
      have hl4 := h4.lt
      have HB := Lib.hid hb
      have e0 := (hb.cell (World.block_lt_of_cell? W _ hc0)).trans hc0
      have e1 := (hb.cell (World.block_lt_of_cell? W _ hc1)).trans hc1
      clear h7 h4 hb
      go_wp2
      go_quiet (fail)
      go_wp2
      refine bodyPost_ret (v := .tuple #[.slice A ne c, .bool true]) (by simp [results, Tryz.results32, go_sem]) rfl ?_
      exact HEN.out _ (below_step HB.out (below_drewN (Below.refl _ _) _)) _ R HRR.out

set_option maxRecDepth 100000 in
set_option maxHeartbeats 4000000 in
theorem rm_k3a (t : TE W) (hE : RdB W A c E) (hL : LimN K ((vE E).map (·.1))) (n : Int) (s : List UInt8) (a : Int) (v4 v5 v6 : Value) (hus : (s == [95]) = true) :
    Calls Tryz.prog 32 #[.agg #[.int .i64 3, .int .i64 n, .string ⟨s.toArray⟩, .int .i64 a, v4, v5, v6], .agg #[.int .i64 t.t.kind, .int .i64 t.t.int, .string ⟨t.t.name.toArray⟩, .slice t.A t.t.items.length t.c], .slice A E.length c] W (RMEnd K W (vE E, true)) := by
  obtain ⟨ne, hne⟩ : ∃ ne, E.length = ne := ⟨_, rfl⟩
  have HEN := Lib.hid (fun V (hb : Below W.heap.size W V) (b : Bool) (R : List BV × Bool) (hR : R = (vE E, b)) => RMEnd.same hb hE hL hne b hR)
  rw [hne]
  clear hE hL hne
  generalize t.t.items.length = tl at *
  generalize t.t.kind = tk at *
  generalize t.t.int = ti at *
  generalize t.t.name = tn at *
  generalize t.A = tA at *
  generalize t.c = tc at *
  go_enter Tryz.func32, Tryz.ntmps32
  go_upto_region 1 with (fail)
  refine wp_world (fun V => Blk V W.heap.size 29 #[.int .i64 3, .int .i64 n, .string ⟨s.toArray⟩, .int .i64 a, v4, v5, v6] ∧ Blk V (W.heap.size + 1) 35 #[.int .i64 tk, .int .i64 ti, .string ⟨tn.toArray⟩, .slice tA tl tc] ∧ Below W.heap.size W V) (two_box W _ _) ?_
  rintro V ⟨h7, h4, hb⟩
  have x0 := h7.cell 0
  have x1 := h7.cell 1
  have x2 := h7.cell 2
  have x4 := h7.cell 4
  have y0 := h4.cell 0
  have y1 := h4.cell 1
  have y2 := h4.cell 2
  have y3 := h4.cell 3
  have hl7 := h7.lt
  have hl4 := h4.lt
  have HB := Lib.hid hb
  clear h7 h4 hb
  go_wp2
  refine bodyPost_ret (v := .tuple #[.slice A ne c, .bool true]) (by simp [results, Tryz.results32, go_sem]) rfl ?_
  exact HEN.out _ HB.out true _ rfl

set_option maxRecDepth 100000 in
set_option maxHeartbeats 4000000 in
theorem rm_k3b (t : TE W) (hE : RdB W A c E) (hL : LimN K ((vE E).map (·.1))) (n : Int) (s : List UInt8) (a : Int) (v4 v5 v6 : Value) (hus : (s == [95]) = false) (hK2 : K.length ≤ 1000000) (v : TV) (hg : getG s (vE E) = some v) :
    Calls Tryz.prog 32 #[.agg #[.int .i64 3, .int .i64 n, .string ⟨s.toArray⟩, .int .i64 a, v4, v5, v6], .agg #[.int .i64 t.t.kind, .int .i64 t.t.int, .string ⟨t.t.name.toArray⟩, .slice t.A t.t.items.length t.c], .slice A E.length c] W (RMEnd K W (vE E, v.cmp t.t == 0)) := by
  obtain ⟨ne, hne⟩ : ∃ ne, E.length = ne := ⟨_, rfl⟩
  have HEN := Lib.hid (fun V (hb : Below W.heap.size W V) (b : Bool) (R : List BV × Bool) (hR : R = (vE E, b)) => RMEnd.same hb hE hL hne b hR)
  rw [hne]
  have hle : E.length ≤ 2000000 := by have := hL.len; rw [List.length_map, vE_len] at this; omega
  have HGET : Hid (∀ V, Below W.heap.size W V → Calls Tryz.prog 13 #[.string ⟨s.toArray⟩, .slice A ne c] V fun e w' => ∃ u : TE V, u.t = v ∧ e = .returned (.tuple #[.agg #[.int .i64 v.kind, .int .i64 v.int, .string ⟨v.name.toArray⟩, .slice u.A v.items.length u.c], .bool true]) ∧ Below V.heap.size V w') := fun V hb => by
    have := rget_any V s (upE hb E) A c ((hE.below hb).up hb) (by rw [upE_len]; exact hle)
    rw [upE_len, vE_up, hne, hg] at this
    exact this.mono fun e w' h => by
      obtain ⟨u, hu, he, hb2⟩ := h
      simp only [Option.getD_some, Option.isSome_some] at hu he
      rw [hu] at he
      exact ⟨u, hu, he, hb2⟩
  have HSAME : Hid (∀ V (u : TE V) V', Below W.heap.size W V → Below V.heap.size V V' → u.t = v → Calls Tryz.prog 15 #[.agg #[.int .i64 v.kind, .int .i64 v.int, .string ⟨v.name.toArray⟩, .slice u.A v.items.length u.c], .agg #[.int .i64 t.t.kind, .int .i64 t.t.int, .string ⟨t.t.name.toArray⟩, .slice t.A t.t.items.length t.c]] V' fun e w' => e = .returned (.bool (v.cmp t.t == 0)) ∧ Below V'.heap.size V' w') := fun V u V' hb hb2 hu => by
    have := tsame_any u.t t.t u.A u.c t.A t.c V V' hb2 u.ok (t.ok.below hb)
    rw [hu] at this
    exact this
  obtain ⟨z, hz⟩ : ∃ z, (v.cmp t.t == 0) = z := ⟨_, rfl⟩
  rw [hz] at HSAME ⊢
  clear hE hL hne hle hg hz
  generalize t.t.items.length = tl at *
  generalize t.t.kind = tk at *
  generalize t.t.int = ti at *
  generalize t.t.name = tn at *
  generalize t.A = tA at *
  generalize t.c = tc at *
  go_enter Tryz.func32, Tryz.ntmps32
  go_upto_region 1 with (fail)
  refine wp_world (fun V => Blk V W.heap.size 29 #[.int .i64 3, .int .i64 n, .string ⟨s.toArray⟩, .int .i64 a, v4, v5, v6] ∧ Blk V (W.heap.size + 1) 35 #[.int .i64 tk, .int .i64 ti, .string ⟨tn.toArray⟩, .slice tA tl tc] ∧ Below W.heap.size W V) (two_box W _ _) ?_
  rintro V ⟨h7, h4, hb⟩
  have x0 := h7.cell 0
  have x1 := h7.cell 1
  have x2 := h7.cell 2
  have x4 := h7.cell 4
  have y0 := h4.cell 0
  have y1 := h4.cell 1
  have y2 := h4.cell 2
  have y3 := h4.cell 3
  have hl7 := h7.lt
  have hl4 := h4.lt
  have HB := Lib.hid hb
  clear hb
  go_upto_region 15 with (go_at_call 13; refine (HGET.out _ HB.out).mono ?_; rintro e V2 ⟨u, hu, rfl, hb2⟩)
  have HU := Lib.hid hu
  clear hu HGET
  generalize v.items.length = ul at *
  refine wp_world (fun V3 => Blk V3 V2.heap.size 35 #[.int .i64 v.kind, .int .i64 v.int, .string ⟨v.name.toArray⟩, .slice u.A ul u.c] ∧ Blk V3 (W.heap.size + 1) 35 #[.int .i64 tk, .int .i64 ti, .string ⟨tn.toArray⟩, .slice tA tl tc] ∧ Below V.heap.size V V3) ⟨Blk.new _ _ _, (h4.keep hb2).alloc _, below_step hb2 (below_alloc _ _)⟩ ?_
  clear x0 x1 x2 x4 y0 y1 y2 y3 hl7 hl4 h7 h4
  rintro V3 ⟨hu3, h43, hb3⟩
  have z0 := hu3.cell 0
  have z1 := hu3.cell 1
  have z2 := hu3.cell 2
  have z3 := hu3.cell 3
  have y0 := h43.cell 0
  have y1 := h43.cell 1
  have y2 := h43.cell 2
  have y3 := h43.cell 3
  have HB3 := Lib.hid hb3
  clear hu3 h43 hb3 hb2
  go_wp2_with (go_at_call 15; refine (HSAME.out V u _ HB.out HB3.out HU.out).mono ?_; rintro e V4 ⟨rfl, hb4⟩)
  refine bodyPost_ret (v := .tuple #[.slice A ne c, .bool z]) (by simp [results, Tryz.results32, go_sem]) rfl ?_
  exact HEN.out _ (below_step (below_step HB.out HB3.out) hb4) z _ rfl
end
end Go.Proofs.YtmpknhdfglbocaaGreat
