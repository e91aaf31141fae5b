/- Layer 11: the document's parser in memory; place, fail, is, take, must, kind. Layer 11: what the parser's functions promise; nodes and clauses in boxes; nodes that are made of others. -/
import Derived.Test.YtmpknhdfglbocaaGreatPaC
import Derived.StillTailTactics
import Derived.BigQuiet
import Derived.Deep.QuietTactic
import Derived.IntWalk
import Derived.Deep.DeepCutAuto
import Derived.Deep.CutBlock
import Derived.Deep.RegionHeld3
namespace Go.Proofs.YtmpknhdfglbocaaGreat
section
open Go.RowKit
set_option linter.unusedVariables false

/-- Tokens in memory. -/
def RdT (W : World) (A : Option Addr) (T : List Tok) : Prop := T = [] ∨ ∃ b o, A = some ⟨b, o, none⟩ ∧ ∀ j, (h : j < T.length) →
  W.cell? ⟨b, o + j * 5, none⟩ = some (.int .i64 (T[j]).kind) ∧ W.cell? ⟨b, o + j * 5 + 1, none⟩ = some (.int .i64 (T[j]).int) ∧ W.cell? ⟨b, o + j * 5 + 2, none⟩ = some (.string ⟨(T[j]).text.toArray⟩) ∧ W.cell? ⟨b, o + j * 5 + 3, none⟩ = some (.int .i64 (((T[j]).at_ : Nat) : Int)) ∧ W.cell? ⟨b, o + j * 5 + 4, none⟩ = some (.int .i64 (((T[j]).fin : Nat) : Int))
/-- The parser in memory. -/
structure PAt (pb : Nat) (A : Option Addr) (c : Nat) (T : List Tok) (fin : Nat) (s : PS) (W : World) : Prop where
  obj : Blk W pb 61 #[.slice A T.length c, .int .i64 (s.i : Int), .int .i64 (fin : Int), .int .i64 s.e, .int .i64 s.at_]
  toks : RdT W A T
  apart : ∀ b o, A = some ⟨b, o, none⟩ → b < pb
  hi : s.i ≤ T.length
  len : T.length ≤ 16384
/-- Only the parser has turned. -/
abbrev PFr (pb : Nat) := Fr (fun k => k = pb)
section
variable {pb : Nat} {A : Option Addr} {c : Nat} {T : List Tok} {fin : Nat} {s : PS} {W W' : World}
theorem RdT.fr {F : Nat → Prop} (h : RdT W A T) (hf : Fr F W W') (hF : ∀ b o, A = some ⟨b, o, none⟩ → ¬ F b) : RdT W' A T := by
  rcases h with h | ⟨b, o, hA, hc⟩
  · exact .inl h
  · have hn := hF b o hA
    have hx : ∀ {i v}, W.cell? ⟨b, i, none⟩ = some v → W'.cell? ⟨b, i, none⟩ = some v := fun hv => (World.cell?_of_block (hf.block b (World.block_lt_of_cell? W _ hv) hn)).trans hv
    exact .inr ⟨b, o, hA, fun j hj => by
      obtain ⟨h0, h1, h2, h3, h4⟩ := hc j hj
      exact ⟨hx h0, hx h1, hx h2, hx h3, hx h4⟩⟩
theorem RdT.at_ (h : RdT W A T) {j : Nat} (hj : j < T.length) : ∃ b o, A = some ⟨b, o, none⟩ ∧ b < W.heap.size ∧
    W.cell? ⟨b, o + j * 5, none⟩ = some (.int .i64 (T[j]).kind) ∧ W.cell? ⟨b, o + j * 5 + 1, none⟩ = some (.int .i64 (T[j]).int) ∧ W.cell? ⟨b, o + j * 5 + 2, none⟩ = some (.string ⟨(T[j]).text.toArray⟩) ∧ W.cell? ⟨b, o + j * 5 + 3, none⟩ = some (.int .i64 (((T[j]).at_ : Nat) : Int)) ∧ W.cell? ⟨b, o + j * 5 + 4, none⟩ = some (.int .i64 (((T[j]).fin : Nat) : Int)) := by
  rcases h with rfl | ⟨b, o, hA, hc⟩
  · simp at hj
  · exact ⟨b, o, hA, World.block_lt_of_cell? W _ (hc j hj).1, hc j hj⟩
theorem PAt.keep (h : PAt pb A c T fin s W) (hb : Below W.heap.size W W') : PAt pb A c T fin s W' :=
  ⟨h.obj.keep hb, h.toks.fr (Fr.of_below hb (fun _ => False)) (fun _ _ _ => id), h.apart, h.hi, h.len⟩
theorem PAt.far {F : Nat → Prop} (h : PAt pb A c T fin s W) (hf : Fr F W W') (hp : ¬ F pb) (hA : ∀ b o, A = some ⟨b, o, none⟩ → ¬ F b) : PAt pb A c T fin s W' :=
  ⟨hf.blk h.obj hp, h.toks.fr hf hA, h.apart, h.hi, h.len⟩
theorem PAt.cells (h : PAt pb A c T fin s W) : W.cell? ⟨pb, 0, none⟩ = some (.slice A T.length c) ∧ W.cell? ⟨pb, 1, none⟩ = some (.int .i64 (s.i : Int)) ∧ W.cell? ⟨pb, 2, none⟩ = some (.int .i64 (fin : Int)) ∧ W.cell? ⟨pb, 3, none⟩ = some (.int .i64 s.e) ∧ W.cell? ⟨pb, 4, none⟩ = some (.int .i64 s.at_) :=
  ⟨h.obj.cell 0, h.obj.cell 1, h.obj.cell 2, h.obj.cell 3, h.obj.cell 4⟩
theorem PAt.setI (h : PAt pb A c T fin s W) (hi : s.i < T.length) {v : Value} (hv : v = .int .i64 ((s.i + 1 : Nat) : Int)) : PAt pb A c T fin (nextP s) (W.setCell ⟨pb, 1, none⟩ v) ∧ PFr pb W (W.setCell ⟨pb, 1, none⟩ v) := by
  subst hv
  have hfr := Fr.setCell (fun k => k = pb) W (p := ⟨pb, 1, none⟩) (fun _ => rfl) (.int .i64 ((s.i + 1 : Nat) : Int))
  exact ⟨⟨h.obj.set_ 1 _, h.toks.fr hfr (fun b o hA => Nat.ne_of_lt (h.apart b o hA)), h.apart, hi, h.len⟩, hfr⟩
theorem PAt.setE (h : PAt pb A c T fin s W) (e : Int) : PAt pb A c T fin { s with e := e } (W.setCell ⟨pb, 3, none⟩ (.int .i64 e)) ∧ PFr pb W (W.setCell ⟨pb, 3, none⟩ (.int .i64 e)) := by
  have hfr := Fr.setCell (fun k => k = pb) W (p := ⟨pb, 3, none⟩) (fun _ => rfl) (.int .i64 e)
  exact ⟨⟨h.obj.set_ 3 _, h.toks.fr hfr (fun b o hA => Nat.ne_of_lt (h.apart b o hA)), h.apart, h.hi, h.len⟩, hfr⟩
theorem PAt.setAt (h : PAt pb A c T fin s W) (e : Int) : PAt pb A c T fin { s with at_ := e } (W.setCell ⟨pb, 4, none⟩ (.int .i64 e)) ∧ PFr pb W (W.setCell ⟨pb, 4, none⟩ (.int .i64 e)) := by
  have hfr := Fr.setCell (fun k => k = pb) W (p := ⟨pb, 4, none⟩) (fun _ => rfl) (.int .i64 e)
  exact ⟨⟨h.obj.set_ 4 _, h.toks.fr hfr (fun b o hA => Nat.ne_of_lt (h.apart b o hA)), h.apart, h.hi, h.len⟩, hfr⟩

set_option maxHeartbeats 1000000 in
theorem place_any (h : PAt pb A c T fin s W) : Calls Tryz.prog 43 #[.pointer (some ⟨pb, 0, none⟩)] W fun e w' => e = .returned (.int .i64 (placeP T fin s)) ∧ Below W.heap.size W w' := by
  obtain ⟨c0, c1, c2, c3, c4⟩ := h.cells
  have hb0 := Below.refl W.heap.size W
  have hlen := h.len
  by_cases hi : s.i < T.length
  · have HI := Lib.hid (show placeP T fin s = ((T[s.i]).at_ : Nat) by unfold placeP; rw [List.getElem?_eq_getElem hi])
    have hd : decide (s.i < T.length) = true := by simpa using hi
    obtain ⟨b, o, rfl, hlt, t0, t1, t2, t3, t4⟩ := h.toks.at_ hi
    have q1 : (0 : Int) ≤ (s.i : Int) := by omega
    have q2 : (s.i : Int) < (T.length : Int) := by omega
    rw [HI.out]
    generalize T[s.i] = t at *
    clear h HI
    go_enter Tryz.func43, Tryz.ntmps43
    go_wp2
    go_quiet (fail)
    go_wp2
    go_quiet (fail)
    go_wp2
    go_ret
    exact ⟨rfl, below_drewN (below_drewN hb0 _) _⟩
  · have HI := Lib.hid (show placeP T fin s = (fin : Int) by unfold placeP; rw [List.getElem?_eq_none (by omega)])
    have hd : decide (s.i < T.length) = false := by simpa using hi
    rw [HI.out]
    go_enter Tryz.func43, Tryz.ntmps43
    go_wp2
    go_quiet (fail)
    go_wp2
    go_ret
    exact ⟨rfl, below_drewN hb0 _⟩

set_option maxHeartbeats 1000000 in
theorem pfail_any (h : PAt pb A c T fin s W) (e : Int) : Calls Tryz.prog 25 #[.pointer (some ⟨pb, 0, none⟩), .int .i64 e] W fun r w' => r = .returned (.tuple #[]) ∧ PAt pb A c T fin (failP T fin e s) w' ∧ PFr pb W w' := by
  obtain ⟨c0, c1, c2, c3, c4⟩ := h.cells
  by_cases he : s.e = 0
  · have HI := Lib.hid (show failP T fin e s = { { s with e := e } with at_ := placeP T fin s } by unfold failP; rw [if_pos he])
    rw [he] at c3
    obtain ⟨HK, HF⟩ := h.setE e
    have HK := Lib.hid HK
    have HF := Lib.hid HF
    have f3 := h.obj.frozen 3
    clear h he
    go_enter Tryz.func25, Tryz.ntmps25
    go_upto_region 2 with (fail)
    refine wp_world (fun V => PAt pb A c T fin { s with e := e } V ∧ PFr pb W V) ⟨HK.out, HF.out⟩ ?_
    rintro V ⟨hV, hF⟩
    have HPL := Lib.hid (place_any hV)
    have HV := Lib.hid hV
    have HFV := Lib.hid hF
    clear HK HF c0 c1 c2 c3 c4 hV hF f3
    go_wp2_with (go_at_call 43; refine HPL.out.mono ?_; rintro r V2 ⟨rfl, hb2⟩; have hv2 := HV.out.keep hb2; have f4 := hv2.obj.frozen 4; have g4 := hv2.obj.cell 4)
    go_end0
    rw [HI.out]
    obtain ⟨h1, h2⟩ := hv2.setAt (placeP T fin { s with e := e })
    exact ⟨rfl, h1, (HFV.out.same (Fr.of_below hb2 _)).same h2⟩
  · have HI := Lib.hid (show failP T fin e s = s by unfold failP; rw [if_neg he])
    have hd : (s.e == 0) = false := by simpa using he
    go_enter Tryz.func25, Tryz.ntmps25
    go_wp2
    go_end0
    rw [HI.out]
    exact ⟨rfl, h, Fr.refl _ _⟩
def opS (T : List Tok) (l : List (List UInt8)) (s : PS) : PS := if (opP T l s).isSome = true then nextP s else s
theorem opS_some {l : List (List UInt8)} {w : List UInt8} (h : opP T l s = some w) : opS T l s = nextP s := by unfold opS; rw [h]; rfl
theorem opS_none {l : List (List UInt8)} (h : opP T l s = none) : opS T l s = s := by unfold opS; rw [h]; rfl
def tokC (t : Tok) : Array Value := #[.int .i64 t.kind, .int .i64 t.int, .string ⟨t.text.toArray⟩, .int .i64 ((t.at_ : Nat) : Int), .int .i64 ((t.fin : Nat) : Int)]
set_option maxHeartbeats 2000000 in
theorem is_any (h : PAt pb A c T fin s W) (w : List UInt8) : Calls Tryz.prog 65 #[.pointer (some ⟨pb, 0, none⟩), .string ⟨w.toArray⟩] W fun r w' => r = .returned (.bool (isP T w s)) ∧ Below W.heap.size W w' := by
  obtain ⟨c0, c1, c2, c3, c4⟩ := h.cells
  have hb0 := Below.refl W.heap.size W
  have hlen := h.len
  by_cases he : s.e = 0
  rotate_left
  · have HI := Lib.hid (show isP T w s = false by unfold isP; rw [show (s.e == 0) = false by simpa using he]; rfl)
    have hd : (s.e != 0) = true := by simpa using he
    rw [HI.out]
    go_enter Tryz.func65, Tryz.ntmps65
    go_wp2
    go_quiet (fail)
    go_wp2
    go_ret
    exact ⟨rfl, below_drewN hb0 _⟩
  rw [he] at c3
  by_cases hi : s.i < T.length
  rotate_left
  · have HI := Lib.hid (show isP T w s = false by unfold isP; rw [List.getElem?_eq_none (by omega)]; simp)
    have hd : decide (T.length ≤ s.i) = true := by simp; omega
    rw [HI.out]
    clear he h
    go_enter Tryz.func65, Tryz.ntmps65
    go_wp2
    go_quiet (fail)
    go_wp2
    go_ret
    exact ⟨rfl, below_drewN hb0 _⟩
  have HI := Lib.hid (show isP T w s = (((T[s.i]).kind == 5 || (T[s.i]).kind == 4) && (T[s.i]).text == w) by unfold isP; rw [List.getElem?_eq_getElem hi, he]; rfl)
  obtain ⟨bb, hbb⟩ : ∃ bb, isP T w s = bb := ⟨_, rfl⟩
  rw [hbb] at HI ⊢
  clear hbb
  have hd : decide (T.length ≤ s.i) = false := by simp; omega
  have HH : Hid (∀ q, PAt pb A c T fin s (W.drewN q)) := fun q => h.keep (below_drewN hb0 q)
  go_enter Tryz.func65, Tryz.ntmps65
  go_wp2
  go_quiet (fail)
  go_wp2
  refine wp_world (fun V => PAt pb A c T fin s V ∧ Below W.heap.size W V) ⟨HH.out _, below_drewN hb0 _⟩ ?_
  rintro V ⟨hV, hbV⟩
  clear c0 c1 c2 c3 c4 HH
  obtain ⟨c0, c1, c2, c3, c4⟩ := hV.cells
  obtain ⟨b, o, rfl, hlt, t0, t1, t2, t3, t4⟩ := hV.toks.at_ hi
  have q1 : (0 : Int) ≤ (s.i : Int) := by omega
  have q2 : (s.i : Int) < (T.length : Int) := by omega
  obtain ⟨t, ht⟩ : ∃ t, T[s.i] = t := ⟨_, rfl⟩
  rw [ht] at t0 t1 t2 t3 t4 HI
  clear ht
  have HBV := Lib.hid hbV
  have HCV : Hid (V.cell? ⟨pb, 0, none⟩ = some (.slice (some ⟨b, o, none⟩) T.length c) ∧ V.cell? ⟨pb, 1, none⟩ = some (.int .i64 (s.i : Int)) ∧ pb < V.heap.size ∧ V.cell? ⟨b, o + s.i * 5, none⟩ = some (.int .i64 t.kind) ∧ V.cell? ⟨b, o + s.i * 5 + 1, none⟩ = some (.int .i64 t.int) ∧ V.cell? ⟨b, o + s.i * 5 + 2, none⟩ = some (.string ⟨t.text.toArray⟩) ∧ V.cell? ⟨b, o + s.i * 5 + 3, none⟩ = some (.int .i64 ((t.at_ : Nat) : Int)) ∧ V.cell? ⟨b, o + s.i * 5 + 4, none⟩ = some (.int .i64 ((t.fin : Nat) : Int)) ∧ b < V.heap.size) := ⟨c0, c1, hV.obj.lt, t0, t1, t2, t3, t4, hlt⟩
  clear h he hV hbV hb0 c0 c1 c2 c3 c4 t0 t1 t2 t3 t4 hlt
  refine wp_region_W 11 (fun X => Below V.heap.size V X) (by kernel_rfl) ?_ (fun hS0 => ?_)
  · exact (Below.refl _ _).drew
  (refine wpAnyW_take (i := 0) (v := ?_) rfl (by kernel_rfl) (by kernel_rfl) (by kernel_rfl) (by kernel_rfl) (fun _ _ _ h => h) (Or.inl ⟨by kernel_rfl, ?_⟩) (by assumption) ?_; rotate_left; focus (intro V9 hS9; go_simp; (try (with_reducible rfl)); done))
  try simp only [Act.put, List.getElem_toArray, List.getElem_cons_zero, List.setIfInBounds_toArray, List.set_cons_succ, List.set_cons_zero]
  (refine wpAnyW_take (i := 1) (v := ?_) rfl (by kernel_rfl) (by kernel_rfl) (by kernel_rfl) (by kernel_rfl) (fun _ _ _ h => h) (Or.inl ⟨by kernel_rfl, ?_⟩) (by assumption) ?_; rotate_left; focus (intro V9 hS9; go_simp; (try (with_reducible rfl)); done))
  try simp only [Act.put, List.getElem_toArray, List.getElem_cons_succ, List.getElem_cons_zero, List.setIfInBounds_toArray, List.set_cons_succ, List.set_cons_zero]
  (refine wpAnyW_take (i := 2) (v := ?_) rfl (by kernel_rfl) (by kernel_rfl) (by kernel_rfl) (by kernel_rfl) (fun _ _ _ h => h) (Or.inl ⟨by kernel_rfl, ?_⟩) (by assumption) ?_; rotate_left; focus (intro V9 hS9; go_simp; (try (with_reducible rfl)); done))
  try simp only [Act.put, List.getElem_toArray, List.getElem_cons_succ, List.getElem_cons_zero, List.setIfInBounds_toArray, List.set_cons_succ, List.set_cons_zero]
  (refine wpAnyW_take (i := 3) (v := ?_) rfl (by kernel_rfl) (by kernel_rfl) (by kernel_rfl) (by kernel_rfl) (fun _ _ _ h => h) (Or.inl ⟨by kernel_rfl, ?_⟩) (by assumption) ?_; rotate_left; focus (intro V9 hS9; have c0 := (hS9.cell HCV.out.2.2.1).trans HCV.out.1; go_simp; (try (with_reducible rfl)); done))
  try simp only [Act.put, List.getElem_toArray, List.getElem_cons_succ, List.getElem_cons_zero, List.setIfInBounds_toArray, List.set_cons_succ, List.set_cons_zero]
  (refine wpAnyW_take (i := 4) (v := ?_) rfl (by kernel_rfl) (by kernel_rfl) (by kernel_rfl) (by kernel_rfl) (fun _ _ _ h => h) (Or.inl ⟨by kernel_rfl, ?_⟩) (by assumption) ?_; rotate_left; focus (intro V9 hS9; go_simp; (try (with_reducible rfl)); done))
  try simp only [Act.put, List.getElem_toArray, List.getElem_cons_succ, List.getElem_cons_zero, List.setIfInBounds_toArray, List.set_cons_succ, List.set_cons_zero]
  (refine wpAnyW_take (i := 5) (v := ?_) rfl (by kernel_rfl) (by kernel_rfl) (by kernel_rfl) (by kernel_rfl) (fun _ _ _ h => h) (Or.inl ⟨by kernel_rfl, ?_⟩) (by assumption) ?_; rotate_left; focus (intro V9 hS9; go_simp; (try (with_reducible rfl)); done))
  try simp only [Act.put, List.getElem_toArray, List.getElem_cons_succ, List.getElem_cons_zero, List.setIfInBounds_toArray, List.set_cons_succ, List.set_cons_zero]
  (refine wpAnyW_take (i := 6) (v := ?_) rfl (by kernel_rfl) (by kernel_rfl) (by kernel_rfl) (by kernel_rfl) (fun _ _ _ h => h) (Or.inl ⟨by kernel_rfl, ?_⟩) (by assumption) ?_; rotate_left; focus (intro V9 hS9; go_simp; (try (with_reducible rfl)); done))
  try simp only [Act.put, List.getElem_toArray, List.getElem_cons_succ, List.getElem_cons_zero, List.setIfInBounds_toArray, List.set_cons_succ, List.set_cons_zero]
  (refine wpAnyW_take (i := 7) (v := ?_) rfl (by kernel_rfl) (by kernel_rfl) (by kernel_rfl) (by kernel_rfl) (fun _ _ _ h => h) (Or.inl ⟨by kernel_rfl, ?_⟩) (by assumption) ?_; rotate_left; focus (intro V9 hS9; have c1 := (hS9.cell HCV.out.2.2.1).trans HCV.out.2.1; go_simp; (try (with_reducible rfl)); done))
  try simp only [Act.put, List.getElem_toArray, List.getElem_cons_succ, List.getElem_cons_zero, List.setIfInBounds_toArray, List.set_cons_succ, List.set_cons_zero]
  (refine wpAnyW_take (i := 8) (v := ?_) rfl (by kernel_rfl) (by kernel_rfl) (by kernel_rfl) (by kernel_rfl) (fun _ _ _ h => h) (Or.inl ⟨by kernel_rfl, ?_⟩) (by assumption) ?_; rotate_left; focus (intro V9 hS9; go_simp; (try (with_reducible rfl)); done))
  try simp only [Act.put, List.getElem_toArray, List.getElem_cons_succ, List.getElem_cons_zero, List.setIfInBounds_toArray, List.set_cons_succ, List.set_cons_zero]
  (refine wpAnyW_take (i := 9) (v := ?_) rfl (by kernel_rfl) (by kernel_rfl) (by kernel_rfl) (by kernel_rfl) (fun _ _ _ h => h) (Or.inl ⟨by kernel_rfl, ?_⟩) (by assumption) ?_; rotate_left; focus (intro V9 hS9; obtain ⟨_, _, _, t0, t1, t2, t3, t4, hlt⟩ := HCV.out; have t0 := (hS9.cell hlt).trans t0; have t1 := (hS9.cell hlt).trans t1; have t2 := (hS9.cell hlt).trans t2; have t3 := (hS9.cell hlt).trans t3; have t4 := (hS9.cell hlt).trans t4; go_simp; (try (with_reducible rfl)); done))
  try simp only [Act.put, List.getElem_toArray, List.getElem_cons_succ, List.getElem_cons_zero, List.setIfInBounds_toArray, List.set_cons_succ, List.set_cons_zero]
  refine wpAnyW_ready (rs := [10]) (by kernel_rfl) (by simp) ?_
  refine AllReadyW.cons rfl (fun K hK => ?_) AllReadyW.nil
  go_simp
  refine hK.out _ _ ((Below.refl _ _).drew.alloc (Nat.le_refl _) _) (fun _ => ?_)
  clear hK K
  try simp only [Act.put, List.getElem_toArray, List.getElem_cons_succ, List.getElem_cons_zero, List.setIfInBounds_toArray, List.set_cons_succ, List.set_cons_zero]
  refine wpAnyW_ready (rs := [11]) (by kernel_rfl) (by simp) ?_
  refine AllReadyW.consE rfl (by kernel_rfl) (fun K hK => ?_) AllReadyW.nil
  go_simp
  refine hK.out _ _ ?_
  clear hK K
  refine wpAnyW_done (by kernel_rfl) ?_ _
  go_upto_region 4 with (fail)
  refine wp_world (fun X => Blk X V.heap.size 92 (tokC t) ∧ Below W.heap.size W X) ?_ ?_
  · exact ⟨(Blk.new V _ (tokC t)), below_step HBV.out ((below_alloc _ _).drew)⟩
  rintro X ⟨hX, hbX⟩
  have x0 : X.cell? ⟨V.heap.size, 0, none⟩ = some (.int .i64 t.kind) := hX.cell 0
  have x2 : X.cell? ⟨V.heap.size, 2, none⟩ = some (.string ⟨t.text.toArray⟩) := hX.cell 2
  have HBX := Lib.hid hbX
  clear hX hbX HCV hS0 HBV
  by_cases k5 : t.kind = 5
  · rw [k5] at x0 ⊢
    have HE : Hid (bb = (t.text == w)) := by rw [HI.out, k5]; rfl
    clear HI k5
    go_wp2
    go_ret
    rw [HE.out]
    exact ⟨rfl, HBX.out⟩
  · by_cases k4 : t.kind = 4
    · rw [k4] at x0 ⊢
      have HE : Hid (bb = (t.text == w)) := by rw [HI.out, k4]; rfl
      clear HI k4 k5
      go_wp2
      go_ret
      rw [HE.out]
      exact ⟨rfl, HBX.out⟩
    · have d5 : (t.kind == 5) = false := by simpa using k5
      have d4 : (t.kind == 4) = false := by simpa using k4
      have HE : Hid (bb = false) := by rw [HI.out, d5, d4]; rfl
      clear HI k4 k5
      go_wp2
      go_ret
      rw [HE.out]
      exact ⟨rfl, HBX.out⟩
set_option maxHeartbeats 1000000 in
theorem take_any (h : PAt pb A c T fin s W) (w : List UInt8) : Calls Tryz.prog 44 #[.pointer (some ⟨pb, 0, none⟩), .string ⟨w.toArray⟩] W fun r w' => r = .returned (.bool (isP T w s)) ∧ PAt pb A c T fin (if isP T w s = true then nextP s else s) w' ∧ PFr pb W w' := by
  have HIS := Lib.hid (is_any h w)
  have HH := Lib.hid h
  have hlen := h.len
  cases hb : isP T w s with
  | false =>
    rw [hb] at HIS
    rw [if_neg (by simp)]
    clear hb
    go_enter Tryz.func44, Tryz.ntmps44
    go_wp2_with (go_at_call 65; refine HIS.out.mono ?_; rintro r V ⟨rfl, hb⟩)
    go_ret
    exact ⟨rfl, HH.out.keep hb, Fr.of_below hb _⟩
  | true =>
    have hlt := (isP_lt hb).2
    rw [hb] at HIS
    rw [if_pos rfl]
    clear hb
    have q9 : IntKind.i64.wrap ((s.i : Int) + 1) = ((s.i + 1 : Nat) : Int) := by rw [IntKind.wrap_i64]; omega
    go_enter Tryz.func44, Tryz.ntmps44
    go_wp2_with (go_at_call 65; refine HIS.out.mono ?_; rintro r V ⟨rfl, hb⟩; have hV := HH.out.keep hb; have c1 := hV.obj.cell 1; have f1 := hV.obj.frozen 1)
    go_ret
    obtain ⟨h1, h2⟩ := hV.setI hlt rfl
    exact ⟨rfl, h1, (Fr.of_below hb _).same h2⟩
set_option maxHeartbeats 1000000 in
theorem must_any (h : PAt pb A c T fin s W) (w : List UInt8) : Calls Tryz.prog 107 #[.pointer (some ⟨pb, 0, none⟩), .string ⟨w.toArray⟩] W fun r w' => r = .returned (.tuple #[]) ∧ PAt pb A c T fin (mustP T fin w s) w' ∧ PFr pb W w' := by
  have HTK := Lib.hid (take_any h w)
  have HFL : Hid (∀ V, PAt pb A c T fin s V → Calls Tryz.prog 25 #[.pointer (some ⟨pb, 0, none⟩), .int .i64 110] V fun r w' => r = .returned (.tuple #[]) ∧ PAt pb A c T fin (failP T fin 110 s) w' ∧ PFr pb V w') := fun V hV => pfail_any hV 110
  cases hb : isP T w s with
  | false =>
    have HE := Lib.hid (show mustP T fin w s = failP T fin 110 s by unfold mustP; rw [hb]; rfl)
    rw [hb, if_neg (by simp)] at HTK
    clear hb
    go_enter Tryz.func107, Tryz.ntmps107
    go_wp2_with (first | (go_at_call 44; refine HTK.out.mono ?_; rintro r V ⟨rfl, hV, hF⟩) | (go_at_call 25; refine (HFL.out _ hV).mono ?_; rintro r V2 ⟨rfl, hV2, hF2⟩))
    go_end0
    rw [HE.out]
    exact ⟨rfl, hV2, hF.same hF2⟩
  | true =>
    have HE := Lib.hid (show mustP T fin w s = nextP s by unfold mustP; rw [hb]; rfl)
    rw [hb, if_pos rfl] at HTK
    clear hb
    go_enter Tryz.func107, Tryz.ntmps107
    go_wp2_with (go_at_call 44; refine HTK.out.mono ?_; rintro r V ⟨rfl, hV, hF⟩)
    go_end0
    rw [HE.out]
    exact ⟨rfl, hV, hF⟩
set_option maxHeartbeats 1000000 in
theorem kind_any (h : PAt pb A c T fin s W) (k : Int) : Calls Tryz.prog 104 #[.pointer (some ⟨pb, 0, none⟩), .int .i64 k] W fun r w' => r = .returned (.bool (kindP T k s)) ∧ Below W.heap.size W w' := by
  obtain ⟨c0, c1, c2, c3, c4⟩ := h.cells
  have hb0 := Below.refl W.heap.size W
  have hlen := h.len
  by_cases he : s.e = 0
  rotate_left
  · have HI := Lib.hid (show kindP T k s = false by unfold kindP; rw [show (s.e == 0) = false by simpa using he]; rfl)
    have hd : (s.e == 0) = false := by simpa using he
    go_enter Tryz.func104, Tryz.ntmps104
    go_wp2
    go_quiet (fail)
    go_wp2
    go_ret
    rw [HI.out]
    exact ⟨rfl, below_drewN hb0 _⟩
  rw [he] at c3
  by_cases hi : s.i < T.length
  rotate_left
  · have HI := Lib.hid (show kindP T k s = false by unfold kindP; rw [List.getElem?_eq_none (by omega)]; simp)
    have hd : decide (s.i < T.length) = false := by simp; omega
    clear he h
    go_enter Tryz.func104, Tryz.ntmps104
    go_wp2
    go_quiet (fail)
    go_wp2
    go_ret
    rw [HI.out]
    exact ⟨rfl, below_drewN hb0 _⟩
  have HI := Lib.hid (show kindP T k s = ((T[s.i]).kind == k) by unfold kindP; rw [List.getElem?_eq_getElem hi, he]; rfl)
  have hd : decide (s.i < T.length) = true := by simp; omega
  obtain ⟨b, o, rfl, hlt, t0, t1, t2, t3, t4⟩ := h.toks.at_ hi
  have q1 : (0 : Int) ≤ (s.i : Int) := by omega
  have q2 : (s.i : Int) < (T.length : Int) := by omega
  obtain ⟨t, ht⟩ : ∃ t, T[s.i] = t := ⟨_, rfl⟩
  rw [ht] at t0 HI
  clear ht t1 t2 t3 t4 h he
  go_enter Tryz.func104, Tryz.ntmps104
  go_wp2
  go_quiet (fail)
  go_wp2
  go_ret
  rw [HI.out]
  exact ⟨rfl, below_drewN hb0 _⟩

/-- Words in memory. -/
def RdS (W : World) (b : Nat) (l : List (List UInt8)) : Prop := ∀ j, (h : j < l.length) → W.cell? ⟨b, j, none⟩ = some (.string ⟨(l[j]).toArray⟩)
theorem opP_step {l : List (List UInt8)} {i : Nat} (h : i < l.length) : opP T (l.drop i) s = if isP T l[i] s = true then some l[i] else opP T (l.drop (i + 1)) s := by
  unfold opP
  rw [List.drop_eq_getElem_cons h, List.find?_cons]
  cases isP T l[i] s <;> rfl
set_option maxHeartbeats 1000000 in
theorem op_any (h : PAt pb A c T fin s W) {lb cl n : Nat} (l : List (List UInt8)) (hl : RdS W lb l) (hpb : lb ≠ pb) (hn : l.length = n) (h100 : n ≤ 100) : Calls Tryz.prog 89 #[.pointer (some ⟨pb, 0, none⟩), .slice (some ⟨lb, 0, none⟩) n cl] W fun r w' => r = .returned (.string ⟨((opP T l s).getD []).toArray⟩) ∧ PAt pb A c T fin (opS T l s) w' ∧ PFr pb W w' := by
  have HH := Lib.hid h
  have HL : Hid (∀ V, PFr pb W V → RdS V lb l) := fun V hV j hj => (World.cell?_of_block (hV.block lb (World.block_lt_of_cell? W _ (hl j hj)) hpb)).trans (hl j hj)
  have HN := Lib.hid hn
  have HTK : Hid (∀ V w, PAt pb A c T fin s V → Calls Tryz.prog 44 #[.pointer (some ⟨pb, 0, none⟩), .string ⟨w.toArray⟩] V fun r w' => r = .returned (.bool (isP T w s)) ∧ PAt pb A c T fin (if isP T w s = true then nextP s else s) w' ∧ PFr pb V w') := fun V w hV => take_any hV w
  clear h hl hn
  go_enter Tryz.func89, Tryz.ntmps89
  go_wp2
  go_loopw [5] (fun i wx => ∃ k : Nat, i = .int .i64 (k : Int) ∧ k ≤ n ∧ PAt pb A c T fin s wx ∧ PFr pb W wx ∧ opP T l s = opP T (l.drop k) s) (fun i _ => n - (intOf i).toNat)
  case atStart => exact ⟨0, rfl, Nat.zero_le _, HH.out, Fr.refl _ _, rfl⟩
  case round =>
    obtain ⟨k, rfl, hk, hp, hf, he⟩ := hrel
    by_cases hlt : k < n
    · have hd : decide (k < n) = true := by simpa using hlt
      have hkl : k < l.length := by rw [HN.out]; exact hlt
      have g0 := HL.out wr hf k hkl
      have hst := opP_step (T := T) (s := s) hkl
      have HC := Lib.hid (HTK.out wr l[k] hp)
      have HE := Lib.hid (he.trans hst)
      obtain ⟨w, hw⟩ : ∃ w, l[k] = w := ⟨_, rfl⟩
      rw [hw] at g0 HC HE
      have HG : Hid (∀ V, PFr pb wr V → V.cell? ⟨lb, k, none⟩ = some (.string ⟨w.toArray⟩)) := fun V hV => by rw [← hw]; exact HL.out V (hf.same hV) k hkl
      have q1 : (0 : Int) ≤ (k : Int) := by omega
      have q2 : (k : Int) < (n : Int) := by omega
      have q9 : IntKind.i64.wrap ((k : Int) + 1) = ((k + 1 : Nat) : Int) := by rw [IntKind.wrap_i64]; omega
      have HF := Lib.hid hf
      clear hst he hw hf hp hkl
      cases hb : isP T w s with
      | true =>
        rw [hb, if_pos rfl] at HC
        rw [hb, if_pos rfl] at HE
        clear hb
        go_wp2_with (go_at_call 44; refine HC.out.mono ?_; rintro r V ⟨rfl, hV, hF2⟩; have g0 := HG.out V hF2)
        go_ret
        rw [opS_some HE.out, HE.out]
        exact ⟨rfl, hV, HF.out.same hF2⟩
      | false =>
        rw [hb, if_neg (by simp)] at HC
        rw [hb, if_neg (by simp)] at HE
        clear hb
        go_wp2_with (go_at_call 44; refine HC.out.mono ?_; rintro r V ⟨rfl, hV, hF2⟩)
        go_roundw
        case rel => exact ⟨k + 1, by go_num, by omega, hV, HF.out.same hF2, HE.out⟩
        case measure => simp [intOf]; omega
    · obtain rfl : k = n := by omega
      have hd : decide (k < k) = false := by simp
      have HE : Hid (opP T l s = none) := by rw [he, ← HN.out, List.drop_length]; rfl
      clear he
      go_wp2
      go_ret
      rw [opS_none HE.out, HE.out]
      exact ⟨rfl, hp, hf⟩
end
end
section
open Go.RowKit
set_option linter.unusedVariables false

theorem q_bp_world {P : Program} {fn : Func} {R : Ending → World → Prop} {ex : Exit} {a : Act} {w : World} (F : World → Prop) (hF : F w) (h : ∀ w', F w' → bodyPost P fn R ex a w') : bodyPost P fn R ex a w := h w hF
theorem Fr.world {F : Nat → Prop} {W W' W'' : World} (h : Fr F W W') (k : Fr F W' W'') : Fr F W W'' := h.same k

/-- How a function ends that gives a node. -/
def NEnd (pb : Nat) (A : Option Addr) (c : Nat) (T : List Tok) (fin : Nat) (W : World) (r : ND × PS) (e : Ending) (w' : World) : Prop :=
  ∃ x : EN, x.t = r.1 ∧ e = .returned (.agg #[.int .i64 x.t.kind, .int .i64 x.t.int, .string ⟨x.t.name.toArray⟩, .int .i64 x.t.at_, .slice x.A x.t.kids.length x.c, .slice x.B x.t.clauses.length x.d, .slice x.C x.t.body.length x.e]) ∧ x.Ok (fun k => k < W.heap.size) w' ∧ PAt pb A c T fin r.2 w' ∧ PFr pb W w'
/-- nodes. -/
def LEnd (pb : Nat) (A : Option Addr) (c : Nat) (T : List Tok) (fin : Nat) (W : World) (r : List ND × PS) (e : Ending) (w' : World) : Prop :=
  ∃ B d, e = .returned (.slice B r.1.length d) ∧ RdN (fun k => k < W.heap.size) w' B d r.1 ∧ PAt pb A c T fin r.2 w' ∧ PFr pb W w'
/-- a clause. -/
def CEnd (pb : Nat) (A : Option Addr) (c : Nat) (T : List Tok) (fin : Nat) (W : World) (r : CD × PS) (e : Ending) (w' : World) : Prop :=
  ∃ x : EC, x.t = r.1 ∧ e = .returned (.agg #[.slice x.A x.t.patterns.length x.c, .slice x.B x.t.guards.length x.d, .slice x.C x.t.body.length x.e, .string ⟨x.t.name.toArray⟩, .int .i64 x.t.at_]) ∧ x.Ok (fun k => k < W.heap.size) w' ∧ PAt pb A c T fin r.2 w' ∧ PFr pb W w'
/-- clauses. -/
def KEnd (pb : Nat) (A : Option Addr) (c : Nat) (T : List Tok) (fin : Nat) (W : World) (r : List CD × PS) (e : Ending) (w' : World) : Prop :=
  ∃ B d, e = .returned (.slice B r.1.length d) ∧ RdC (fun k => k < W.heap.size) w' B d r.1 ∧ PAt pb A c T fin r.2 w' ∧ PFr pb W w'

/-- The parser's place in memory, as a number that rises. -/
def posOf (pb : Nat) (w : World) : Nat := match w.cell? ⟨pb, 1, none⟩ with
  | some (.int _ z) => z.toNat
  | _ => 0
section
variable {pb : Nat} {A : Option Addr} {c : Nat} {T : List Tok} {fin : Nat} {s : PS} {W W' : World} {S S' : Nat → Prop}
theorem posOf_eq (h : PAt pb A c T fin s W) : posOf pb W = s.i := by
  unfold posOf
  rw [h.cells.2.1]
  exact Int.toNat_natCast _
theorem Mv.of_fr {F : Nat → Prop} (h : Fr F W W') (hF : ∀ k, F k → S k) (hS : ∀ k, k < W.heap.size → S' k → S k) : Mv S W S' W' := ⟨(KeepEx.of_fr h).mono hF, hS⟩
theorem Mv.of_below (h : Below W.heap.size W W') (hS : ∀ k, k < W.heap.size → S' k → S k) : Mv S W S' W' := ⟨KeepEx.of_below h S, hS⟩
theorem Mv.sub_ (hS : ∀ k, k < W.heap.size → S' k → S k) : Mv S W S' W := ⟨KeepEx.refl _ _, hS⟩

/-- Seven cells, one after the other. -/
abbrev put7 (w : World) (g : Nat) (v0 v1 v2 v3 v4 v5 v6 : Value) : World := ((((((w.setCell ⟨g, 0, none⟩ v0).setCell ⟨g, 1, none⟩ v1).setCell ⟨g, 2, none⟩ v2).setCell ⟨g, 3, none⟩ v3).setCell ⟨g, 4, none⟩ v4).setCell ⟨g, 5, none⟩ v5).setCell ⟨g, 6, none⟩ v6
theorem setC_fr (W : World) (g i : Nat) (v : Value) : Fr (fun k => k = g) W (W.setCell ⟨g, i, none⟩ v) := Fr.setCell (fun k => k = g) W (p := ⟨g, i, none⟩) (fun _ => rfl) v
theorem put7_blk {g t : Nat} {u0 u1 u2 u3 u4 u5 u6 : Value} (h : Blk W g t #[u0, u1, u2, u3, u4, u5, u6]) (v0 v1 v2 v3 v4 v5 v6 : Value) : Blk (put7 W g v0 v1 v2 v3 v4 v5 v6) g t #[v0, v1, v2, v3, v4, v5, v6] := by
  have h : Blk _ g t #[v0, u1, u2, u3, u4, u5, u6] := h.set_ 0 v0
  have h : Blk _ g t #[v0, v1, u2, u3, u4, u5, u6] := h.set_ 1 v1
  have h : Blk _ g t #[v0, v1, v2, u3, u4, u5, u6] := h.set_ 2 v2
  have h : Blk _ g t #[v0, v1, v2, v3, u4, u5, u6] := h.set_ 3 v3
  have h : Blk _ g t #[v0, v1, v2, v3, v4, u5, u6] := h.set_ 4 v4
  have h : Blk _ g t #[v0, v1, v2, v3, v4, v5, u6] := h.set_ 5 v5
  have h : Blk _ g t #[v0, v1, v2, v3, v4, v5, v6] := h.set_ 6 v6
  exact h
theorem put7_fr (W : World) (g : Nat) (v0 v1 v2 v3 v4 v5 v6 : Value) : Fr (fun k => k = g) W (put7 W g v0 v1 v2 v3 v4 v5 v6) :=
  ((((((setC_fr W g 0 v0).same (setC_fr _ g 1 v1)).same (setC_fr _ g 2 v2)).same (setC_fr _ g 3 v3)).same (setC_fr _ g 4 v4)).same (setC_fr _ g 5 v5)).same (setC_fr _ g 6 v6)
abbrev put5 (w : World) (g : Nat) (v0 v1 v2 v3 v4 : Value) : World := ((((w.setCell ⟨g, 0, none⟩ v0).setCell ⟨g, 1, none⟩ v1).setCell ⟨g, 2, none⟩ v2).setCell ⟨g, 3, none⟩ v3).setCell ⟨g, 4, none⟩ v4
theorem put5_blk {g t : Nat} {u0 u1 u2 u3 u4 : Value} (h : Blk W g t #[u0, u1, u2, u3, u4]) (v0 v1 v2 v3 v4 : Value) : Blk (put5 W g v0 v1 v2 v3 v4) g t #[v0, v1, v2, v3, v4] := by
  have h : Blk _ g t #[v0, u1, u2, u3, u4] := h.set_ 0 v0
  have h : Blk _ g t #[v0, v1, u2, u3, u4] := h.set_ 1 v1
  have h : Blk _ g t #[v0, v1, v2, u3, u4] := h.set_ 2 v2
  have h : Blk _ g t #[v0, v1, v2, v3, u4] := h.set_ 3 v3
  have h : Blk _ g t #[v0, v1, v2, v3, v4] := h.set_ 4 v4
  exact h
theorem put5_fr (W : World) (g : Nat) (v0 v1 v2 v3 v4 : Value) : Fr (fun k => k = g) W (put5 W g v0 v1 v2 v3 v4) :=
  ((((setC_fr W g 0 v0).same (setC_fr _ g 1 v1)).same (setC_fr _ g 2 v2)).same (setC_fr _ g 3 v3)).same (setC_fr _ g 4 v4)

theorem put7_size (W : World) (g : Nat) (v0 v1 v2 v3 v4 v5 v6 : Value) : (put7 W g v0 v1 v2 v3 v4 v5 v6).heap.size = W.heap.size := by simp only [put7, size_setCell]
theorem Fr.alloc2 {F : Nat → Prop} (h : Fr F W W') (hs : W'.heap.size = W.heap.size) (o : Obj) : Fr F (W.alloc o) (W'.alloc o) := by
  refine ⟨h.os, h.tape, h.output, by simp [hs], fun i hi hn => ?_⟩
  by_cases hlt : i < W.heap.size
  · rw [Below.heap_alloc W' o i (by omega), Below.heap_alloc W o i hlt]
    exact h.block i hlt hn
  · have hi2 : (W.alloc o).heap.size = W.heap.size + 1 := by simp
    obtain rfl : i = W.heap.size := by omega
    rw [heap_alloc_new W o, ← hs, heap_alloc_new W' o]
/-- A node's box. -/
abbrev NBx (W : World) (g : Nat) (x : EN) : Prop := Blk W g 29 #[.int .i64 x.t.kind, .int .i64 x.t.int, .string ⟨x.t.name.toArray⟩, .int .i64 x.t.at_, .slice x.A x.t.kids.length x.c, .slice x.B x.t.clauses.length x.d, .slice x.C x.t.body.length x.e]
abbrev ZBx (W : World) (g : Nat) : Prop := Blk W g 29 #[.int .i64 0, .int .i64 0, .string ⟨#[]⟩, .int .i64 0, .slice none 0 0, .slice none 0 0, .slice none 0 0]
theorem NBx.cells {g : Nat} {x : EN} (h : NBx W g x) : W.cell? ⟨g, 0, none⟩ = some (.int .i64 x.t.kind) ∧ W.cell? ⟨g, 1, none⟩ = some (.int .i64 x.t.int) ∧ W.cell? ⟨g, 2, none⟩ = some (.string ⟨x.t.name.toArray⟩) ∧ W.cell? ⟨g, 3, none⟩ = some (.int .i64 x.t.at_) ∧ W.cell? ⟨g, 4, none⟩ = some (.slice x.A x.t.kids.length x.c) ∧ W.cell? ⟨g, 5, none⟩ = some (.slice x.B x.t.clauses.length x.d) ∧ W.cell? ⟨g, 6, none⟩ = some (.slice x.C x.t.body.length x.e) :=
  ⟨h.cell 0, h.cell 1, h.cell 2, h.cell 3, h.cell 4, h.cell 5, h.cell 6⟩
theorem zbx_facts {g : Nat} (h : ZBx W g) : W.cell? ⟨g, 0, none⟩ = some (.int .i64 0) ∧ W.cell? ⟨g, 1, none⟩ = some (.int .i64 0) ∧ W.cell? ⟨g, 2, none⟩ = some (.string ⟨#[]⟩) ∧ W.cell? ⟨g, 3, none⟩ = some (.int .i64 0) ∧ W.cell? ⟨g, 4, none⟩ = some (.slice none 0 0) ∧ W.cell? ⟨g, 5, none⟩ = some (.slice none 0 0) ∧ W.cell? ⟨g, 6, none⟩ = some (.slice none 0 0) ∧ W.frozen? ⟨g, 0, none⟩ = false ∧ W.frozen? ⟨g, 1, none⟩ = false ∧ W.frozen? ⟨g, 2, none⟩ = false ∧ W.frozen? ⟨g, 3, none⟩ = false ∧ W.frozen? ⟨g, 4, none⟩ = false ∧ W.frozen? ⟨g, 5, none⟩ = false ∧ W.frozen? ⟨g, 6, none⟩ = false :=
  ⟨h.cell 0, h.cell 1, h.cell 2, h.cell 3, h.cell 4, h.cell 5, h.cell 6, h.frozen 0, h.frozen 1, h.frozen 2, h.frozen 3, h.frozen 4, h.frozen 5, h.frozen 6⟩
theorem nbx_facts {g : Nat} {x : EN} (h : NBx W g x) : W.cell? ⟨g, 0, none⟩ = some (.int .i64 x.t.kind) ∧ W.cell? ⟨g, 1, none⟩ = some (.int .i64 x.t.int) ∧ W.cell? ⟨g, 2, none⟩ = some (.string ⟨x.t.name.toArray⟩) ∧ W.cell? ⟨g, 3, none⟩ = some (.int .i64 x.t.at_) ∧ W.cell? ⟨g, 4, none⟩ = some (.slice x.A x.t.kids.length x.c) ∧ W.cell? ⟨g, 5, none⟩ = some (.slice x.B x.t.clauses.length x.d) ∧ W.cell? ⟨g, 6, none⟩ = some (.slice x.C x.t.body.length x.e) ∧ W.frozen? ⟨g, 0, none⟩ = false ∧ W.frozen? ⟨g, 1, none⟩ = false ∧ W.frozen? ⟨g, 2, none⟩ = false ∧ W.frozen? ⟨g, 3, none⟩ = false ∧ W.frozen? ⟨g, 4, none⟩ = false ∧ W.frozen? ⟨g, 5, none⟩ = false ∧ W.frozen? ⟨g, 6, none⟩ = false :=
  ⟨h.cell 0, h.cell 1, h.cell 2, h.cell 3, h.cell 4, h.cell 5, h.cell 6, h.frozen 0, h.frozen 1, h.frozen 2, h.frozen 3, h.frozen 4, h.frozen 5, h.frozen 6⟩
/-- A node of some kids in a new block. -/
def mkN (k : Int) (nm : List UInt8) (at_ : Int) (l : List ND) (g : Nat) (c : Nat) : EN := ⟨.mk k 0 nm at_ l [] [], some ⟨g, 0, none⟩, c, none, 0, none, 0⟩
theorem mkN_ok {k : Int} {nm : List UInt8} {at_ : Int} {l : List ND} {g c : Nat} (h : RdN S W (some ⟨g, 0, none⟩) c l) : (mkN k nm at_ l g c).Ok S W := ⟨h, RdC.nil_ S W none (Nat.zero_le _), RdN.nil_ S W none (Nat.zero_le _)⟩
/-- Two nodes in a new block. -/
theorem pair_ok {x y : EN} (hx : x.Ok S W) (hy : y.Ok S W) (hg : ¬ S W.heap.size) {cs : Array Value} (hcs : cs = (enL [x, y]).toArray) : RdN S (W.alloc (.cells cs 29)) (some ⟨W.heap.size, 0, none⟩) 2 [x.t, y.t] := by
  subst hcs
  refine rdn_of_blk (xs := [x, y]) (Blk.new W _ _) hg (by simp) fun z hz => ?_
  have m : Mv S W S (W.alloc (.cells (enL [x, y]).toArray 29)) := .of_below (below_alloc _ _) (fun _ _ h => h)
  simp only [List.mem_cons, List.mem_nil_iff, or_false] at hz
  rcases hz with rfl | rfl
  · exact hx.move m
  · exact hy.move m
theorem one_ok {x : EN} (hx : x.Ok S W) (hg : ¬ S W.heap.size) {cs : Array Value} (hcs : cs = (enL [x]).toArray) : RdN S (W.alloc (.cells cs 29)) (some ⟨W.heap.size, 0, none⟩) 1 [x.t] := by
  subst hcs
  refine rdn_of_blk (xs := [x]) (Blk.new W _ _) hg (by simp) fun z hz => ?_
  have m : Mv S W S (W.alloc (.cells (enL [x]).toArray 29)) := .of_below (below_alloc _ _) (fun _ _ h => h)
  simp only [List.mem_cons, List.mem_nil_iff, or_false] at hz
  subst hz
  exact hx.move m
end

/-- The bound of depth: no sum overflows. -/
abbrev deepB : Nat := 4611686018427387904
/-- What a function promises that gives a node. -/
def NodeOk (pb : Nat) (A : Option Addr) (c : Nat) (T : List Tok) (fin : Nat) (F : FuncId) (f : Lang → Nat → PS → Option (ND × PS)) (n : Nat) : Prop :=
  ∀ (deep : Nat) (s : PS) (W : World) (r : ND × PS), deep + n ≤ deepB → f (lang T fin n) deep s = some r → PAt pb A c T fin s W →
    Calls Tryz.prog F #[.pointer (some ⟨pb, 0, none⟩), .int .i64 (deep : Int)] W (NEnd pb A c T fin W r)
def ListOk (pb : Nat) (A : Option Addr) (c : Nat) (T : List Tok) (fin : Nat) (n : Nat) : Prop :=
  ∀ (deep : Nat) (s : PS) (W : World) (r : List ND × PS), deep + n ≤ deepB → (lang T fin n).list deep s = some r → PAt pb A c T fin s W →
    Calls Tryz.prog 111 #[.pointer (some ⟨pb, 0, none⟩), .int .i64 (deep : Int)] W (LEnd pb A c T fin W r)
def MaybeOk (pb : Nat) (A : Option Addr) (c : Nat) (T : List Tok) (fin : Nat) (n : Nat) : Prop :=
  ∀ (w : List UInt8) (deep : Nat) (s : PS) (W : World) (r : List ND × PS), deep + n ≤ deepB → (lang T fin n).maybe_ w deep s = some r → PAt pb A c T fin s W →
    Calls Tryz.prog 106 #[.pointer (some ⟨pb, 0, none⟩), .string ⟨w.toArray⟩, .int .i64 (deep : Int)] W (LEnd pb A c T fin W r)
def TailOk (pb : Nat) (A : Option Addr) (c : Nat) (T : List Tok) (fin : Nat) (n : Nat) : Prop :=
  ∀ (deep : Nat) (ps : List ND) (nm : List UInt8) (at_ : Int) (B : Option Addr) (d : Nat) (s : PS) (W : World) (r : CD × PS), deep + n ≤ deepB → (lang T fin n).tail deep ps nm at_ s = some r → PAt pb A c T fin s W → ∀ S : Nat → Prop, (∀ k, S k → k < W.heap.size) → S pb → RdN S W B d ps →
    Calls Tryz.prog 112 #[.pointer (some ⟨pb, 0, none⟩), .agg #[.slice B ps.length d, .slice none 0 0, .slice none 0 0, .string ⟨nm.toArray⟩, .int .i64 at_], .int .i64 (deep : Int)] W
      fun e w' => ∃ x : EC, x.t = r.1 ∧ e = .returned (.agg #[.slice x.A x.t.patterns.length x.c, .slice x.B x.t.guards.length x.d, .slice x.C x.t.body.length x.e, .string ⟨x.t.name.toArray⟩, .int .i64 x.t.at_]) ∧ x.Ok S w' ∧ PAt pb A c T fin r.2 w' ∧ PFr pb W w'
def HeadOk (pb : Nat) (A : Option Addr) (c : Nat) (T : List Tok) (fin : Nat) (n : Nat) : Prop :=
  ∀ (deep : Nat) (nm : List UInt8) (at_ : Int) (s : PS) (W : World) (r : CD × PS), deep + n ≤ deepB → (lang T fin n).head deep nm at_ s = some r → PAt pb A c T fin s W →
    Calls Tryz.prog 109 #[.pointer (some ⟨pb, 0, none⟩), .agg #[.slice none 0 0, .slice none 0 0, .slice none 0 0, .string ⟨nm.toArray⟩, .int .i64 at_], .int .i64 (deep : Int)] W (CEnd pb A c T fin W r)
def ArmsOk (pb : Nat) (A : Option Addr) (c : Nat) (T : List Tok) (fin : Nat) (n : Nat) : Prop :=
  ∀ (deep : Nat) (s : PS) (W : World) (r : List CD × PS), deep + n ≤ deepB → (lang T fin n).arms deep [] s = some r → PAt pb A c T fin s W →
    Calls Tryz.prog 110 #[.pointer (some ⟨pb, 0, none⟩), .int .i64 (deep : Int)] W (KEnd pb A c T fin W r)
end
end Go.Proofs.YtmpknhdfglbocaaGreat
