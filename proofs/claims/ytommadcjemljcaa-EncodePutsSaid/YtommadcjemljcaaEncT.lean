/- The walks of the reader's term and some of layer 8. -/
import Derived.Test.YtommadcjemljcaaEncR
import Derived.Test.YtommadcjemljcaaRdX
import Derived.Test.YtommadcjemljcaaTapeD
import Derived.IntWalk
namespace Go.Proofs.Ytommadcjemljcaa
open Go.RowKit
set_option linter.unusedVariables false

/-- The reader: its tape, how many parts may still come. -/
structure RS (pr pt : Nat) (A : Option Addr) (c : Nat) (t : TS) (left : Int) (W : World) : Prop where
  tape : TapeAt pt A c t W
  box : Blk W pr 53 #[.pointer (some ⟨pt, 0, none⟩), .int .i64 left]
  ne : pt ≠ pr
  ne2 : ∀ b off, A = some ⟨b, off, none⟩ → b ≠ pr
section
variable {pr pt : Nat} {A : Option Addr} {c : Nat} {t t' : TS} {left left' : Int} {W W' : World}
theorem RS.keep (h : RS pr pt A c t left W) (hb : Below W.heap.size W W') : RS pr pt A c t left W' := ⟨h.tape.keep hb, h.box.keep hb, h.ne, h.ne2⟩
theorem RS.far {F : Nat → Prop} (h : RS pr pt A c t left W) (hf : Fr F W W') (h1 : ¬ F pt) (h2 : ¬ F pr) (h3 : ∀ b off, A = some ⟨b, off, none⟩ → ¬ F b) : RS pr pt A c t left W' := ⟨h.tape.far hf h1 h3, hf.blk h.box h2, h.ne, h.ne2⟩
theorem RS.act (h : RS pr pt A c t left W) (a : TAct W pt A c t' W') : RS pr pt A c t' left W' := ⟨a.tape, a.fr.blk h.box (fun e => h.ne e.symm), h.ne, h.ne2⟩
theorem RS.dec (h : RS pr pt A c t left W) (z : Int) : RS pr pt A c t z (W.setCell ⟨pr, 1, none⟩ (.int .i64 z)) :=
  ⟨h.tape.far (Fr.setCell (fun k => k = pr) W (p := ⟨pr, 1, none⟩) (fun _ => rfl) _) h.ne h.ne2, h.box.set_ 1 _, h.ne, h.ne2⟩
theorem RS.lt (h : RS pr pt A c t left W) : pr < W.heap.size ∧ pt < W.heap.size := ⟨h.box.lt, h.tape.obj.lt⟩

set_option maxHeartbeats 400000 in
theorem sound_any (h : RS pr pt A c t left W) : Calls Try.prog 26 #[.pointer (some ⟨pr, 0, none⟩)] W fun r w' => r = .returned (.bool (decide (t.fault = 0) && decide (0 ≤ left))) ∧ ∃ q, w' = W.drewN q := by
  have HF := Lib.hid (fault_any h.tape)
  have HB : Hid (∀ q, (W.drewN q).cell? ⟨pr, 0, none⟩ = some (.pointer (some ⟨pt, 0, none⟩)) ∧ (W.drewN q).cell? ⟨pr, 1, none⟩ = some (.int .i64 left)) := fun q => ⟨(h.box.keep (below_drewN (Below.refl _ _) q)).cell 0, (h.box.keep (below_drewN (Below.refl _ _) q)).cell 1⟩
  have c0 := h.box.cell 0
  have c1 := h.box.cell 1
  clear h
  by_cases hf : t.fault = 0
  · have HR := Lib.hid (show (decide (t.fault = 0) && decide (0 ≤ left)) = decide (0 ≤ left) by simp [hf])
    rw [hf] at HF
    clear hf
    go_enter Try.func26, Try.ntmps26
    go_wp2_with (go_at_call 50; refine HF.out.mono ?_; rintro r w2 ⟨rfl, q, rfl⟩; obtain ⟨g0, g1⟩ := HB.out q)
    go_ret
    exact ⟨by rw [HR.out]; rfl, q, rfl⟩
  · have HR := Lib.hid (show (decide (t.fault = 0) && decide (0 ≤ left)) = false by simp [hf])
    have hd : ((t.fault : Int) == 0) = false := by simp; omega
    clear hf
    go_enter Try.func26, Try.ntmps26
    go_wp2_with (go_at_call 50; refine HF.out.mono ?_; rintro r w2 ⟨rfl, q, rfl⟩; obtain ⟨g0, g1⟩ := HB.out q)
    go_ret
    exact ⟨by rw [HR.out]; rfl, q, rfl⟩
end

theorem enc_bp_world {P : Program} {fn : Func} {R : Ending → World → Prop} {ex : Exit} {a : Act} {w : World} (F : World → Prop) (hF : F w) (h : ∀ w', F w' → bodyPost P fn R ex a w') : bodyPost P fn R ex a w := h w hF
def ezero4 : List Value := [.int .i64 0, .int .i64 0, .string ⟨#[]⟩, .slice none 0 0]
def TermEnds (pr pt : Nat) (A : Option Addr) (c : Nat) (t : TS) (left : Int) (W : World) (r : Ending) (w' : World) : Prop :=
  ∃ (x : EX) (t' : TS) (left' : Int), r = .returned (.agg #[.int .i64 x.t.kind, .int .i64 x.t.int, .string ⟨x.t.name.toArray⟩, .slice x.A x.t.items.length x.c]) ∧ TermR t left x.t t' left' ∧ RS pr pt A c t' left' w' ∧ RdX (fun k => k < W.heap.size) w' x.A x.c x.t.items ∧ Fr (fun k => k = pt ∨ k = pr) W w' ∧ left' < left ∧ -1 ≤ left'
def SomeEnds (pr pt : Nat) (A : Option Addr) (c : Nat) (n : Nat) (t : TS) (left : Int) (W : World) (r : Ending) (w' : World) : Prop :=
  ∃ (xs : List TV) (A' : Option Addr) (c' : Nat) (t' : TS) (left' : Int), r = .returned (.slice A' xs.length c') ∧ SomeR n t left xs t' left' ∧ RS pr pt A c t' left' w' ∧ RdX (fun k => k < W.heap.size) w' A' c' xs ∧ Fr (fun k => k = pt ∨ k = pr) W w' ∧ left' ≤ left ∧ -1 ≤ left'

/-- While a term is read. -/
structure KT (pr pt : Nat) (A : Option Addr) (c tb : Nat) (t : TS) (left : Int) (cs : List Value) (W V : World) : Prop where
  rs : RS pr pt A c t left V
  r : Blk V W.heap.size 39 ezero4.toArray
  t : Blk V tb 39 cs.toArray
  fr : Fr (fun k => k = pt ∨ k = pr) W V
  lt : W.heap.size < tb
  old : pr < W.heap.size ∧ pt < W.heap.size
  oldA : ∀ b off, A = some ⟨b, off, none⟩ → 0 < 1 → b ≠ W.heap.size ∧ b ≠ tb
/-- Ahead of it. -/
structure KS (pr pt : Nat) (A : Option Addr) (c : Nat) (t : TS) (left : Int) (W V : World) : Prop where
  rs : RS pr pt A c t left V
  r : Blk V W.heap.size 39 ezero4.toArray
  fr : Fr (fun k => k = pt ∨ k = pr) W V
  old : pr < W.heap.size ∧ pt < W.heap.size
  oldA : ∀ b off, A = some ⟨b, off, none⟩ → 0 < 1 → b < W.heap.size
section
variable {pr pt : Nat} {A : Option Addr} {c tb : Nat} {t t' : TS} {left left' : Int} {cs : List Value} {W V V' : World}
theorem KS.start (h : RS pr pt A c t left W) (hA : ∀ b off, A = some ⟨b, off, none⟩ → b < W.heap.size) : KS pr pt A c t left W (W.alloc (.cells ezero4.toArray 39)) :=
  ⟨h.keep (below_alloc _ _), Blk.new _ _ _, Fr.alloc _ _ _, h.lt, fun b off e _ => hA b off e⟩
theorem KS.dec (h : KS pr pt A c t left W V) (z : Int) : KS pr pt A c t z W (V.setCell ⟨pr, 1, none⟩ (.int .i64 z)) := by
  have ho := h.old
  exact ⟨h.rs.dec z, h.r.far (p := ⟨pr, 1, none⟩) (by simp; omega) _, h.fr.same (Fr.setCell _ _ (p := ⟨pr, 1, none⟩) (fun _ => .inr rfl) _), h.old, h.oldA⟩
theorem KS.act (h : KS pr pt A c t left W V) (a : TAct V pt A c t' V') : KS pr pt A c t' left W V' := by
  have ho := h.old
  exact ⟨h.rs.act a, a.fr.blk h.r (by omega), h.fr.same (a.fr.weak fun k _ e => .inl e), h.old, h.oldA⟩
theorem KS.kt (h : KS pr pt A c t left W V) (cs : List Value) : KT pr pt A c V.heap.size t left cs W (V.alloc (.cells cs.toArray 39)) :=
  ⟨h.rs.keep (below_alloc _ _), h.r.alloc _, Blk.new _ _ _, h.fr.same (Fr.alloc _ _ _), h.r.lt, h.old, fun b off e q => by have := h.oldA b off e q; have := h.r.lt; omega⟩
theorem KT.keep (h : KT pr pt A c tb t left cs W V) (hb : Below V.heap.size V V') : KT pr pt A c tb t left cs W V' := ⟨h.rs.keep hb, h.r.keep hb, h.t.keep hb, h.fr.same (Fr.of_below hb _), h.lt, h.old, h.oldA⟩
theorem KT.act (h : KT pr pt A c tb t left cs W V) (a : TAct V pt A c t' V') : KT pr pt A c tb t' left cs W V' := by
  have ho := h.old
  have hl := h.lt
  exact ⟨h.rs.act a, a.fr.blk h.r (by omega), a.fr.blk h.t (by omega), h.fr.same (a.fr.weak fun k _ e => .inl e), h.lt, h.old, h.oldA⟩
theorem KT.step (h : KT pr pt A c tb t left cs W V) (hr : RS pr pt A c t' left' V') (hf : Fr (fun k => k = pt ∨ k = pr) V V') : KT pr pt A c tb t' left' cs W V' := by
  have ho := h.old
  have hl := h.lt
  exact ⟨hr, hf.blk h.r (by omega), hf.blk h.t (by omega), h.fr.same hf, h.lt, h.old, h.oldA⟩
theorem KT.set_ (h : KT pr pt A c tb t left cs W V) (i : Nat) (v : Value) : KT pr pt A c tb t left (cs.set i v) W (V.setCell ⟨tb, i, none⟩ v) := by
  have ho := h.old
  have hl := h.lt
  have hf := Fr.setCell (fun k => k = tb) V (p := ⟨tb, i, none⟩) (fun _ => rfl) v
  refine ⟨h.rs.far hf (by omega) (by omega) (fun b off e => (h.oldA b off e (by omega)).2), hf.blk h.r (by omega), ?_, h.fr.trans (Fr.setCell (fun k => k = tb) V (p := ⟨tb, i, none⟩) (fun _ => rfl) v) (fun k hk e => by omega), h.lt, h.old, h.oldA⟩
  have := h.t.set_ i v
  simpa using this
end

set_option maxRecDepth 100000 in
set_option maxHeartbeats 2000000 in
theorem term_k1 {pr pt : Nat} {A : Option Addr} {c : Nat} {t : TS} {left : Int} {W : World} (h : RS pr pt A c t left W) (hA : ∀ b off, A = some ⟨b, off, none⟩ → b < W.heap.size) (hl0 : 0 ≤ left) (hl1 : left ≤ 1000000) (hb : t.byte.1 = 1) :
    Calls Try.prog 48 #[.pointer (some ⟨pr, 0, none⟩)] W (TermEnds pr pt A c t left W) := by
  have HS0 := Lib.hid (KS.start h hA)
  obtain ⟨T1, hT1⟩ : ∃ T1, t.byte.2 = T1 := ⟨_, rfl⟩
  have HBY : Hid (∀ V, TapeAt pt A c t V → Calls Try.prog 63 #[.pointer (some ⟨pt, 0, none⟩)] V fun r w' => r = .returned (.int .u8 1) ∧ TAct V pt A c T1 w') := fun V hV => (tbyte_any hV).mono fun r w' ⟨hr, ha⟩ => ⟨by rw [hr]; rw [hb]; rfl, by rw [← hT1]; exact ha⟩
  have HT1 := Lib.hid hT1
  have HTB := Lib.hid hb
  have HW := Lib.hid h.lt
  clear h hT1 hb
  go_enter Try.func48, Try.ntmps48
  go_upto_region 1 with (fail)
  refine wp_world (KS pr pt A c t left W) HS0.out ?_
  clear HS0
  intro V0 hS0
  have c1 : V0.cell? ⟨pr, 1, none⟩ = some (.int .i64 left) := hS0.rs.box.cell 1
  have cf := hS0.rs.box.frozen 1
  go_upto_region 2 with (fail)
  refine wp_world (KS pr pt A c t (left - 1) W) (hS0.dec _) ?_
  clear c1 cf hS0
  intro V9 hS1
  have c0 : V9.cell? ⟨pr, 0, none⟩ = some (.pointer (some ⟨pt, 0, none⟩)) := hS1.rs.box.cell 0
  go_upto_region 3 with (go_at_call 63; refine (HBY.out _ hS1.rs.tape).mono ?_; rintro r V1 ⟨rfl, ha1⟩)
  have hK1 := (hS1.act ha1).kt [.int .i64 1, .int .i64 0, .string ⟨#[]⟩, .slice none 0 0]
  obtain ⟨tb, htb⟩ : ∃ tb, V1.heap.size = tb := ⟨_, rfl⟩
  rw [htb] at hK1
  refine wp_world (KT pr pt A c tb T1 (left - 1) [.int .i64 1, .int .i64 0, .string ⟨#[]⟩, .slice none 0 0] W) hK1 ?_
  rw [htb]
  clear ha1 hK1 htb HBY c0 hS1
  intro V2 hK2
  have k0 : V2.cell? ⟨tb, 0, none⟩ = some (.int .i64 1) := hK2.t.cell 0
  have p0 : V2.cell? ⟨pr, 0, none⟩ = some (.pointer (some ⟨pt, 0, none⟩)) := hK2.rs.box.cell 0
  have HC := Lib.hid (tpint_any hK2.rs.tape)
  obtain ⟨y, hy⟩ : ∃ y, T1.int = y := ⟨_, rfl⟩
  rw [hy] at HC
  have HY := Lib.hid hy
  clear hy
  go_wp2_with (fail)
  go_at_call 64
  refine HC.out.mono ?_
  rintro r V3 ⟨rfl, ha3⟩
  have hK3 := hK2.act ha3
  have g1 : V3.cell? ⟨tb, 1, none⟩ = some (.int .i64 0) := hK3.t.cell 1
  have gf := hK3.t.frozen 1
  go_upto_region 18 with (fail)
  refine wp_world (KT pr pt A c tb y.2 (left - 1) [.int .i64 1, .int .i64 y.1, .string ⟨#[]⟩, .slice none 0 0] W) (hK3.set_ 1 _) ?_
  clear hK3 hK2 ha3 HC p0 k0 g1 gf
  intro V8 hK8
  have t0 : V8.cell? ⟨tb, 0, none⟩ = some (.int .i64 1) := hK8.t.cell 0
  have t1 : V8.cell? ⟨tb, 1, none⟩ = some (.int .i64 y.1) := hK8.t.cell 1
  have t2 : V8.cell? ⟨tb, 2, none⟩ = some (.string ⟨#[]⟩) := hK8.t.cell 2
  have t3 : V8.cell? ⟨tb, 3, none⟩ = some (.slice none 0 0) := hK8.t.cell 3
  have r0 : V8.cell? ⟨W.heap.size, 0, none⟩ = some (.int .i64 0) := hK8.r.cell 0
  have r1 : V8.cell? ⟨W.heap.size, 1, none⟩ = some (.int .i64 0) := hK8.r.cell 1
  have r2 : V8.cell? ⟨W.heap.size, 2, none⟩ = some (.string ⟨#[]⟩) := hK8.r.cell 2
  have r3 : V8.cell? ⟨W.heap.size, 3, none⟩ = some (.slice none 0 0) := hK8.r.cell 3
  have f0 := hK8.r.frozen 0
  have f1 := hK8.r.frozen 1
  have f2 := hK8.r.frozen 2
  have f3 := hK8.r.frozen 3
  go_wp2
  refine enc_bp_world (fun V => Blk V W.heap.size 39 #[.int .i64 1, .int .i64 y.1, .string ⟨#[]⟩, .slice none 0 0] ∧ Fr (fun k => k = W.heap.size) V8 V) ⟨(((hK8.r.set_ 0 _).set_ 1 _).set_ 2 _).set_ 3 _, ((((Fr.setCell (fun k => k = W.heap.size) V8 (p := ⟨W.heap.size, 0, none⟩) (fun _ => rfl) _).same (Fr.setCell (fun k => k = W.heap.size) _ (p := ⟨W.heap.size, 1, none⟩) (fun _ => rfl) _)).same (Fr.setCell (fun k => k = W.heap.size) _ (p := ⟨W.heap.size, 2, none⟩) (fun _ => rfl) _)).same (Fr.setCell (fun k => k = W.heap.size) _ (p := ⟨W.heap.size, 3, none⟩) (fun _ => rfl) _))⟩ ?_
  rintro V9 ⟨hB9, hF9⟩
  have x0 : V9.cell? ⟨W.heap.size, 0, none⟩ = some (.int .i64 1) := hB9.cell 0
  have x1 : V9.cell? ⟨W.heap.size, 1, none⟩ = some (.int .i64 y.1) := hB9.cell 1
  have x2 : V9.cell? ⟨W.heap.size, 2, none⟩ = some (.string ⟨#[]⟩) := hB9.cell 2
  have x3 : V9.cell? ⟨W.heap.size, 3, none⟩ = some (.slice none 0 0) := hB9.cell 3
  have hE : RS pr pt A c y.2 (left - 1) V9 ∧ Fr (fun k => k = pt ∨ k = pr) W V9 := by
    obtain ⟨o1, o2⟩ := HW.out
    exact ⟨hK8.rs.far hF9 (by omega) (by omega) (fun b off e => (hK8.oldA b off e (by omega)).1), hK8.fr.trans hF9 (fun k hk e => by omega)⟩
  have HRX : Hid (RdX (fun k => k < W.heap.size) V9 none 0 []) := RdX.nil_ _ _ _ _ (by omega)
  have HE := Lib.hid hE
  clear t0 t1 t2 t3 r0 r1 r2 r3 f0 f1 f2 f3 hE hK8
  have HR : Hid (TermR t left (.mk 1 y.1 [] []) y.2 (left - 1)) := by rw [← HY.out, ← HT1.out]; exact .k1 HTB.out
  exact bodyPost_ret (v := .agg #[.int .i64 1, .int .i64 y.1, .string ⟨#[]⟩, .slice none 0 0]) (by simp [results, Try.results48, go_sem, x0, x1, x2, x3]) rfl ⟨⟨(.mk 1 y.1 [] []), none, 0⟩, y.2, (left - 1), rfl, HR.out, HE.out.1, HRX.out, HE.out.2, by omega, by omega⟩


set_option maxRecDepth 100000 in
set_option maxHeartbeats 2000000 in
theorem term_k2 {pr pt : Nat} {A : Option Addr} {c : Nat} {t : TS} {left : Int} {W : World} (h : RS pr pt A c t left W) (hA : ∀ b off, A = some ⟨b, off, none⟩ → b < W.heap.size) (hl0 : 0 ≤ left) (hl1 : left ≤ 1000000) (hb : t.byte.1 = 2) :
    Calls Try.prog 48 #[.pointer (some ⟨pr, 0, none⟩)] W (TermEnds pr pt A c t left W) := by
  have HS0 := Lib.hid (KS.start h hA)
  obtain ⟨T1, hT1⟩ : ∃ T1, t.byte.2 = T1 := ⟨_, rfl⟩
  have HBY : Hid (∀ V, TapeAt pt A c t V → Calls Try.prog 63 #[.pointer (some ⟨pt, 0, none⟩)] V fun r w' => r = .returned (.int .u8 2) ∧ TAct V pt A c T1 w') := fun V hV => (tbyte_any hV).mono fun r w' ⟨hr, ha⟩ => ⟨by rw [hr]; rw [hb]; rfl, by rw [← hT1]; exact ha⟩
  have HT1 := Lib.hid hT1
  have HTB := Lib.hid hb
  have HW := Lib.hid h.lt
  clear h hT1 hb
  go_enter Try.func48, Try.ntmps48
  go_upto_region 1 with (fail)
  refine wp_world (KS pr pt A c t left W) HS0.out ?_
  clear HS0
  intro V0 hS0
  have c1 : V0.cell? ⟨pr, 1, none⟩ = some (.int .i64 left) := hS0.rs.box.cell 1
  have cf := hS0.rs.box.frozen 1
  go_upto_region 2 with (fail)
  refine wp_world (KS pr pt A c t (left - 1) W) (hS0.dec _) ?_
  clear c1 cf hS0
  intro V9 hS1
  have c0 : V9.cell? ⟨pr, 0, none⟩ = some (.pointer (some ⟨pt, 0, none⟩)) := hS1.rs.box.cell 0
  go_upto_region 3 with (go_at_call 63; refine (HBY.out _ hS1.rs.tape).mono ?_; rintro r V1 ⟨rfl, ha1⟩)
  have hK1 := (hS1.act ha1).kt [.int .i64 2, .int .i64 0, .string ⟨#[]⟩, .slice none 0 0]
  obtain ⟨tb, htb⟩ : ∃ tb, V1.heap.size = tb := ⟨_, rfl⟩
  rw [htb] at hK1
  refine wp_world (KT pr pt A c tb T1 (left - 1) [.int .i64 2, .int .i64 0, .string ⟨#[]⟩, .slice none 0 0] W) hK1 ?_
  rw [htb]
  clear ha1 hK1 htb HBY c0 hS1
  intro V2 hK2
  have k0 : V2.cell? ⟨tb, 0, none⟩ = some (.int .i64 2) := hK2.t.cell 0
  have p0 : V2.cell? ⟨pr, 0, none⟩ = some (.pointer (some ⟨pt, 0, none⟩)) := hK2.rs.box.cell 0
  have HC := Lib.hid ((tstr_any hK2.rs.tape 255 (by omega)).mono fun r w' h => And.intro h.1 h.2)
  obtain ⟨y, hy⟩ : ∃ y, T1.str 255 = y := ⟨_, rfl⟩
  rw [hy] at HC
  have HY := Lib.hid hy
  clear hy
  go_wp2_with (fail)
  go_at_call 65
  refine HC.out.mono ?_
  rintro r V3 ⟨rfl, ha3⟩
  have hK3 := hK2.act ha3
  have g2 : V3.cell? ⟨tb, 2, none⟩ = some (.string ⟨#[]⟩) := hK3.t.cell 2
  have gf := hK3.t.frozen 2
  go_upto_region 18 with (fail)
  refine wp_world (KT pr pt A c tb y.2 (left - 1) [.int .i64 2, .int .i64 0, .string ⟨y.1.toArray⟩, .slice none 0 0] W) (hK3.set_ 2 _) ?_
  clear hK3 hK2 ha3 HC p0 k0 g2 gf
  intro V8 hK8
  have t0 : V8.cell? ⟨tb, 0, none⟩ = some (.int .i64 2) := hK8.t.cell 0
  have t1 : V8.cell? ⟨tb, 1, none⟩ = some (.int .i64 0) := hK8.t.cell 1
  have t2 : V8.cell? ⟨tb, 2, none⟩ = some (.string ⟨y.1.toArray⟩) := hK8.t.cell 2
  have t3 : V8.cell? ⟨tb, 3, none⟩ = some (.slice none 0 0) := hK8.t.cell 3
  have r0 : V8.cell? ⟨W.heap.size, 0, none⟩ = some (.int .i64 0) := hK8.r.cell 0
  have r1 : V8.cell? ⟨W.heap.size, 1, none⟩ = some (.int .i64 0) := hK8.r.cell 1
  have r2 : V8.cell? ⟨W.heap.size, 2, none⟩ = some (.string ⟨#[]⟩) := hK8.r.cell 2
  have r3 : V8.cell? ⟨W.heap.size, 3, none⟩ = some (.slice none 0 0) := hK8.r.cell 3
  have f0 := hK8.r.frozen 0
  have f1 := hK8.r.frozen 1
  have f2 := hK8.r.frozen 2
  have f3 := hK8.r.frozen 3
  go_wp2
  refine enc_bp_world (fun V => Blk V W.heap.size 39 #[.int .i64 2, .int .i64 0, .string ⟨y.1.toArray⟩, .slice none 0 0] ∧ Fr (fun k => k = W.heap.size) V8 V) ⟨(((hK8.r.set_ 0 _).set_ 1 _).set_ 2 _).set_ 3 _, ((((Fr.setCell (fun k => k = W.heap.size) V8 (p := ⟨W.heap.size, 0, none⟩) (fun _ => rfl) _).same (Fr.setCell (fun k => k = W.heap.size) _ (p := ⟨W.heap.size, 1, none⟩) (fun _ => rfl) _)).same (Fr.setCell (fun k => k = W.heap.size) _ (p := ⟨W.heap.size, 2, none⟩) (fun _ => rfl) _)).same (Fr.setCell (fun k => k = W.heap.size) _ (p := ⟨W.heap.size, 3, none⟩) (fun _ => rfl) _))⟩ ?_
  rintro V9 ⟨hB9, hF9⟩
  have x0 : V9.cell? ⟨W.heap.size, 0, none⟩ = some (.int .i64 2) := hB9.cell 0
  have x1 : V9.cell? ⟨W.heap.size, 1, none⟩ = some (.int .i64 0) := hB9.cell 1
  have x2 : V9.cell? ⟨W.heap.size, 2, none⟩ = some (.string ⟨y.1.toArray⟩) := hB9.cell 2
  have x3 : V9.cell? ⟨W.heap.size, 3, none⟩ = some (.slice none 0 0) := hB9.cell 3
  have hE : RS pr pt A c y.2 (left - 1) V9 ∧ Fr (fun k => k = pt ∨ k = pr) W V9 := by
    obtain ⟨o1, o2⟩ := HW.out
    exact ⟨hK8.rs.far hF9 (by omega) (by omega) (fun b off e => (hK8.oldA b off e (by omega)).1), hK8.fr.trans hF9 (fun k hk e => by omega)⟩
  have HRX : Hid (RdX (fun k => k < W.heap.size) V9 none 0 []) := RdX.nil_ _ _ _ _ (by omega)
  have HE := Lib.hid hE
  clear t0 t1 t2 t3 r0 r1 r2 r3 f0 f1 f2 f3 hE hK8
  have HR : Hid (TermR t left (.mk 2 0 y.1 []) y.2 (left - 1)) := by rw [← HY.out, ← HT1.out]; exact .k2 HTB.out
  exact bodyPost_ret (v := .agg #[.int .i64 2, .int .i64 0, .string ⟨y.1.toArray⟩, .slice none 0 0]) (by simp [results, Try.results48, go_sem, x0, x1, x2, x3]) rfl ⟨⟨(.mk 2 0 y.1 []), none, 0⟩, y.2, (left - 1), rfl, HR.out, HE.out.1, HRX.out, HE.out.2, by omega, by omega⟩


set_option maxRecDepth 100000 in
set_option maxHeartbeats 2000000 in
theorem term_k3 {pr pt : Nat} {A : Option Addr} {c : Nat} {t : TS} {left : Int} {W : World} (h : RS pr pt A c t left W) (hA : ∀ b off, A = some ⟨b, off, none⟩ → b < W.heap.size) (hl0 : 0 ≤ left) (hl1 : left ≤ 1000000) (hb : t.byte.1 = 3) :
    Calls Try.prog 48 #[.pointer (some ⟨pr, 0, none⟩)] W (TermEnds pr pt A c t left W) := by
  have HS0 := Lib.hid (KS.start h hA)
  obtain ⟨T1, hT1⟩ : ∃ T1, t.byte.2 = T1 := ⟨_, rfl⟩
  have HBY : Hid (∀ V, TapeAt pt A c t V → Calls Try.prog 63 #[.pointer (some ⟨pt, 0, none⟩)] V fun r w' => r = .returned (.int .u8 3) ∧ TAct V pt A c T1 w') := fun V hV => (tbyte_any hV).mono fun r w' ⟨hr, ha⟩ => ⟨by rw [hr]; rw [hb]; rfl, by rw [← hT1]; exact ha⟩
  have HT1 := Lib.hid hT1
  have HTB := Lib.hid hb
  have HW := Lib.hid h.lt
  clear h hT1 hb
  go_enter Try.func48, Try.ntmps48
  go_upto_region 1 with (fail)
  refine wp_world (KS pr pt A c t left W) HS0.out ?_
  clear HS0
  intro V0 hS0
  have c1 : V0.cell? ⟨pr, 1, none⟩ = some (.int .i64 left) := hS0.rs.box.cell 1
  have cf := hS0.rs.box.frozen 1
  go_upto_region 2 with (fail)
  refine wp_world (KS pr pt A c t (left - 1) W) (hS0.dec _) ?_
  clear c1 cf hS0
  intro V9 hS1
  have c0 : V9.cell? ⟨pr, 0, none⟩ = some (.pointer (some ⟨pt, 0, none⟩)) := hS1.rs.box.cell 0
  go_upto_region 3 with (go_at_call 63; refine (HBY.out _ hS1.rs.tape).mono ?_; rintro r V1 ⟨rfl, ha1⟩)
  have hK1 := (hS1.act ha1).kt [.int .i64 3, .int .i64 0, .string ⟨#[]⟩, .slice none 0 0]
  obtain ⟨tb, htb⟩ : ∃ tb, V1.heap.size = tb := ⟨_, rfl⟩
  rw [htb] at hK1
  refine wp_world (KT pr pt A c tb T1 (left - 1) [.int .i64 3, .int .i64 0, .string ⟨#[]⟩, .slice none 0 0] W) hK1 ?_
  rw [htb]
  clear ha1 hK1 htb HBY c0 hS1
  intro V2 hK2
  have k0 : V2.cell? ⟨tb, 0, none⟩ = some (.int .i64 3) := hK2.t.cell 0
  have p0 : V2.cell? ⟨pr, 0, none⟩ = some (.pointer (some ⟨pt, 0, none⟩)) := hK2.rs.box.cell 0
  have HC := Lib.hid (tnum_any hK2.rs.tape)
  obtain ⟨y, hy⟩ : ∃ y, T1.number false = y := ⟨_, rfl⟩
  rw [hy] at HC
  have HY := Lib.hid hy
  clear hy
  obtain ⟨m, hm⟩ : ∃ m, y.1.1 = m := ⟨_, rfl⟩
  rw [hm] at HC
  obtain ⟨iv, hiv⟩ : ∃ iv, wrap64 (m : Int) = iv := ⟨_, rfl⟩
  have HIV := Lib.hid (show iv = i64 y.1.1 by rw [← hiv, hm]; rfl)
  clear hm
  go_wp2_with (fail)
  go_at_call 25
  refine HC.out.mono ?_
  rintro r V3 ⟨rfl, ha3⟩
  have hK3 := hK2.act ha3
  have g1 : V3.cell? ⟨tb, 1, none⟩ = some (.int .i64 0) := hK3.t.cell 1
  have gf := hK3.t.frozen 1
  go_upto_region 18 with (fail)
  refine wp_world (KT pr pt A c tb y.2 (left - 1) [.int .i64 3, .int .i64 iv, .string ⟨#[]⟩, .slice none 0 0] W) (hK3.set_ 1 _) ?_
  clear hiv hK3 hK2 ha3 HC p0 k0 g1 gf
  intro V8 hK8
  have t0 : V8.cell? ⟨tb, 0, none⟩ = some (.int .i64 3) := hK8.t.cell 0
  have t1 : V8.cell? ⟨tb, 1, none⟩ = some (.int .i64 iv) := hK8.t.cell 1
  have t2 : V8.cell? ⟨tb, 2, none⟩ = some (.string ⟨#[]⟩) := hK8.t.cell 2
  have t3 : V8.cell? ⟨tb, 3, none⟩ = some (.slice none 0 0) := hK8.t.cell 3
  have r0 : V8.cell? ⟨W.heap.size, 0, none⟩ = some (.int .i64 0) := hK8.r.cell 0
  have r1 : V8.cell? ⟨W.heap.size, 1, none⟩ = some (.int .i64 0) := hK8.r.cell 1
  have r2 : V8.cell? ⟨W.heap.size, 2, none⟩ = some (.string ⟨#[]⟩) := hK8.r.cell 2
  have r3 : V8.cell? ⟨W.heap.size, 3, none⟩ = some (.slice none 0 0) := hK8.r.cell 3
  have f0 := hK8.r.frozen 0
  have f1 := hK8.r.frozen 1
  have f2 := hK8.r.frozen 2
  have f3 := hK8.r.frozen 3
  go_wp2
  refine enc_bp_world (fun V => Blk V W.heap.size 39 #[.int .i64 3, .int .i64 iv, .string ⟨#[]⟩, .slice none 0 0] ∧ Fr (fun k => k = W.heap.size) V8 V) ⟨(((hK8.r.set_ 0 _).set_ 1 _).set_ 2 _).set_ 3 _, ((((Fr.setCell (fun k => k = W.heap.size) V8 (p := ⟨W.heap.size, 0, none⟩) (fun _ => rfl) _).same (Fr.setCell (fun k => k = W.heap.size) _ (p := ⟨W.heap.size, 1, none⟩) (fun _ => rfl) _)).same (Fr.setCell (fun k => k = W.heap.size) _ (p := ⟨W.heap.size, 2, none⟩) (fun _ => rfl) _)).same (Fr.setCell (fun k => k = W.heap.size) _ (p := ⟨W.heap.size, 3, none⟩) (fun _ => rfl) _))⟩ ?_
  rintro V9 ⟨hB9, hF9⟩
  have x0 : V9.cell? ⟨W.heap.size, 0, none⟩ = some (.int .i64 3) := hB9.cell 0
  have x1 : V9.cell? ⟨W.heap.size, 1, none⟩ = some (.int .i64 iv) := hB9.cell 1
  have x2 : V9.cell? ⟨W.heap.size, 2, none⟩ = some (.string ⟨#[]⟩) := hB9.cell 2
  have x3 : V9.cell? ⟨W.heap.size, 3, none⟩ = some (.slice none 0 0) := hB9.cell 3
  have hE : RS pr pt A c y.2 (left - 1) V9 ∧ Fr (fun k => k = pt ∨ k = pr) W V9 := by
    obtain ⟨o1, o2⟩ := HW.out
    exact ⟨hK8.rs.far hF9 (by omega) (by omega) (fun b off e => (hK8.oldA b off e (by omega)).1), hK8.fr.trans hF9 (fun k hk e => by omega)⟩
  have HRX : Hid (RdX (fun k => k < W.heap.size) V9 none 0 []) := RdX.nil_ _ _ _ _ (by omega)
  have HE := Lib.hid hE
  clear t0 t1 t2 t3 r0 r1 r2 r3 f0 f1 f2 f3 hE hK8
  have HR : Hid (TermR t left (.mk 3 iv [] []) y.2 (left - 1)) := by rw [HIV.out]; have := TermR.k35 (t := t) (left := left) (.inl HTB.out); rw [HT1.out, HY.out, HTB.out] at this; exact this
  exact bodyPost_ret (v := .agg #[.int .i64 3, .int .i64 iv, .string ⟨#[]⟩, .slice none 0 0]) (by simp [results, Try.results48, go_sem, x0, x1, x2, x3]) rfl ⟨⟨(.mk 3 iv [] []), none, 0⟩, y.2, (left - 1), rfl, HR.out, HE.out.1, HRX.out, HE.out.2, by omega, by omega⟩


set_option maxRecDepth 100000 in
set_option maxHeartbeats 2000000 in
theorem term_k5 {pr pt : Nat} {A : Option Addr} {c : Nat} {t : TS} {left : Int} {W : World} (h : RS pr pt A c t left W) (hA : ∀ b off, A = some ⟨b, off, none⟩ → b < W.heap.size) (hl0 : 0 ≤ left) (hl1 : left ≤ 1000000) (hb : t.byte.1 = 5) :
    Calls Try.prog 48 #[.pointer (some ⟨pr, 0, none⟩)] W (TermEnds pr pt A c t left W) := by
  have HS0 := Lib.hid (KS.start h hA)
  obtain ⟨T1, hT1⟩ : ∃ T1, t.byte.2 = T1 := ⟨_, rfl⟩
  have HBY : Hid (∀ V, TapeAt pt A c t V → Calls Try.prog 63 #[.pointer (some ⟨pt, 0, none⟩)] V fun r w' => r = .returned (.int .u8 5) ∧ TAct V pt A c T1 w') := fun V hV => (tbyte_any hV).mono fun r w' ⟨hr, ha⟩ => ⟨by rw [hr]; rw [hb]; rfl, by rw [← hT1]; exact ha⟩
  have HT1 := Lib.hid hT1
  have HTB := Lib.hid hb
  have HW := Lib.hid h.lt
  clear h hT1 hb
  go_enter Try.func48, Try.ntmps48
  go_upto_region 1 with (fail)
  refine wp_world (KS pr pt A c t left W) HS0.out ?_
  clear HS0
  intro V0 hS0
  have c1 : V0.cell? ⟨pr, 1, none⟩ = some (.int .i64 left) := hS0.rs.box.cell 1
  have cf := hS0.rs.box.frozen 1
  go_upto_region 2 with (fail)
  refine wp_world (KS pr pt A c t (left - 1) W) (hS0.dec _) ?_
  clear c1 cf hS0
  intro V9 hS1
  have c0 : V9.cell? ⟨pr, 0, none⟩ = some (.pointer (some ⟨pt, 0, none⟩)) := hS1.rs.box.cell 0
  go_upto_region 3 with (go_at_call 63; refine (HBY.out _ hS1.rs.tape).mono ?_; rintro r V1 ⟨rfl, ha1⟩)
  have hK1 := (hS1.act ha1).kt [.int .i64 5, .int .i64 0, .string ⟨#[]⟩, .slice none 0 0]
  obtain ⟨tb, htb⟩ : ∃ tb, V1.heap.size = tb := ⟨_, rfl⟩
  rw [htb] at hK1
  refine wp_world (KT pr pt A c tb T1 (left - 1) [.int .i64 5, .int .i64 0, .string ⟨#[]⟩, .slice none 0 0] W) hK1 ?_
  rw [htb]
  clear ha1 hK1 htb HBY c0 hS1
  intro V2 hK2
  have k0 : V2.cell? ⟨tb, 0, none⟩ = some (.int .i64 5) := hK2.t.cell 0
  have p0 : V2.cell? ⟨pr, 0, none⟩ = some (.pointer (some ⟨pt, 0, none⟩)) := hK2.rs.box.cell 0
  have HC := Lib.hid (tnum_any hK2.rs.tape)
  obtain ⟨y, hy⟩ : ∃ y, T1.number false = y := ⟨_, rfl⟩
  rw [hy] at HC
  have HY := Lib.hid hy
  clear hy
  obtain ⟨m, hm⟩ : ∃ m, y.1.1 = m := ⟨_, rfl⟩
  rw [hm] at HC
  obtain ⟨iv, hiv⟩ : ∃ iv, wrap64 (m : Int) = iv := ⟨_, rfl⟩
  have HIV := Lib.hid (show iv = i64 y.1.1 by rw [← hiv, hm]; rfl)
  clear hm
  go_wp2_with (fail)
  go_at_call 25
  refine HC.out.mono ?_
  rintro r V3 ⟨rfl, ha3⟩
  have hK3 := hK2.act ha3
  have g1 : V3.cell? ⟨tb, 1, none⟩ = some (.int .i64 0) := hK3.t.cell 1
  have gf := hK3.t.frozen 1
  go_upto_region 18 with (fail)
  refine wp_world (KT pr pt A c tb y.2 (left - 1) [.int .i64 5, .int .i64 iv, .string ⟨#[]⟩, .slice none 0 0] W) (hK3.set_ 1 _) ?_
  clear hiv hK3 hK2 ha3 HC p0 k0 g1 gf
  intro V8 hK8
  have t0 : V8.cell? ⟨tb, 0, none⟩ = some (.int .i64 5) := hK8.t.cell 0
  have t1 : V8.cell? ⟨tb, 1, none⟩ = some (.int .i64 iv) := hK8.t.cell 1
  have t2 : V8.cell? ⟨tb, 2, none⟩ = some (.string ⟨#[]⟩) := hK8.t.cell 2
  have t3 : V8.cell? ⟨tb, 3, none⟩ = some (.slice none 0 0) := hK8.t.cell 3
  have r0 : V8.cell? ⟨W.heap.size, 0, none⟩ = some (.int .i64 0) := hK8.r.cell 0
  have r1 : V8.cell? ⟨W.heap.size, 1, none⟩ = some (.int .i64 0) := hK8.r.cell 1
  have r2 : V8.cell? ⟨W.heap.size, 2, none⟩ = some (.string ⟨#[]⟩) := hK8.r.cell 2
  have r3 : V8.cell? ⟨W.heap.size, 3, none⟩ = some (.slice none 0 0) := hK8.r.cell 3
  have f0 := hK8.r.frozen 0
  have f1 := hK8.r.frozen 1
  have f2 := hK8.r.frozen 2
  have f3 := hK8.r.frozen 3
  go_wp2
  refine enc_bp_world (fun V => Blk V W.heap.size 39 #[.int .i64 5, .int .i64 iv, .string ⟨#[]⟩, .slice none 0 0] ∧ Fr (fun k => k = W.heap.size) V8 V) ⟨(((hK8.r.set_ 0 _).set_ 1 _).set_ 2 _).set_ 3 _, ((((Fr.setCell (fun k => k = W.heap.size) V8 (p := ⟨W.heap.size, 0, none⟩) (fun _ => rfl) _).same (Fr.setCell (fun k => k = W.heap.size) _ (p := ⟨W.heap.size, 1, none⟩) (fun _ => rfl) _)).same (Fr.setCell (fun k => k = W.heap.size) _ (p := ⟨W.heap.size, 2, none⟩) (fun _ => rfl) _)).same (Fr.setCell (fun k => k = W.heap.size) _ (p := ⟨W.heap.size, 3, none⟩) (fun _ => rfl) _))⟩ ?_
  rintro V9 ⟨hB9, hF9⟩
  have x0 : V9.cell? ⟨W.heap.size, 0, none⟩ = some (.int .i64 5) := hB9.cell 0
  have x1 : V9.cell? ⟨W.heap.size, 1, none⟩ = some (.int .i64 iv) := hB9.cell 1
  have x2 : V9.cell? ⟨W.heap.size, 2, none⟩ = some (.string ⟨#[]⟩) := hB9.cell 2
  have x3 : V9.cell? ⟨W.heap.size, 3, none⟩ = some (.slice none 0 0) := hB9.cell 3
  have hE : RS pr pt A c y.2 (left - 1) V9 ∧ Fr (fun k => k = pt ∨ k = pr) W V9 := by
    obtain ⟨o1, o2⟩ := HW.out
    exact ⟨hK8.rs.far hF9 (by omega) (by omega) (fun b off e => (hK8.oldA b off e (by omega)).1), hK8.fr.trans hF9 (fun k hk e => by omega)⟩
  have HRX : Hid (RdX (fun k => k < W.heap.size) V9 none 0 []) := RdX.nil_ _ _ _ _ (by omega)
  have HE := Lib.hid hE
  clear t0 t1 t2 t3 r0 r1 r2 r3 f0 f1 f2 f3 hE hK8
  have HR : Hid (TermR t left (.mk 5 iv [] []) y.2 (left - 1)) := by rw [HIV.out]; have := TermR.k35 (t := t) (left := left) (.inr HTB.out); rw [HT1.out, HY.out, HTB.out] at this; exact this
  exact bodyPost_ret (v := .agg #[.int .i64 5, .int .i64 iv, .string ⟨#[]⟩, .slice none 0 0]) (by simp [results, Try.results48, go_sem, x0, x1, x2, x3]) rfl ⟨⟨(.mk 5 iv [] []), none, 0⟩, y.2, (left - 1), rfl, HR.out, HE.out.1, HRX.out, HE.out.2, by omega, by omega⟩


set_option maxRecDepth 100000 in
set_option maxHeartbeats 2000000 in
theorem term_k4 {pr pt : Nat} {A : Option Addr} {c : Nat} {t : TS} {left : Int} {W : World} (h : RS pr pt A c t left W) (hA : ∀ b off, A = some ⟨b, off, none⟩ → b < W.heap.size) (hl0 : 0 ≤ left) (hl1 : left ≤ 1000000) (hb : t.byte.1 = 4) (hsome : ∀ (n : Nat) (t : TS) (V : World), n < 18446744073709551616 → RS pr pt A c t (left - 1) V → (∀ b off, A = some ⟨b, off, none⟩ → b < V.heap.size) → Calls Try.prog 24 #[.pointer (some ⟨pr, 0, none⟩), .int .u64 (n : Int)] V (SomeEnds pr pt A c n t (left - 1) V)) :
    Calls Try.prog 48 #[.pointer (some ⟨pr, 0, none⟩)] W (TermEnds pr pt A c t left W) := by
  have HS0 := Lib.hid (KS.start h hA)
  obtain ⟨T1, hT1⟩ : ∃ T1, t.byte.2 = T1 := ⟨_, rfl⟩
  have HBY : Hid (∀ V, TapeAt pt A c t V → Calls Try.prog 63 #[.pointer (some ⟨pt, 0, none⟩)] V fun r w' => r = .returned (.int .u8 4) ∧ TAct V pt A c T1 w') := fun V hV => (tbyte_any hV).mono fun r w' ⟨hr, ha⟩ => ⟨by rw [hr]; rw [hb]; rfl, by rw [← hT1]; exact ha⟩
  have HT1 := Lib.hid hT1
  have HTB := Lib.hid hb
  have HSOME := Lib.hid hsome
  have HAB := Lib.hid hA
  have HW := Lib.hid h.lt
  clear h hT1 hb hsome
  go_enter Try.func48, Try.ntmps48
  go_upto_region 1 with (fail)
  refine wp_world (KS pr pt A c t left W) HS0.out ?_
  clear HS0
  intro V0 hS0
  have c1 : V0.cell? ⟨pr, 1, none⟩ = some (.int .i64 left) := hS0.rs.box.cell 1
  have cf := hS0.rs.box.frozen 1
  go_upto_region 2 with (fail)
  refine wp_world (KS pr pt A c t (left - 1) W) (hS0.dec _) ?_
  clear c1 cf hS0
  intro V9 hS1
  have c0 : V9.cell? ⟨pr, 0, none⟩ = some (.pointer (some ⟨pt, 0, none⟩)) := hS1.rs.box.cell 0
  go_upto_region 3 with (go_at_call 63; refine (HBY.out _ hS1.rs.tape).mono ?_; rintro r V1 ⟨rfl, ha1⟩)
  have hK1 := (hS1.act ha1).kt [.int .i64 4, .int .i64 0, .string ⟨#[]⟩, .slice none 0 0]
  obtain ⟨tb, htb⟩ : ∃ tb, V1.heap.size = tb := ⟨_, rfl⟩
  rw [htb] at hK1
  refine wp_world (KT pr pt A c tb T1 (left - 1) [.int .i64 4, .int .i64 0, .string ⟨#[]⟩, .slice none 0 0] W) hK1 ?_
  rw [htb]
  clear ha1 hK1 htb HBY c0 hS1
  intro V2 hK2
  have k0 : V2.cell? ⟨tb, 0, none⟩ = some (.int .i64 4) := hK2.t.cell 0
  have p0 : V2.cell? ⟨pr, 0, none⟩ = some (.pointer (some ⟨pt, 0, none⟩)) := hK2.rs.box.cell 0
  have HC := Lib.hid (tnum_any hK2.rs.tape)
  obtain ⟨y, hy⟩ : ∃ y, T1.number false = y := ⟨_, rfl⟩
  rw [hy] at HC
  have HY := Lib.hid hy
  clear hy
  obtain ⟨m, hm⟩ : ∃ m, y.1.1 = m := ⟨_, rfl⟩
  rw [hm] at HC
  obtain ⟨iv, hiv⟩ : ∃ iv, wrap64 (m : Int) = iv := ⟨_, rfl⟩
  have HIV := Lib.hid (show iv = i64 y.1.1 by rw [← hiv, hm]; rfl)
  clear hm
  go_wp2_with (fail)
  go_at_call 25
  refine HC.out.mono ?_
  rintro r V3 ⟨rfl, ha3⟩
  have hK3 := hK2.act ha3
  have g1 : V3.cell? ⟨tb, 1, none⟩ = some (.int .i64 0) := hK3.t.cell 1
  have gf := hK3.t.frozen 1
  go_upto_region 13 with (fail)
  refine wp_world (KT pr pt A c tb y.2 (left - 1) [.int .i64 4, .int .i64 iv, .string ⟨#[]⟩, .slice none 0 0] W) (hK3.set_ 1 _) ?_
  clear hiv hK3 hK2 ha3 HC p0 k0 g1 gf
  intro V4 hK4
  have p0 : V4.cell? ⟨pr, 0, none⟩ = some (.pointer (some ⟨pt, 0, none⟩)) := hK4.rs.box.cell 0
  have HC2 := Lib.hid (tnum_any hK4.rs.tape)
  obtain ⟨z, hz⟩ : ∃ z, y.2.number false = z := ⟨_, rfl⟩
  have hz9 : z.1.1 < 18446744073709551616 := by rw [← hz]; exact number_lt false
  rw [hz] at HC2
  have HZ := Lib.hid hz
  clear hz
  go_wp2_with (fail)
  go_at_call 25
  refine HC2.out.mono ?_
  rintro r V5 ⟨rfl, ha5⟩
  have hK5 := hK4.act ha5
  obtain ⟨o1, o2⟩ := HW.out
  have hVs : ∀ b off, A = some ⟨b, off, none⟩ → b < V5.heap.size := fun b off e => by have := HAB.out b off e; have := hK5.fr.size; omega
  have HSM := Lib.hid (HSOME.out z.1.1 z.2 V5 hz9 hK5.rs hVs)
  have hsz5 := hK5.fr.size
  have htb5 := hK5.t.lt
  have hW5 : W.heap.size < V5.heap.size := by have := hK5.lt; omega
  go_wp2_with (fail)
  go_at_call 24
  refine HSM.out.mono ?_
  rintro r V6 ⟨xs, A6, c6, t6, l6, rfl, hS6, hR6, hX6, hF6, hl6, hg6⟩
  have hK6 := hK5.step hR6 hF6
  have g3 : V6.cell? ⟨tb, 3, none⟩ = some (.slice none 0 0) := hK6.t.cell 3
  have gf := hK6.t.frozen 3
  have HX6 : Hid (RdX (fun k => k < V5.heap.size) (V6.setCell ⟨tb, 3, none⟩ (.slice A6 xs.length c6)) A6 c6 xs) := hX6.to (.of_fr (Fr.setCell _ _ (p := ⟨tb, 3, none⟩) (fun _ => htb5) _))
  have HS6 := Lib.hid hS6
  obtain ⟨nx, hnx⟩ : ∃ nx, xs.length = nx := ⟨_, rfl⟩
  have HNX := Lib.hid hnx
  rw [hnx] at HX6 ⊢
  clear hX6 hS6 hnx
  go_upto_region 18 with (fail)
  have HXW := Lib.hid (fun V7 (hk : V7 = V6.setCell ⟨tb, 3, none⟩ (.slice A6 nx c6)) => show RdX (fun k => k < V5.heap.size) V7 A6 c6 xs by rw [hk]; exact HX6.out)
  refine wp_world (fun V => KT pr pt A c tb t6 l6 [.int .i64 4, .int .i64 iv, .string ⟨#[]⟩, .slice A6 nx c6] W V ∧ RdX (fun k => k < V5.heap.size) V A6 c6 xs) ⟨hK6.set_ 3 _, HX6.out⟩ ?_
  clear HX6 HXW hK6 hR6 hF6 hK5 g3 gf HSM hVs hK4 p0 ha5 HC2
  rintro V7 ⟨hK7, hX7⟩
  have HX7 := Lib.hid hX7
  clear hX7
  refine wp_world (fun V => KT pr pt A c tb t6 l6 [.int .i64 4, .int .i64 iv, .string ⟨#[]⟩, .slice A6 nx c6] W V ∧ RdX (fun k => k < V5.heap.size) V A6 c6 xs) ⟨hK7, HX7.out⟩ ?_
  clear hK7 HX7
  rintro V8 ⟨hK8, hX8⟩
  have HX8 := Lib.hid hX8
  clear hX8
  have t0 : V8.cell? ⟨tb, 0, none⟩ = some (.int .i64 4) := hK8.t.cell 0
  have t1 : V8.cell? ⟨tb, 1, none⟩ = some (.int .i64 iv) := hK8.t.cell 1
  have t2 : V8.cell? ⟨tb, 2, none⟩ = some (.string ⟨#[]⟩) := hK8.t.cell 2
  have t3 : V8.cell? ⟨tb, 3, none⟩ = some (.slice A6 nx c6) := hK8.t.cell 3
  have r0 : V8.cell? ⟨W.heap.size, 0, none⟩ = some (.int .i64 0) := hK8.r.cell 0
  have r1 : V8.cell? ⟨W.heap.size, 1, none⟩ = some (.int .i64 0) := hK8.r.cell 1
  have r2 : V8.cell? ⟨W.heap.size, 2, none⟩ = some (.string ⟨#[]⟩) := hK8.r.cell 2
  have r3 : V8.cell? ⟨W.heap.size, 3, none⟩ = some (.slice none 0 0) := hK8.r.cell 3
  have f0 := hK8.r.frozen 0
  have f1 := hK8.r.frozen 1
  have f2 := hK8.r.frozen 2
  have f3 := hK8.r.frozen 3
  go_wp2
  refine enc_bp_world (fun V => Blk V W.heap.size 39 #[.int .i64 4, .int .i64 iv, .string ⟨#[]⟩, .slice A6 nx c6] ∧ Fr (fun k => k = W.heap.size) V8 V) ⟨(((hK8.r.set_ 0 _).set_ 1 _).set_ 2 _).set_ 3 _, ((((Fr.setCell (fun k => k = W.heap.size) V8 (p := ⟨W.heap.size, 0, none⟩) (fun _ => rfl) _).same (Fr.setCell (fun k => k = W.heap.size) _ (p := ⟨W.heap.size, 1, none⟩) (fun _ => rfl) _)).same (Fr.setCell (fun k => k = W.heap.size) _ (p := ⟨W.heap.size, 2, none⟩) (fun _ => rfl) _)).same (Fr.setCell (fun k => k = W.heap.size) _ (p := ⟨W.heap.size, 3, none⟩) (fun _ => rfl) _))⟩ ?_
  rintro V9 ⟨hB9, hF9⟩
  have x0 : V9.cell? ⟨W.heap.size, 0, none⟩ = some (.int .i64 4) := hB9.cell 0
  have x1 : V9.cell? ⟨W.heap.size, 1, none⟩ = some (.int .i64 iv) := hB9.cell 1
  have x2 : V9.cell? ⟨W.heap.size, 2, none⟩ = some (.string ⟨#[]⟩) := hB9.cell 2
  have x3 : V9.cell? ⟨W.heap.size, 3, none⟩ = some (.slice A6 nx c6) := hB9.cell 3
  have hE : RS pr pt A c t6 l6 V9 ∧ Fr (fun k => k = pt ∨ k = pr) W V9 := by
    obtain ⟨o1, o2⟩ := HW.out
    exact ⟨hK8.rs.far hF9 (by omega) (by omega) (fun b off e => (hK8.oldA b off e (by omega)).1), hK8.fr.trans hF9 (fun k hk e => by omega)⟩
  have HRX : Hid (RdX (fun k => k < W.heap.size) V9 A6 c6 xs) := (HX8.out.to (.of_fr (hF9.weak fun k _ e => by have e2 : k = W.heap.size := e; show k < V5.heap.size; omega))).mono (fun k hk => by have e2 : k < W.heap.size := hk; show k < V5.heap.size; omega)
  have HE := Lib.hid hE
  clear t0 t1 t2 t3 r0 r1 r2 r3 f0 f1 f2 f3 hE hK8
  have HR : Hid (TermR t left (.mk 4 iv [] xs) t6 l6) := by rw [HIV.out]; have := TermR.k4 (t := t) (left := left) (xs := xs) (t' := t6) (left' := l6) HTB.out (by rw [HT1.out, HY.out, HZ.out]; exact HS6.out); rw [HT1.out, HY.out] at this; exact this
  exact bodyPost_ret (v := .agg #[.int .i64 4, .int .i64 iv, .string ⟨#[]⟩, .slice A6 nx c6]) (by simp [results, Try.results48, go_sem, x0, x1, x2, x3]) rfl ⟨⟨(.mk 4 iv [] xs), A6, c6⟩, t6, l6, by rw [← HNX.out]; rfl, HR.out, HE.out.1, HRX.out, HE.out.2, by omega, by omega⟩


set_option maxRecDepth 100000 in
set_option maxHeartbeats 2000000 in
theorem term_k6 {pr pt : Nat} {A : Option Addr} {c : Nat} {t : TS} {left : Int} {W : World} (h : RS pr pt A c t left W) (hA : ∀ b off, A = some ⟨b, off, none⟩ → b < W.heap.size) (hl0 : 0 ≤ left) (hl1 : left ≤ 1000000) (hb : t.byte.1 = 6) (hsome : ∀ (n : Nat) (t : TS) (V : World), n < 18446744073709551616 → RS pr pt A c t (left - 1) V → (∀ b off, A = some ⟨b, off, none⟩ → b < V.heap.size) → Calls Try.prog 24 #[.pointer (some ⟨pr, 0, none⟩), .int .u64 (n : Int)] V (SomeEnds pr pt A c n t (left - 1) V)) :
    Calls Try.prog 48 #[.pointer (some ⟨pr, 0, none⟩)] W (TermEnds pr pt A c t left W) := by
  have HS0 := Lib.hid (KS.start h hA)
  obtain ⟨T1, hT1⟩ : ∃ T1, t.byte.2 = T1 := ⟨_, rfl⟩
  have HBY : Hid (∀ V, TapeAt pt A c t V → Calls Try.prog 63 #[.pointer (some ⟨pt, 0, none⟩)] V fun r w' => r = .returned (.int .u8 6) ∧ TAct V pt A c T1 w') := fun V hV => (tbyte_any hV).mono fun r w' ⟨hr, ha⟩ => ⟨by rw [hr]; rw [hb]; rfl, by rw [← hT1]; exact ha⟩
  have HT1 := Lib.hid hT1
  have HTB := Lib.hid hb
  have HSOME := Lib.hid hsome
  have HAB := Lib.hid hA
  have HW := Lib.hid h.lt
  clear h hT1 hb hsome
  go_enter Try.func48, Try.ntmps48
  go_upto_region 1 with (fail)
  refine wp_world (KS pr pt A c t left W) HS0.out ?_
  clear HS0
  intro V0 hS0
  have c1 : V0.cell? ⟨pr, 1, none⟩ = some (.int .i64 left) := hS0.rs.box.cell 1
  have cf := hS0.rs.box.frozen 1
  go_upto_region 2 with (fail)
  refine wp_world (KS pr pt A c t (left - 1) W) (hS0.dec _) ?_
  clear c1 cf hS0
  intro V9 hS1
  have c0 : V9.cell? ⟨pr, 0, none⟩ = some (.pointer (some ⟨pt, 0, none⟩)) := hS1.rs.box.cell 0
  go_upto_region 3 with (go_at_call 63; refine (HBY.out _ hS1.rs.tape).mono ?_; rintro r V1 ⟨rfl, ha1⟩)
  have hK1 := (hS1.act ha1).kt [.int .i64 6, .int .i64 0, .string ⟨#[]⟩, .slice none 0 0]
  obtain ⟨tb, htb⟩ : ∃ tb, V1.heap.size = tb := ⟨_, rfl⟩
  rw [htb] at hK1
  refine wp_world (KT pr pt A c tb T1 (left - 1) [.int .i64 6, .int .i64 0, .string ⟨#[]⟩, .slice none 0 0] W) hK1 ?_
  rw [htb]
  clear ha1 hK1 htb HBY c0 hS1
  intro V2 hK2
  have k0 : V2.cell? ⟨tb, 0, none⟩ = some (.int .i64 6) := hK2.t.cell 0
  have p0 : V2.cell? ⟨pr, 0, none⟩ = some (.pointer (some ⟨pt, 0, none⟩)) := hK2.rs.box.cell 0
  have HC2 := Lib.hid (tnum_any hK2.rs.tape)
  obtain ⟨z, hz⟩ : ∃ z, T1.number false = z := ⟨_, rfl⟩
  have hz9 : z.1.1 < 18446744073709551616 := by rw [← hz]; exact number_lt false
  rw [hz] at HC2
  have HZ := Lib.hid hz
  clear hz
  go_wp2_with (fail)
  go_at_call 25
  refine HC2.out.mono ?_
  rintro r V5 ⟨rfl, ha5⟩
  have hK5 := hK2.act ha5
  obtain ⟨o1, o2⟩ := HW.out
  have hVs : ∀ b off, A = some ⟨b, off, none⟩ → b < V5.heap.size := fun b off e => by have := HAB.out b off e; have := hK5.fr.size; omega
  have HSM := Lib.hid (HSOME.out z.1.1 z.2 V5 hz9 hK5.rs hVs)
  have hsz5 := hK5.fr.size
  have htb5 := hK5.t.lt
  have hW5 : W.heap.size < V5.heap.size := by have := hK5.lt; omega
  go_wp2_with (fail)
  go_at_call 24
  refine HSM.out.mono ?_
  rintro r V6 ⟨xs, A6, c6, t6, l6, rfl, hS6, hR6, hX6, hF6, hl6, hg6⟩
  have hK6 := hK5.step hR6 hF6
  have g3 : V6.cell? ⟨tb, 3, none⟩ = some (.slice none 0 0) := hK6.t.cell 3
  have gf := hK6.t.frozen 3
  have HX6 : Hid (RdX (fun k => k < V5.heap.size) (V6.setCell ⟨tb, 3, none⟩ (.slice A6 xs.length c6)) A6 c6 xs) := hX6.to (.of_fr (Fr.setCell _ _ (p := ⟨tb, 3, none⟩) (fun _ => htb5) _))
  have HS6 := Lib.hid hS6
  obtain ⟨nx, hnx⟩ : ∃ nx, xs.length = nx := ⟨_, rfl⟩
  have HNX := Lib.hid hnx
  rw [hnx] at HX6 ⊢
  clear hX6 hS6 hnx
  go_upto_region 18 with (fail)
  have HXW := Lib.hid (fun V7 (hk : V7 = V6.setCell ⟨tb, 3, none⟩ (.slice A6 nx c6)) => show RdX (fun k => k < V5.heap.size) V7 A6 c6 xs by rw [hk]; exact HX6.out)
  refine wp_world (fun V => KT pr pt A c tb t6 l6 [.int .i64 6, .int .i64 0, .string ⟨#[]⟩, .slice A6 nx c6] W V ∧ RdX (fun k => k < V5.heap.size) V A6 c6 xs) ⟨hK6.set_ 3 _, HX6.out⟩ ?_
  clear HX6 HXW hK6 hR6 hF6 hK5 g3 gf HSM hVs hK2 k0 p0 ha5 HC2
  rintro V7 ⟨hK7, hX7⟩
  have HX7 := Lib.hid hX7
  clear hX7
  refine wp_world (fun V => KT pr pt A c tb t6 l6 [.int .i64 6, .int .i64 0, .string ⟨#[]⟩, .slice A6 nx c6] W V ∧ RdX (fun k => k < V5.heap.size) V A6 c6 xs) ⟨hK7, HX7.out⟩ ?_
  clear hK7 HX7
  rintro V8 ⟨hK8, hX8⟩
  have HX8 := Lib.hid hX8
  clear hX8
  have t0 : V8.cell? ⟨tb, 0, none⟩ = some (.int .i64 6) := hK8.t.cell 0
  have t1 : V8.cell? ⟨tb, 1, none⟩ = some (.int .i64 0) := hK8.t.cell 1
  have t2 : V8.cell? ⟨tb, 2, none⟩ = some (.string ⟨#[]⟩) := hK8.t.cell 2
  have t3 : V8.cell? ⟨tb, 3, none⟩ = some (.slice A6 nx c6) := hK8.t.cell 3
  have r0 : V8.cell? ⟨W.heap.size, 0, none⟩ = some (.int .i64 0) := hK8.r.cell 0
  have r1 : V8.cell? ⟨W.heap.size, 1, none⟩ = some (.int .i64 0) := hK8.r.cell 1
  have r2 : V8.cell? ⟨W.heap.size, 2, none⟩ = some (.string ⟨#[]⟩) := hK8.r.cell 2
  have r3 : V8.cell? ⟨W.heap.size, 3, none⟩ = some (.slice none 0 0) := hK8.r.cell 3
  have f0 := hK8.r.frozen 0
  have f1 := hK8.r.frozen 1
  have f2 := hK8.r.frozen 2
  have f3 := hK8.r.frozen 3
  go_wp2
  refine enc_bp_world (fun V => Blk V W.heap.size 39 #[.int .i64 6, .int .i64 0, .string ⟨#[]⟩, .slice A6 nx c6] ∧ Fr (fun k => k = W.heap.size) V8 V) ⟨(((hK8.r.set_ 0 _).set_ 1 _).set_ 2 _).set_ 3 _, ((((Fr.setCell (fun k => k = W.heap.size) V8 (p := ⟨W.heap.size, 0, none⟩) (fun _ => rfl) _).same (Fr.setCell (fun k => k = W.heap.size) _ (p := ⟨W.heap.size, 1, none⟩) (fun _ => rfl) _)).same (Fr.setCell (fun k => k = W.heap.size) _ (p := ⟨W.heap.size, 2, none⟩) (fun _ => rfl) _)).same (Fr.setCell (fun k => k = W.heap.size) _ (p := ⟨W.heap.size, 3, none⟩) (fun _ => rfl) _))⟩ ?_
  rintro V9 ⟨hB9, hF9⟩
  have x0 : V9.cell? ⟨W.heap.size, 0, none⟩ = some (.int .i64 6) := hB9.cell 0
  have x1 : V9.cell? ⟨W.heap.size, 1, none⟩ = some (.int .i64 0) := hB9.cell 1
  have x2 : V9.cell? ⟨W.heap.size, 2, none⟩ = some (.string ⟨#[]⟩) := hB9.cell 2
  have x3 : V9.cell? ⟨W.heap.size, 3, none⟩ = some (.slice A6 nx c6) := hB9.cell 3
  have hE : RS pr pt A c t6 l6 V9 ∧ Fr (fun k => k = pt ∨ k = pr) W V9 := by
    obtain ⟨o1, o2⟩ := HW.out
    exact ⟨hK8.rs.far hF9 (by omega) (by omega) (fun b off e => (hK8.oldA b off e (by omega)).1), hK8.fr.trans hF9 (fun k hk e => by omega)⟩
  have HRX : Hid (RdX (fun k => k < W.heap.size) V9 A6 c6 xs) := (HX8.out.to (.of_fr (hF9.weak fun k _ e => by have e2 : k = W.heap.size := e; show k < V5.heap.size; omega))).mono (fun k hk => by have e2 : k < W.heap.size := hk; show k < V5.heap.size; omega)
  have HE := Lib.hid hE
  clear t0 t1 t2 t3 r0 r1 r2 r3 f0 f1 f2 f3 hE hK8
  have HR : Hid (TermR t left (.mk 6 0 [] xs) t6 l6) := TermR.k6 HTB.out (by rw [HT1.out, HZ.out]; exact HS6.out)
  exact bodyPost_ret (v := .agg #[.int .i64 6, .int .i64 0, .string ⟨#[]⟩, .slice A6 nx c6]) (by simp [results, Try.results48, go_sem, x0, x1, x2, x3]) rfl ⟨⟨(.mk 6 0 [] xs), A6, c6⟩, t6, l6, by rw [← HNX.out]; rfl, HR.out, HE.out.1, HRX.out, HE.out.2, by omega, by omega⟩


set_option maxRecDepth 100000 in
set_option maxHeartbeats 2000000 in
theorem term_k8 {pr pt : Nat} {A : Option Addr} {c : Nat} {t : TS} {left : Int} {W : World} (h : RS pr pt A c t left W) (hA : ∀ b off, A = some ⟨b, off, none⟩ → b < W.heap.size) (hl0 : 0 ≤ left) (hl1 : left ≤ 1000000) (hb : t.byte.1 = 8) (hsome : ∀ (n : Nat) (t : TS) (V : World), n < 18446744073709551616 → RS pr pt A c t (left - 1) V → (∀ b off, A = some ⟨b, off, none⟩ → b < V.heap.size) → Calls Try.prog 24 #[.pointer (some ⟨pr, 0, none⟩), .int .u64 (n : Int)] V (SomeEnds pr pt A c n t (left - 1) V)) :
    Calls Try.prog 48 #[.pointer (some ⟨pr, 0, none⟩)] W (TermEnds pr pt A c t left W) := by
  have HS0 := Lib.hid (KS.start h hA)
  obtain ⟨T1, hT1⟩ : ∃ T1, t.byte.2 = T1 := ⟨_, rfl⟩
  have HBY : Hid (∀ V, TapeAt pt A c t V → Calls Try.prog 63 #[.pointer (some ⟨pt, 0, none⟩)] V fun r w' => r = .returned (.int .u8 8) ∧ TAct V pt A c T1 w') := fun V hV => (tbyte_any hV).mono fun r w' ⟨hr, ha⟩ => ⟨by rw [hr]; rw [hb]; rfl, by rw [← hT1]; exact ha⟩
  have HT1 := Lib.hid hT1
  have HTB := Lib.hid hb
  have HSOME := Lib.hid hsome
  have HAB := Lib.hid hA
  have HW := Lib.hid h.lt
  clear h hT1 hb hsome
  go_enter Try.func48, Try.ntmps48
  go_upto_region 1 with (fail)
  refine wp_world (KS pr pt A c t left W) HS0.out ?_
  clear HS0
  intro V0 hS0
  have c1 : V0.cell? ⟨pr, 1, none⟩ = some (.int .i64 left) := hS0.rs.box.cell 1
  have cf := hS0.rs.box.frozen 1
  go_upto_region 2 with (fail)
  refine wp_world (KS pr pt A c t (left - 1) W) (hS0.dec _) ?_
  clear c1 cf hS0
  intro V9 hS1
  have c0 : V9.cell? ⟨pr, 0, none⟩ = some (.pointer (some ⟨pt, 0, none⟩)) := hS1.rs.box.cell 0
  go_upto_region 3 with (go_at_call 63; refine (HBY.out _ hS1.rs.tape).mono ?_; rintro r V1 ⟨rfl, ha1⟩)
  have hK1 := (hS1.act ha1).kt [.int .i64 8, .int .i64 0, .string ⟨#[]⟩, .slice none 0 0]
  obtain ⟨tb, htb⟩ : ∃ tb, V1.heap.size = tb := ⟨_, rfl⟩
  rw [htb] at hK1
  refine wp_world (KT pr pt A c tb T1 (left - 1) [.int .i64 8, .int .i64 0, .string ⟨#[]⟩, .slice none 0 0] W) hK1 ?_
  rw [htb]
  clear ha1 hK1 htb HBY c0 hS1
  intro V2 hK2
  have k0 : V2.cell? ⟨tb, 0, none⟩ = some (.int .i64 8) := hK2.t.cell 0
  have p0 : V2.cell? ⟨pr, 0, none⟩ = some (.pointer (some ⟨pt, 0, none⟩)) := hK2.rs.box.cell 0
  have hK5 := hK2
  obtain ⟨V5, hV5⟩ : ∃ V5, V5 = V2 := ⟨_, rfl⟩
  rw [← hV5] at hK5 k0 p0 ⊢
  clear hV5 hK2
  have hz9 : 2 < 18446744073709551616 := by omega
  obtain ⟨o1, o2⟩ := HW.out
  have hVs : ∀ b off, A = some ⟨b, off, none⟩ → b < V5.heap.size := fun b off e => by have := HAB.out b off e; have := hK5.fr.size; omega
  have HSM := Lib.hid (HSOME.out 2 T1 V5 hz9 hK5.rs hVs)
  have hsz5 := hK5.fr.size
  have htb5 := hK5.t.lt
  have hW5 : W.heap.size < V5.heap.size := by have := hK5.lt; omega
  go_wp2_with (fail)
  go_at_call 24
  refine HSM.out.mono ?_
  rintro r V6 ⟨xs, A6, c6, t6, l6, rfl, hS6, hR6, hX6, hF6, hl6, hg6⟩
  have hK6 := hK5.step hR6 hF6
  have g3 : V6.cell? ⟨tb, 3, none⟩ = some (.slice none 0 0) := hK6.t.cell 3
  have gf := hK6.t.frozen 3
  have HX6 : Hid (RdX (fun k => k < V5.heap.size) (V6.setCell ⟨tb, 3, none⟩ (.slice A6 xs.length c6)) A6 c6 xs) := hX6.to (.of_fr (Fr.setCell _ _ (p := ⟨tb, 3, none⟩) (fun _ => htb5) _))
  have HS6 := Lib.hid hS6
  obtain ⟨nx, hnx⟩ : ∃ nx, xs.length = nx := ⟨_, rfl⟩
  have HNX := Lib.hid hnx
  rw [hnx] at HX6 ⊢
  clear hX6 hS6 hnx
  go_upto_region 18 with (fail)
  have HXW := Lib.hid (fun V7 (hk : V7 = V6.setCell ⟨tb, 3, none⟩ (.slice A6 nx c6)) => show RdX (fun k => k < V5.heap.size) V7 A6 c6 xs by rw [hk]; exact HX6.out)
  refine wp_world (fun V => KT pr pt A c tb t6 l6 [.int .i64 8, .int .i64 0, .string ⟨#[]⟩, .slice A6 nx c6] W V ∧ RdX (fun k => k < V5.heap.size) V A6 c6 xs) ⟨hK6.set_ 3 _, HX6.out⟩ ?_
  clear HX6 HXW hK6 hR6 hF6 hK5 g3 gf HSM hVs k0 p0
  rintro V7 ⟨hK7, hX7⟩
  have HX7 := Lib.hid hX7
  clear hX7
  refine wp_world (fun V => KT pr pt A c tb t6 l6 [.int .i64 8, .int .i64 0, .string ⟨#[]⟩, .slice A6 nx c6] W V ∧ RdX (fun k => k < V5.heap.size) V A6 c6 xs) ⟨hK7, HX7.out⟩ ?_
  clear hK7 HX7
  rintro V8 ⟨hK8, hX8⟩
  have HX8 := Lib.hid hX8
  clear hX8
  have t0 : V8.cell? ⟨tb, 0, none⟩ = some (.int .i64 8) := hK8.t.cell 0
  have t1 : V8.cell? ⟨tb, 1, none⟩ = some (.int .i64 0) := hK8.t.cell 1
  have t2 : V8.cell? ⟨tb, 2, none⟩ = some (.string ⟨#[]⟩) := hK8.t.cell 2
  have t3 : V8.cell? ⟨tb, 3, none⟩ = some (.slice A6 nx c6) := hK8.t.cell 3
  have r0 : V8.cell? ⟨W.heap.size, 0, none⟩ = some (.int .i64 0) := hK8.r.cell 0
  have r1 : V8.cell? ⟨W.heap.size, 1, none⟩ = some (.int .i64 0) := hK8.r.cell 1
  have r2 : V8.cell? ⟨W.heap.size, 2, none⟩ = some (.string ⟨#[]⟩) := hK8.r.cell 2
  have r3 : V8.cell? ⟨W.heap.size, 3, none⟩ = some (.slice none 0 0) := hK8.r.cell 3
  have f0 := hK8.r.frozen 0
  have f1 := hK8.r.frozen 1
  have f2 := hK8.r.frozen 2
  have f3 := hK8.r.frozen 3
  go_wp2
  refine enc_bp_world (fun V => Blk V W.heap.size 39 #[.int .i64 8, .int .i64 0, .string ⟨#[]⟩, .slice A6 nx c6] ∧ Fr (fun k => k = W.heap.size) V8 V) ⟨(((hK8.r.set_ 0 _).set_ 1 _).set_ 2 _).set_ 3 _, ((((Fr.setCell (fun k => k = W.heap.size) V8 (p := ⟨W.heap.size, 0, none⟩) (fun _ => rfl) _).same (Fr.setCell (fun k => k = W.heap.size) _ (p := ⟨W.heap.size, 1, none⟩) (fun _ => rfl) _)).same (Fr.setCell (fun k => k = W.heap.size) _ (p := ⟨W.heap.size, 2, none⟩) (fun _ => rfl) _)).same (Fr.setCell (fun k => k = W.heap.size) _ (p := ⟨W.heap.size, 3, none⟩) (fun _ => rfl) _))⟩ ?_
  rintro V9 ⟨hB9, hF9⟩
  have x0 : V9.cell? ⟨W.heap.size, 0, none⟩ = some (.int .i64 8) := hB9.cell 0
  have x1 : V9.cell? ⟨W.heap.size, 1, none⟩ = some (.int .i64 0) := hB9.cell 1
  have x2 : V9.cell? ⟨W.heap.size, 2, none⟩ = some (.string ⟨#[]⟩) := hB9.cell 2
  have x3 : V9.cell? ⟨W.heap.size, 3, none⟩ = some (.slice A6 nx c6) := hB9.cell 3
  have hE : RS pr pt A c t6 l6 V9 ∧ Fr (fun k => k = pt ∨ k = pr) W V9 := by
    obtain ⟨o1, o2⟩ := HW.out
    exact ⟨hK8.rs.far hF9 (by omega) (by omega) (fun b off e => (hK8.oldA b off e (by omega)).1), hK8.fr.trans hF9 (fun k hk e => by omega)⟩
  have HRX : Hid (RdX (fun k => k < W.heap.size) V9 A6 c6 xs) := (HX8.out.to (.of_fr (hF9.weak fun k _ e => by have e2 : k = W.heap.size := e; show k < V5.heap.size; omega))).mono (fun k hk => by have e2 : k < W.heap.size := hk; show k < V5.heap.size; omega)
  have HE := Lib.hid hE
  clear t0 t1 t2 t3 r0 r1 r2 r3 f0 f1 f2 f3 hE hK8
  have HR : Hid (TermR t left (.mk 8 0 [] xs) t6 l6) := TermR.k8 HTB.out (by rw [HT1.out]; exact HS6.out)
  exact bodyPost_ret (v := .agg #[.int .i64 8, .int .i64 0, .string ⟨#[]⟩, .slice A6 nx c6]) (by simp [results, Try.results48, go_sem, x0, x1, x2, x3]) rfl ⟨⟨(.mk 8 0 [] xs), A6, c6⟩, t6, l6, by rw [← HNX.out]; rfl, HR.out, HE.out.1, HRX.out, HE.out.2, by omega, by omega⟩


theorem u8_ne {x : UInt8} {b k : Nat} (h : x.toNat = b) (hk : k < 256) (hx : x ≠ UInt8.ofNat k) : ((b : Int) == (k : Int)) = false := by
  rw [beq_eq_false_iff_ne]
  intro e
  refine hx (UInt8.toNat_inj.1 ?_)
  rw [h]
  simp
  omega

set_option maxRecDepth 100000 in
set_option maxHeartbeats 2000000 in
theorem term_ko {pr pt : Nat} {A : Option Addr} {c : Nat} {t : TS} {left : Int} {W : World} (h : RS pr pt A c t left W) (hA : ∀ b off, A = some ⟨b, off, none⟩ → b < W.heap.size) (hl0 : 0 ≤ left) (hl1 : left ≤ 1000000) (b : Nat) (hbn : t.byte.1.toNat = b) (hb : t.byte.1 ≠ 1 ∧ t.byte.1 ≠ 2 ∧ t.byte.1 ≠ 3 ∧ t.byte.1 ≠ 5 ∧ t.byte.1 ≠ 4 ∧ t.byte.1 ≠ 6 ∧ t.byte.1 ≠ 8) :
    Calls Try.prog 48 #[.pointer (some ⟨pr, 0, none⟩)] W (TermEnds pr pt A c t left W) := by
  have HS0 := Lib.hid (KS.start h hA)
  obtain ⟨T1, hT1⟩ : ∃ T1, t.byte.2 = T1 := ⟨_, rfl⟩
  have HBY : Hid (∀ V, TapeAt pt A c t V → Calls Try.prog 63 #[.pointer (some ⟨pt, 0, none⟩)] V fun r w' => r = .returned (.int .u8 (b : Int)) ∧ TAct V pt A c T1 w') := fun V hV => (tbyte_any hV).mono fun r w' ⟨hr, ha⟩ => ⟨by rw [hr]; unfold bv; rw [hbn], by rw [← hT1]; exact ha⟩
  have HT1 := Lib.hid hT1
  have HTB := Lib.hid hb
  have HBN := Lib.hid hbn
  have hb256 : b < 256 := by rw [← hbn]; exact UInt8.toNat_lt _
  have HW := Lib.hid h.lt
  clear h hT1 hb hbn
  have d1 : ((b : Int) == 1) = false := u8_ne (k := 1) HBN.out (by omega) HTB.out.1
  have d2 : ((b : Int) == 2) = false := u8_ne (k := 2) HBN.out (by omega) HTB.out.2.1
  have d3 : ((b : Int) == 3) = false := u8_ne (k := 3) HBN.out (by omega) HTB.out.2.2.1
  have d5 : ((b : Int) == 5) = false := u8_ne (k := 5) HBN.out (by omega) HTB.out.2.2.2.1
  have d4 : ((b : Int) == 4) = false := u8_ne (k := 4) HBN.out (by omega) HTB.out.2.2.2.2.1
  have d6 : ((b : Int) == 6) = false := u8_ne (k := 6) HBN.out (by omega) HTB.out.2.2.2.2.2.1
  have d8 : ((b : Int) == 8) = false := u8_ne (k := 8) HBN.out (by omega) HTB.out.2.2.2.2.2.2
  go_enter Try.func48, Try.ntmps48
  go_upto_region 1 with (fail)
  refine wp_world (KS pr pt A c t left W) HS0.out ?_
  clear HS0
  intro V0 hS0
  have c1 : V0.cell? ⟨pr, 1, none⟩ = some (.int .i64 left) := hS0.rs.box.cell 1
  have cf := hS0.rs.box.frozen 1
  go_upto_region 2 with (fail)
  refine wp_world (KS pr pt A c t (left - 1) W) (hS0.dec _) ?_
  clear c1 cf hS0
  intro V9 hS1
  have c0 : V9.cell? ⟨pr, 0, none⟩ = some (.pointer (some ⟨pt, 0, none⟩)) := hS1.rs.box.cell 0
  go_upto_region 3 with (go_at_call 63; refine (HBY.out _ hS1.rs.tape).mono ?_; rintro r V1 ⟨rfl, ha1⟩)
  have hK1 := (hS1.act ha1).kt [.int .i64 (b : Int), .int .i64 0, .string ⟨#[]⟩, .slice none 0 0]
  obtain ⟨tb, htb⟩ : ∃ tb, V1.heap.size = tb := ⟨_, rfl⟩
  rw [htb] at hK1
  refine wp_world (KT pr pt A c tb T1 (left - 1) [.int .i64 (b : Int), .int .i64 0, .string ⟨#[]⟩, .slice none 0 0] W) hK1 ?_
  rw [htb]
  clear ha1 hK1 htb HBY c0 hS1
  intro V2 hK2
  have k0 : V2.cell? ⟨tb, 0, none⟩ = some (.int .i64 (b : Int)) := hK2.t.cell 0
  go_upto_region 18 with (fail)
  refine wp_world (KT pr pt A c tb T1 (left - 1) [.int .i64 (b : Int), .int .i64 0, .string ⟨#[]⟩, .slice none 0 0] W) hK2 ?_
  clear hK2 k0
  intro V8 hK8
  have t0 : V8.cell? ⟨tb, 0, none⟩ = some (.int .i64 (b : Int)) := hK8.t.cell 0
  have t1 : V8.cell? ⟨tb, 1, none⟩ = some (.int .i64 0) := hK8.t.cell 1
  have t2 : V8.cell? ⟨tb, 2, none⟩ = some (.string ⟨#[]⟩) := hK8.t.cell 2
  have t3 : V8.cell? ⟨tb, 3, none⟩ = some (.slice none 0 0) := hK8.t.cell 3
  have r0 : V8.cell? ⟨W.heap.size, 0, none⟩ = some (.int .i64 0) := hK8.r.cell 0
  have r1 : V8.cell? ⟨W.heap.size, 1, none⟩ = some (.int .i64 0) := hK8.r.cell 1
  have r2 : V8.cell? ⟨W.heap.size, 2, none⟩ = some (.string ⟨#[]⟩) := hK8.r.cell 2
  have r3 : V8.cell? ⟨W.heap.size, 3, none⟩ = some (.slice none 0 0) := hK8.r.cell 3
  have f0 := hK8.r.frozen 0
  have f1 := hK8.r.frozen 1
  have f2 := hK8.r.frozen 2
  have f3 := hK8.r.frozen 3
  go_wp2
  refine enc_bp_world (fun V => Blk V W.heap.size 39 #[.int .i64 (b : Int), .int .i64 0, .string ⟨#[]⟩, .slice none 0 0] ∧ Fr (fun k => k = W.heap.size) V8 V) ⟨(((hK8.r.set_ 0 _).set_ 1 _).set_ 2 _).set_ 3 _, ((((Fr.setCell (fun k => k = W.heap.size) V8 (p := ⟨W.heap.size, 0, none⟩) (fun _ => rfl) _).same (Fr.setCell (fun k => k = W.heap.size) _ (p := ⟨W.heap.size, 1, none⟩) (fun _ => rfl) _)).same (Fr.setCell (fun k => k = W.heap.size) _ (p := ⟨W.heap.size, 2, none⟩) (fun _ => rfl) _)).same (Fr.setCell (fun k => k = W.heap.size) _ (p := ⟨W.heap.size, 3, none⟩) (fun _ => rfl) _))⟩ ?_
  rintro V9 ⟨hB9, hF9⟩
  have x0 : V9.cell? ⟨W.heap.size, 0, none⟩ = some (.int .i64 (b : Int)) := hB9.cell 0
  have x1 : V9.cell? ⟨W.heap.size, 1, none⟩ = some (.int .i64 0) := hB9.cell 1
  have x2 : V9.cell? ⟨W.heap.size, 2, none⟩ = some (.string ⟨#[]⟩) := hB9.cell 2
  have x3 : V9.cell? ⟨W.heap.size, 3, none⟩ = some (.slice none 0 0) := hB9.cell 3
  have hE : RS pr pt A c T1 (left - 1) V9 ∧ Fr (fun k => k = pt ∨ k = pr) W V9 := by
    obtain ⟨o1, o2⟩ := HW.out
    exact ⟨hK8.rs.far hF9 (by omega) (by omega) (fun b off e => (hK8.oldA b off e (by omega)).1), hK8.fr.trans hF9 (fun k hk e => by omega)⟩
  have HRX : Hid (RdX (fun k => k < W.heap.size) V9 none 0 []) := RdX.nil_ _ _ _ _ (by omega)
  have HE := Lib.hid hE
  clear t0 t1 t2 t3 r0 r1 r2 r3 f0 f1 f2 f3 hE hK8
  have HR : Hid (TermR t left (.mk b 0 [] []) T1 (left - 1)) := by have := TermR.ko (t := t) (left := left) HTB.out; rw [HT1.out, HBN.out] at this; exact this
  exact bodyPost_ret (v := .agg #[.int .i64 (b : Int), .int .i64 0, .string ⟨#[]⟩, .slice none 0 0]) (by simp [results, Try.results48, go_sem, x0, x1, x2, x3]) rfl ⟨⟨(.mk b 0 [] []), none, 0⟩, T1, (left - 1), rfl, HR.out, HE.out.1, HRX.out, HE.out.2, by omega, by omega⟩


end Go.Proofs.Ytommadcjemljcaa
