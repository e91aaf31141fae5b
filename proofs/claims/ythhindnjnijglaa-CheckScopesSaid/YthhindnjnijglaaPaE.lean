/- Layer 11: what the parser's functions promise; nodes and clauses in boxes; nodes that are made of others. -/
import Derived.Test.YthhindnjnijglaaPaD
namespace Go.Proofs.Ythhindnjnijglaa
open Go.RowKit
set_option linter.unusedVariables false

theorem q_bp_world {P : Program} {fn : Func} {R : Ending → World → Prop} {ex : Exit} {a : Act} {w : World} (F : World → Prop) (hF : F w) (h : ∀ w', F w' → bodyPost P fn R ex a w') : bodyPost P fn R ex a w := h w hF
theorem Fr.world {F : Nat → Prop} {W W' W'' : World} (h : Fr F W W') (k : Fr F W' W'') : Fr F W W'' := h.same k

/-- How a function ends that gives a node. -/
def NEnd (pb : Nat) (A : Option Addr) (c : Nat) (T : List Tok) (fin : Nat) (W : World) (r : ND × PS) (e : Ending) (w' : World) : Prop :=
  ∃ x : EN, x.t = r.1 ∧ e = .returned (.agg #[.int .i64 x.t.kind, .int .i64 x.t.int, .string ⟨x.t.name.toArray⟩, .int .i64 x.t.at_, .slice x.A x.t.kids.length x.c, .slice x.B x.t.clauses.length x.d, .slice x.C x.t.body.length x.e]) ∧ x.Ok (fun k => k < W.heap.size) w' ∧ PAt pb A c T fin r.2 w' ∧ PFr pb W w'
/-- nodes. -/
def LEnd (pb : Nat) (A : Option Addr) (c : Nat) (T : List Tok) (fin : Nat) (W : World) (r : List ND × PS) (e : Ending) (w' : World) : Prop :=
  ∃ B d, e = .returned (.slice B r.1.length d) ∧ RdN (fun k => k < W.heap.size) w' B d r.1 ∧ PAt pb A c T fin r.2 w' ∧ PFr pb W w'
/-- a clause. -/
def CEnd (pb : Nat) (A : Option Addr) (c : Nat) (T : List Tok) (fin : Nat) (W : World) (r : CD × PS) (e : Ending) (w' : World) : Prop :=
  ∃ x : EC, x.t = r.1 ∧ e = .returned (.agg #[.slice x.A x.t.patterns.length x.c, .slice x.B x.t.guards.length x.d, .slice x.C x.t.body.length x.e, .string ⟨x.t.name.toArray⟩, .int .i64 x.t.at_]) ∧ x.Ok (fun k => k < W.heap.size) w' ∧ PAt pb A c T fin r.2 w' ∧ PFr pb W w'
/-- clauses. -/
def KEnd (pb : Nat) (A : Option Addr) (c : Nat) (T : List Tok) (fin : Nat) (W : World) (r : List CD × PS) (e : Ending) (w' : World) : Prop :=
  ∃ B d, e = .returned (.slice B r.1.length d) ∧ RdC (fun k => k < W.heap.size) w' B d r.1 ∧ PAt pb A c T fin r.2 w' ∧ PFr pb W w'

/-- The parser's place in memory, as a number that rises. -/
def posOf (pb : Nat) (w : World) : Nat := match w.cell? ⟨pb, 1, none⟩ with
  | some (.int _ z) => z.toNat
  | _ => 0
section
variable {pb : Nat} {A : Option Addr} {c : Nat} {T : List Tok} {fin : Nat} {s : PS} {W W' : World} {S S' : Nat → Prop}
theorem posOf_eq (h : PAt pb A c T fin s W) : posOf pb W = s.i := by
  unfold posOf
  rw [h.cells.2.1]
  exact Int.toNat_natCast _
theorem Mv.of_fr {F : Nat → Prop} (h : Fr F W W') (hF : ∀ k, F k → S k) (hS : ∀ k, k < W.heap.size → S' k → S k) : Mv S W S' W' := ⟨(KeepEx.of_fr h).mono hF, hS⟩
theorem Mv.of_below (h : Below W.heap.size W W') (hS : ∀ k, k < W.heap.size → S' k → S k) : Mv S W S' W' := ⟨KeepEx.of_below h S, hS⟩
theorem Mv.sub_ (hS : ∀ k, k < W.heap.size → S' k → S k) : Mv S W S' W := ⟨KeepEx.refl _ _, hS⟩

/-- Seven cells, one after the other. -/
abbrev put7 (w : World) (g : Nat) (v0 v1 v2 v3 v4 v5 v6 : Value) : World := ((((((w.setCell ⟨g, 0, none⟩ v0).setCell ⟨g, 1, none⟩ v1).setCell ⟨g, 2, none⟩ v2).setCell ⟨g, 3, none⟩ v3).setCell ⟨g, 4, none⟩ v4).setCell ⟨g, 5, none⟩ v5).setCell ⟨g, 6, none⟩ v6
theorem setC_fr (W : World) (g i : Nat) (v : Value) : Fr (fun k => k = g) W (W.setCell ⟨g, i, none⟩ v) := Fr.setCell (fun k => k = g) W (p := ⟨g, i, none⟩) (fun _ => rfl) v
theorem put7_blk {g t : Nat} {u0 u1 u2 u3 u4 u5 u6 : Value} (h : Blk W g t #[u0, u1, u2, u3, u4, u5, u6]) (v0 v1 v2 v3 v4 v5 v6 : Value) : Blk (put7 W g v0 v1 v2 v3 v4 v5 v6) g t #[v0, v1, v2, v3, v4, v5, v6] := by
  have h : Blk _ g t #[v0, u1, u2, u3, u4, u5, u6] := h.set_ 0 v0
  have h : Blk _ g t #[v0, v1, u2, u3, u4, u5, u6] := h.set_ 1 v1
  have h : Blk _ g t #[v0, v1, v2, u3, u4, u5, u6] := h.set_ 2 v2
  have h : Blk _ g t #[v0, v1, v2, v3, u4, u5, u6] := h.set_ 3 v3
  have h : Blk _ g t #[v0, v1, v2, v3, v4, u5, u6] := h.set_ 4 v4
  have h : Blk _ g t #[v0, v1, v2, v3, v4, v5, u6] := h.set_ 5 v5
  have h : Blk _ g t #[v0, v1, v2, v3, v4, v5, v6] := h.set_ 6 v6
  exact h
theorem put7_fr (W : World) (g : Nat) (v0 v1 v2 v3 v4 v5 v6 : Value) : Fr (fun k => k = g) W (put7 W g v0 v1 v2 v3 v4 v5 v6) :=
  ((((((setC_fr W g 0 v0).same (setC_fr _ g 1 v1)).same (setC_fr _ g 2 v2)).same (setC_fr _ g 3 v3)).same (setC_fr _ g 4 v4)).same (setC_fr _ g 5 v5)).same (setC_fr _ g 6 v6)
abbrev put5 (w : World) (g : Nat) (v0 v1 v2 v3 v4 : Value) : World := ((((w.setCell ⟨g, 0, none⟩ v0).setCell ⟨g, 1, none⟩ v1).setCell ⟨g, 2, none⟩ v2).setCell ⟨g, 3, none⟩ v3).setCell ⟨g, 4, none⟩ v4
theorem put5_blk {g t : Nat} {u0 u1 u2 u3 u4 : Value} (h : Blk W g t #[u0, u1, u2, u3, u4]) (v0 v1 v2 v3 v4 : Value) : Blk (put5 W g v0 v1 v2 v3 v4) g t #[v0, v1, v2, v3, v4] := by
  have h : Blk _ g t #[v0, u1, u2, u3, u4] := h.set_ 0 v0
  have h : Blk _ g t #[v0, v1, u2, u3, u4] := h.set_ 1 v1
  have h : Blk _ g t #[v0, v1, v2, u3, u4] := h.set_ 2 v2
  have h : Blk _ g t #[v0, v1, v2, v3, u4] := h.set_ 3 v3
  have h : Blk _ g t #[v0, v1, v2, v3, v4] := h.set_ 4 v4
  exact h
theorem put5_fr (W : World) (g : Nat) (v0 v1 v2 v3 v4 : Value) : Fr (fun k => k = g) W (put5 W g v0 v1 v2 v3 v4) :=
  ((((setC_fr W g 0 v0).same (setC_fr _ g 1 v1)).same (setC_fr _ g 2 v2)).same (setC_fr _ g 3 v3)).same (setC_fr _ g 4 v4)

theorem put7_size (W : World) (g : Nat) (v0 v1 v2 v3 v4 v5 v6 : Value) : (put7 W g v0 v1 v2 v3 v4 v5 v6).heap.size = W.heap.size := by simp only [put7, size_setCell]
theorem put5_size (W : World) (g : Nat) (v0 v1 v2 v3 v4 : Value) : (put5 W g v0 v1 v2 v3 v4).heap.size = W.heap.size := by simp only [put5, size_setCell]
theorem Fr.alloc2 {F : Nat → Prop} (h : Fr F W W') (hs : W'.heap.size = W.heap.size) (o : Obj) : Fr F (W.alloc o) (W'.alloc o) := by
  refine ⟨h.os, h.tape, h.output, by simp [hs], fun i hi hn => ?_⟩
  by_cases hlt : i < W.heap.size
  · rw [Below.heap_alloc W' o i (by omega), Below.heap_alloc W o i hlt]
    exact h.block i hlt hn
  · have hi2 : (W.alloc o).heap.size = W.heap.size + 1 := by simp
    obtain rfl : i = W.heap.size := by omega
    rw [heap_alloc_new W o, ← hs, heap_alloc_new W' o]
/-- A node's box. -/
abbrev NBx (W : World) (g : Nat) (x : EN) : Prop := Blk W g 26 #[.int .i64 x.t.kind, .int .i64 x.t.int, .string ⟨x.t.name.toArray⟩, .int .i64 x.t.at_, .slice x.A x.t.kids.length x.c, .slice x.B x.t.clauses.length x.d, .slice x.C x.t.body.length x.e]
abbrev ZBx (W : World) (g : Nat) : Prop := Blk W g 26 #[.int .i64 0, .int .i64 0, .string ⟨#[]⟩, .int .i64 0, .slice none 0 0, .slice none 0 0, .slice none 0 0]
theorem NBx.cells {g : Nat} {x : EN} (h : NBx W g x) : W.cell? ⟨g, 0, none⟩ = some (.int .i64 x.t.kind) ∧ W.cell? ⟨g, 1, none⟩ = some (.int .i64 x.t.int) ∧ W.cell? ⟨g, 2, none⟩ = some (.string ⟨x.t.name.toArray⟩) ∧ W.cell? ⟨g, 3, none⟩ = some (.int .i64 x.t.at_) ∧ W.cell? ⟨g, 4, none⟩ = some (.slice x.A x.t.kids.length x.c) ∧ W.cell? ⟨g, 5, none⟩ = some (.slice x.B x.t.clauses.length x.d) ∧ W.cell? ⟨g, 6, none⟩ = some (.slice x.C x.t.body.length x.e) :=
  ⟨h.cell 0, h.cell 1, h.cell 2, h.cell 3, h.cell 4, h.cell 5, h.cell 6⟩
theorem zbx_facts {g : Nat} (h : ZBx W g) : W.cell? ⟨g, 0, none⟩ = some (.int .i64 0) ∧ W.cell? ⟨g, 1, none⟩ = some (.int .i64 0) ∧ W.cell? ⟨g, 2, none⟩ = some (.string ⟨#[]⟩) ∧ W.cell? ⟨g, 3, none⟩ = some (.int .i64 0) ∧ W.cell? ⟨g, 4, none⟩ = some (.slice none 0 0) ∧ W.cell? ⟨g, 5, none⟩ = some (.slice none 0 0) ∧ W.cell? ⟨g, 6, none⟩ = some (.slice none 0 0) ∧ W.frozen? ⟨g, 0, none⟩ = false ∧ W.frozen? ⟨g, 1, none⟩ = false ∧ W.frozen? ⟨g, 2, none⟩ = false ∧ W.frozen? ⟨g, 3, none⟩ = false ∧ W.frozen? ⟨g, 4, none⟩ = false ∧ W.frozen? ⟨g, 5, none⟩ = false ∧ W.frozen? ⟨g, 6, none⟩ = false :=
  ⟨h.cell 0, h.cell 1, h.cell 2, h.cell 3, h.cell 4, h.cell 5, h.cell 6, h.frozen 0, h.frozen 1, h.frozen 2, h.frozen 3, h.frozen 4, h.frozen 5, h.frozen 6⟩
theorem nbx_facts {g : Nat} {x : EN} (h : NBx W g x) : W.cell? ⟨g, 0, none⟩ = some (.int .i64 x.t.kind) ∧ W.cell? ⟨g, 1, none⟩ = some (.int .i64 x.t.int) ∧ W.cell? ⟨g, 2, none⟩ = some (.string ⟨x.t.name.toArray⟩) ∧ W.cell? ⟨g, 3, none⟩ = some (.int .i64 x.t.at_) ∧ W.cell? ⟨g, 4, none⟩ = some (.slice x.A x.t.kids.length x.c) ∧ W.cell? ⟨g, 5, none⟩ = some (.slice x.B x.t.clauses.length x.d) ∧ W.cell? ⟨g, 6, none⟩ = some (.slice x.C x.t.body.length x.e) ∧ W.frozen? ⟨g, 0, none⟩ = false ∧ W.frozen? ⟨g, 1, none⟩ = false ∧ W.frozen? ⟨g, 2, none⟩ = false ∧ W.frozen? ⟨g, 3, none⟩ = false ∧ W.frozen? ⟨g, 4, none⟩ = false ∧ W.frozen? ⟨g, 5, none⟩ = false ∧ W.frozen? ⟨g, 6, none⟩ = false :=
  ⟨h.cell 0, h.cell 1, h.cell 2, h.cell 3, h.cell 4, h.cell 5, h.cell 6, h.frozen 0, h.frozen 1, h.frozen 2, h.frozen 3, h.frozen 4, h.frozen 5, h.frozen 6⟩
/-- A node of some kids in a new block. -/
def mkN (k : Int) (nm : List UInt8) (at_ : Int) (l : List ND) (g : Nat) (c : Nat) : EN := ⟨.mk k 0 nm at_ l [] [], some ⟨g, 0, none⟩, c, none, 0, none, 0⟩
theorem mkN_ok {k : Int} {nm : List UInt8} {at_ : Int} {l : List ND} {g c : Nat} (h : RdN S W (some ⟨g, 0, none⟩) c l) : (mkN k nm at_ l g c).Ok S W := ⟨h, RdC.nil_ S W none (Nat.zero_le _), RdN.nil_ S W none (Nat.zero_le _)⟩
/-- Two nodes in a new block. -/
theorem pair_ok {x y : EN} (hx : x.Ok S W) (hy : y.Ok S W) (hg : ¬ S W.heap.size) {cs : Array Value} (hcs : cs = (enL [x, y]).toArray) : RdN S (W.alloc (.cells cs 26)) (some ⟨W.heap.size, 0, none⟩) 2 [x.t, y.t] := by
  subst hcs
  refine rdn_of_blk (xs := [x, y]) (Blk.new W _ _) hg (by simp) fun z hz => ?_
  have m : Mv S W S (W.alloc (.cells (enL [x, y]).toArray 26)) := .of_below (below_alloc _ _) (fun _ _ h => h)
  simp only [List.mem_cons, List.mem_nil_iff, or_false] at hz
  rcases hz with rfl | rfl
  · exact hx.move m
  · exact hy.move m
theorem one_ok {x : EN} (hx : x.Ok S W) (hg : ¬ S W.heap.size) {cs : Array Value} (hcs : cs = (enL [x]).toArray) : RdN S (W.alloc (.cells cs 26)) (some ⟨W.heap.size, 0, none⟩) 1 [x.t] := by
  subst hcs
  refine rdn_of_blk (xs := [x]) (Blk.new W _ _) hg (by simp) fun z hz => ?_
  have m : Mv S W S (W.alloc (.cells (enL [x]).toArray 26)) := .of_below (below_alloc _ _) (fun _ _ h => h)
  simp only [List.mem_cons, List.mem_nil_iff, or_false] at hz
  subst hz
  exact hx.move m
end

/-- The bound of depth: no sum overflows. -/
abbrev deepB : Nat := 4611686018427387904
/-- What a function promises that gives a node. -/
def NodeOk (pb : Nat) (A : Option Addr) (c : Nat) (T : List Tok) (fin : Nat) (F : FuncId) (f : Lang → Nat → PS → Option (ND × PS)) (n : Nat) : Prop :=
  ∀ (deep : Nat) (s : PS) (W : World) (r : ND × PS), deep + n ≤ deepB → f (lang T fin n) deep s = some r → PAt pb A c T fin s W →
    Calls Try.prog F #[.pointer (some ⟨pb, 0, none⟩), .int .i64 (deep : Int)] W (NEnd pb A c T fin W r)
def ListOk (pb : Nat) (A : Option Addr) (c : Nat) (T : List Tok) (fin : Nat) (n : Nat) : Prop :=
  ∀ (deep : Nat) (s : PS) (W : World) (r : List ND × PS), deep + n ≤ deepB → (lang T fin n).list deep s = some r → PAt pb A c T fin s W →
    Calls Try.prog 71 #[.pointer (some ⟨pb, 0, none⟩), .int .i64 (deep : Int)] W (LEnd pb A c T fin W r)
def MaybeOk (pb : Nat) (A : Option Addr) (c : Nat) (T : List Tok) (fin : Nat) (n : Nat) : Prop :=
  ∀ (w : List UInt8) (deep : Nat) (s : PS) (W : World) (r : List ND × PS), deep + n ≤ deepB → (lang T fin n).maybe_ w deep s = some r → PAt pb A c T fin s W →
    Calls Try.prog 64 #[.pointer (some ⟨pb, 0, none⟩), .string ⟨w.toArray⟩, .int .i64 (deep : Int)] W (LEnd pb A c T fin W r)
def TailOk (pb : Nat) (A : Option Addr) (c : Nat) (T : List Tok) (fin : Nat) (n : Nat) : Prop :=
  ∀ (deep : Nat) (ps : List ND) (nm : List UInt8) (at_ : Int) (B : Option Addr) (d : Nat) (s : PS) (W : World) (r : CD × PS), deep + n ≤ deepB → (lang T fin n).tail deep ps nm at_ s = some r → PAt pb A c T fin s W → ∀ S : Nat → Prop, (∀ k, S k → k < W.heap.size) → S pb → RdN S W B d ps →
    Calls Try.prog 65 #[.pointer (some ⟨pb, 0, none⟩), .agg #[.slice B ps.length d, .slice none 0 0, .slice none 0 0, .string ⟨nm.toArray⟩, .int .i64 at_], .int .i64 (deep : Int)] W
      fun e w' => ∃ x : EC, x.t = r.1 ∧ e = .returned (.agg #[.slice x.A x.t.patterns.length x.c, .slice x.B x.t.guards.length x.d, .slice x.C x.t.body.length x.e, .string ⟨x.t.name.toArray⟩, .int .i64 x.t.at_]) ∧ x.Ok S w' ∧ PAt pb A c T fin r.2 w' ∧ PFr pb W w'
def HeadOk (pb : Nat) (A : Option Addr) (c : Nat) (T : List Tok) (fin : Nat) (n : Nat) : Prop :=
  ∀ (deep : Nat) (nm : List UInt8) (at_ : Int) (s : PS) (W : World) (r : CD × PS), deep + n ≤ deepB → (lang T fin n).head deep nm at_ s = some r → PAt pb A c T fin s W →
    Calls Try.prog 51 #[.pointer (some ⟨pb, 0, none⟩), .agg #[.slice none 0 0, .slice none 0 0, .slice none 0 0, .string ⟨nm.toArray⟩, .int .i64 at_], .int .i64 (deep : Int)] W (CEnd pb A c T fin W r)
def ArmsOk (pb : Nat) (A : Option Addr) (c : Nat) (T : List Tok) (fin : Nat) (n : Nat) : Prop :=
  ∀ (deep : Nat) (s : PS) (W : World) (r : List CD × PS), deep + n ≤ deepB → (lang T fin n).arms deep [] s = some r → PAt pb A c T fin s W →
    Calls Try.prog 79 #[.pointer (some ⟨pb, 0, none⟩), .int .i64 (deep : Int)] W (KEnd pb A c T fin W r)
end Go.Proofs.Ythhindnjnijglaa
