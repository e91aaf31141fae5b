/- Words for memory that the walks of this seat share: bytes in cells, a slice that reads as a list of bytes, a block known whole, frames. No program is named here. -/
import Derived.WalkKit
import Derived.WalkSpells
import Derived.WalkLawsBesides
import Derived.Laws.OwnMore
import Derived.Maps.AppendAt
import Derived.Deep.AppendLies
import Derived.Lib.Hide
import Derived.Laws.CopyOwn
import Derived.Laws.IdiomStrings
import Derived.Laws.BytesArg
import Derived.Deep.Draws
namespace Go.Proofs.Ythhindnjnijglaa
open Go.RowKit
set_option linter.unusedVariables false

/-- A byte as a cell's value. -/
def bv (c : UInt8) : Value := .int .u8 (c.toNat : Int)

theorem bv_one (c : UInt8) : (bv c).oneCell' = true := rfl
theorem bvs_one (l : List UInt8) : ∀ u ∈ l.map bv, u.oneCell' = true := by
  intro u hu
  obtain ⟨c, _, rfl⟩ := List.mem_map.1 hu
  rfl

theorem bv_ofNat (x : Nat) : Value.int .u8 ((x : Int) % 256) = bv (UInt8.ofNat x) := by simp [bv]

/-- A slice with the address A reads as the bytes l. -/
def Rd (w : World) (A : Option Addr) (l : List UInt8) : Prop :=
  l = [] ∨ ∃ b off, A = some ⟨b, off, none⟩ ∧ ∀ j, (h : j < l.length) → w.cell? ⟨b, off + j, none⟩ = some (bv l[j])

section
variable {w w' : World} {A : Option Addr} {l : List UInt8}
theorem Rd.nil_ (w : World) (A : Option Addr) : Rd w A [] := .inl rfl
theorem Rd.at_ (h : Rd w A l) {k : Nat} (hk : k < l.length) :
    ∃ b off, A = some ⟨b, off, none⟩ ∧ b < w.heap.size ∧ w.cell? ⟨b, off + k, none⟩ = some (.int .u8 ((l[k]'hk).toNat : Int)) := by
  rcases h with rfl | ⟨b, off, h1, h2⟩
  · simp at hk
  · exact ⟨b, off, h1, World.block_lt_of_cell? w ⟨b, off + k, none⟩ (h2 k hk), h2 k hk⟩
theorem Rd.keep (h : Rd w A l) (hk : ∀ p : Addr, p.block < w.heap.size → w'.cell? p = w.cell? p) : Rd w' A l := by
  rcases h with rfl | ⟨b, off, h1, h2⟩
  · exact .inl rfl
  · exact .inr ⟨b, off, h1, fun j hj => (hk _ (World.block_lt_of_cell? w ⟨b, off + j, none⟩ (h2 j hj))).trans (h2 j hj)⟩
theorem Rd.below (h : Rd w A l) (hb : Below w.heap.size w w') : Rd w' A l := h.keep fun _ hp => hb.cell hp
/-- The cells as the library's laws ask for them: of a slice that is not empty. -/
theorem Rd.cells (h : Rd w A l) (hn : 0 < l.length) : ∃ b off, A = some ⟨b, off, none⟩ ∧ b < w.heap.size ∧ ∀ j u, (l.map bv)[j]? = some u → w.cell? ((⟨b, off, none⟩ : Addr).add j) = some u := by
  rcases h with rfl | ⟨b, off, h1, h2⟩
  · simp at hn
  · refine ⟨b, off, h1, World.block_lt_of_cell? w ⟨b, off + 0, none⟩ (h2 0 hn), fun j u hu => ?_⟩
    rw [List.getElem?_map] at hu
    obtain ⟨c, hc, rfl⟩ := Option.map_eq_some_iff.1 hu
    obtain ⟨hj, rfl⟩ := List.getElem?_eq_some_iff.1 hc
    rw [Addr.add_lit]
    exact h2 j hj
end

/-- Block g is just the cells cs of element type t, none frozen. -/
def Blk (w : World) (g : Nat) (t : TypeId) (cs : Array Value) : Prop := w.heap[g]? = some (.cells cs t (0, 0))

section
variable {w w' : World} {g : Nat} {t : TypeId} {cs : Array Value}
theorem Blk.lt (h : Blk w g t cs) : g < w.heap.size := (Array.getElem?_eq_some_iff.1 h).1
theorem Blk.cell (h : Blk w g t cs) (i : Nat) : w.cell? ⟨g, i, none⟩ = cs[i]? := cell_of_row w g i cs t (0, 0) h
theorem Blk.frozen (h : Blk w g t cs) (i : Nat) : w.frozen? ⟨g, i, none⟩ = false := by
  unfold Blk at h
  simp [World.frozen?, h]
theorem Blk.new (w : World) (t : TypeId) (cs : Array Value) : Blk (w.alloc (.cells cs t)) w.heap.size t cs := heap_alloc_new w _
theorem Blk.set_ (h : Blk w g t cs) (i : Nat) (u : Value) : Blk (w.setCell ⟨g, i, none⟩ u) g t (cs.setIfInBounds i u) := by
  unfold Blk at h ⊢
  simp [World.setCell, Array.getElem?_modify, h]
theorem Blk.far (h : Blk w g t cs) {p : Addr} (hp : g ≠ p.block) (u : Value) : Blk (w.setCell p u) g t cs := (Below.heap_setCell w p u g hp).trans h
theorem Blk.below {B : Nat} (h : Blk w g t cs) (hb : Below B w w') (hg : g < B) : Blk w' g t cs := (hb.block g hg).trans h
theorem Blk.keep (h : Blk w g t cs) (hb : Below w.heap.size w w') : Blk w' g t cs := (hb.block g h.lt).trans h
theorem Blk.alloc (h : Blk w g t cs) (o : Obj) : Blk (w.alloc o) g t cs := (Below.heap_alloc w o g h.lt).trans h
theorem Blk.grown {row : Option Nat} (h : Blk w g t cs) (hb : w.grownBy w' row) (hg : some g ≠ row) : Blk w' g t cs := (hb.block g h.lt hg).trans h
/-- A byte stored into a block of bytes. -/
theorem Blk.put {l : List UInt8} {v : Value} {c : UInt8} (h : Blk w g t (l.map bv).toArray) (i : Nat) (hv : v = bv c) : Blk (w.setCell ⟨g, i, none⟩ v) g t ((l.set i c).map bv).toArray := by
  subst hv
  have := h.set_ i (bv c)
  rw [List.map_set]
  simpa using this
/-- A part of a block of bytes reads as those bytes. -/
theorem Blk.rd {l : List UInt8} (h : Blk w g t (l.map bv).toArray) (i n : Nat) (hn : i + n ≤ l.length) : Rd w (some ⟨g, i, none⟩) ((l.drop i).take n) := by
  by_cases h0 : n = 0
  · subst h0; exact .inl (by simp)
  · refine .inr ⟨g, i, rfl, fun j hj => ?_⟩
    rw [h.cell]
    simp at hj
    have hj' : i + j < l.length := by omega
    simp [hj']
end

theorem grown_refl (w : World) (row : Option Nat) : w.grownBy w row := ⟨rfl, rfl, rfl, Nat.le_refl _, fun _ _ _ => rfl⟩

/-- The type table's row of a slice type t over the element type e: its zero value, cells and bytes. -/
structure ElT (P : Program) (t e : TypeId) (z : Value) (size bytes : Nat) : Prop where
  ht : P.underlying t = some (.slice e)
  info : (P.info? e).map (fun i => (i.zero, i.size, i.bytes)) = some (some z, size, bytes)
  hz : z.cells.size = size
  hs : 0 < size

/-- A slice with the address A reads as the cells xs. -/
def Cs (w : World) (A : Option Addr) (xs : List Value) : Prop := xs = [] ∨ ∃ ad, A = some ad ∧ ∀ j u, xs[j]? = some u → w.cell? (ad.add j) = some u

theorem Rd.cs {w : World} {A : Option Addr} {l : List UInt8} (h : Rd w A l) : Cs w A (l.map bv) := by
  rcases Nat.eq_zero_or_pos l.length with h0 | h0
  · exact .inl (by rw [List.eq_nil_of_length_eq_zero h0]; rfl)
  · obtain ⟨b, off, hA, _, hc⟩ := h.cells h0
    exact .inr ⟨_, hA, hc⟩

theorem run_append_cs {P : Program} (w : World) {t e : TypeId} {z : Value} {size bytes : Nat} (T : ElT P t e z size bytes) (ty : TypeId) (base : Nat)
    (v : Value) (n : Nat) (xs : List Value) (hown : w.ownsRow base e size v n xs) (A : Option Addr) (m c : Nat) (news : List Value) (hl : news.length = m * size) (hnews : Cs w A news)
    (h1 : ∀ u ∈ news, u.oneCell' = true) (h63 : n + m ≤ maxLen) (hbytes : (n + m) * bytes ≤ 140737488355328) (hbase : base ≤ w.heap.size) :
    ∃ v' w', (Builtin.append_ #[t, t] ty #[v, .slice A m c]).run P w = .ok v' w' ∧ w'.ownsRow base e size v' (n + m) (xs ++ news) ∧ w.grownBy w' v.ownBlock ∧ (v'.ownBlock = v.ownBlock ∨ v'.ownBlock = some w.heap.size) := by
  obtain ⟨i, hi, hz, hsz, hby⟩ := info_parts T.info
  have hpos := T.hs
  rcases A with _ | ad
  · have hn : news = [] := by
      rcases hnews with h | ⟨ad, h, _⟩
      · exact h
      · cases h
    subst hn
    have hm : m = 0 := by
      rcases Nat.eq_zero_or_pos m with h | h
      · exact h
      · have : 0 < m * size := Nat.mul_pos h hpos
        simp at hl; omega
    subst hm
    refine ⟨v, w, ?_, by simpa using hown, grown_refl _ _, .inl rfl⟩
    rcases hown.2 with ⟨rfl, rfl⟩ | ⟨g, cap, cur, rfl, _, _, hnc, _⟩
    · simp [Builtin.append_, run_underlying T.ht, sizeOf, typeInfo, hi, Builtin.lenOf, Builtin.firstCells]
    · simp [Builtin.append_, run_underlying T.ht, sizeOf, typeInfo, hi, Builtin.lenOf, Builtin.firstCells, hnc, storeCells]
  · have hc : ∀ j u, news[j]? = some u → w.cell? (ad.add j) = some u := by
      rcases hnews with rfl | ⟨ad', h, hh⟩
      · intro j u hu; simp at hu
      · injection h with h; subst h; exact hh
    obtain ⟨v', w', hrun, h2, h3, _, h5⟩ := run_append_own_at (P := P) w base t ty e i z size bytes T.ht hi hz hsz hby T.hz hpos v n xs hown ad m c news hl hc h1 h63 hbytes hbase
    exact ⟨v', w', hrun, h2, h3, h5⟩

/-- append onto a row of the call's own, at the operation. -/
theorem wpList_app {P : Program} {w : World} {ops : Array Oper} {rest : List Oper} {o : Oper} {a : Act} {Q : Exit → Act → World → Prop} {t e : TypeId} {z : Value} {size bytes : Nat} (T : ElT P t e z size bytes) (hgd : o.guard = none) (s x : Operand)
    (ho : o.op = .call { callee := .builtin .append, args := #[s, x], argTypes := #[t, t] }) (base : Nat)
    (v : Value) (n : Nat) (xs : List Value) (hs : a.eval s = v) (hown : w.ownsRow base e size v n xs) (A : Option Addr) (m c : Nat) (news : List Value) (hx : a.eval x = .slice A m c) (hl : news.length = m * size) (hnews : Cs w A news)
    (h1 : ∀ u ∈ news, u.oneCell' = true) (h63 : n + m ≤ maxLen) (hbytes : (n + m) * bytes ≤ 140737488355328) (hbase : base ≤ w.heap.size)
    (h : ∀ v' w', w'.ownsRow base e size v' (n + m) (xs ++ news) → w.grownBy w' v.ownBlock → (v'.ownBlock = v.ownBlock ∨ v'.ownBlock = some w.heap.size) → wpList P ops Q rest (a.put o.dst v') w') :
    wpList P ops Q (o :: rest) a w := by
  refine wpList_plain hgd fun K hK => ?_
  obtain ⟨v', w', hr, h2, h3, h4⟩ := run_append_cs (P := P) w T o.type base v n xs hown A m c news hl hnews h1 h63 hbytes hbase
  unfold Oper.wp execOp
  simp only [ho, resolve, invoke, builtin, Sem.run_bind, Sem.run_pure, Result.andThen_ok, List.map_toArray, List.map_cons, List.map_nil, hs, hx, hr]
  exact hK _ _ (h v' w' h2 h3 h4)

/-- A row of the call's own, of bytes: its value is a slice that reads as them. -/
theorem own_rd {w : World} {base e : Nat} {v : Value} {n : Nat} {l : List UInt8} (h : w.ownsRow base e 1 v n (l.map bv)) : ∃ A c, v = .slice A n c ∧ Rd w A l ∧ l.length = n ∧ n ≤ c := by
  have hl : l.length = n := by have := h.1; simpa using this
  rcases h.2 with ⟨rfl, rfl⟩ | ⟨g, cap, cur, rfl, _, hg, hnc, _, _, htake⟩
  · exact ⟨none, 0, rfl, .inl (List.eq_nil_of_length_eq_zero hl), hl, Nat.le_refl _⟩
  · refine ⟨_, cap, rfl, .inr ⟨g, 0, rfl, fun j hj => ?_⟩, hl, hnc⟩
    have hc := h.cells (g := g) rfl j (bv l[j]) (by simp [hj])
    rwa [Addr.add_lit] at hc

/-- make of n bytes. -/
def zerosB (n : Nat) : Array Value := ((List.replicate n (0 : UInt8)).map bv).toArray
theorem run_make_bytes {P : Program} {t e : TypeId} (T : ElT P t e (.int .u8 0) 1 1) (n : Nat) (hn : n ≤ 281474976710656) (W : World) :
    (Instr.makeSlice t (.int .i64 (n : Int)) (.int .i64 (n : Int))).run P W = .ok (.slice (some ⟨W.heap.size, 0, none⟩) n n) (W.alloc (.cells (zerosB n) e)) := by
  obtain ⟨i, hi, hz, hsz, hby⟩ := info_parts T.info
  have h := run_make (P := P) W t e i (.int .u8 0) T.ht hi hz .i64 .i64 n n (by omega) (Int.le_refl _) (by rw [hby]; omega) (by omega)
  have e1 : madeCells (Value.int .u8 0).cells ((n : Int).toNat * i.size) = zerosB n := by
    have := toList_madeCells_one (.int .u8 0) ((n : Int).toNat * i.size)
    apply Array.toList_inj.1
    show (madeCells #[Value.int .u8 0] _).toList = _
    rw [this, hsz]
    simp [bv, zerosB]
  rw [e1] at h
  simpa using h

/-- What a copy leaves of bytes. -/
def spliceB (l : List UInt8) (off : Nat) (m : List UInt8) : List UInt8 := l.take off ++ m ++ l.drop (off + m.length)

theorem grown_setRow {w : World} {g : Nat} {cs : Array Value} {t : TypeId} (hg : Blk w g t cs) (cs' : Array Value) : Blk (w.setRow g cs') g t cs' ∧ w.grownBy (w.setRow g cs') (some g) ∧ (w.setRow g cs').heap.size = w.heap.size :=
  ⟨setRow_heap w g cs cs' t (0, 0) hg, ⟨rfl, rfl, rfl, by simp, fun k _ hk => setRow_other w g k _ (fun e => hk (by rw [e]))⟩, by simp⟩

/-- copy of bytes into a block known whole, at the operation. -/
theorem wpList_cpy {P : Program} {w : World} {ops : Array Oper} {rest : List Oper} {o : Oper} {a : Act} {Q : Exit → Act → World → Prop} {t e : TypeId} {z : Value} {bytes : Nat} (T : ElT P t e z 1 bytes) (hgd : o.guard = none) (d s : Operand)
    (ho : o.op = .call { callee := .builtin .copy, args := #[d, s], argTypes := #[t, t] }) (g off dLen dCap : Nat) (A : Option Addr) (sLen sCap : Nat) (hd : a.eval d = .slice (some ⟨g, off, none⟩) dLen dCap) (hs : a.eval s = .slice A sLen sCap)
    (l : List UInt8) (hg : Blk w g e (l.map bv).toArray) (m : List UInt8) (hm : m.length = sLen) (hr : Rd w A m) (hle : sLen ≤ dLen) (hfit : off + dLen ≤ l.length)
    (h : ∀ w', Blk w' g e ((spliceB l off m).map bv).toArray → w.grownBy w' (some g) → w'.heap.size = w.heap.size → wpList P ops Q rest (a.put o.dst (goInt sLen)) w') :
    wpList P ops Q (o :: rest) a w := by
  have hsz : (P.info? e).map (·.size) = some 1 := by
    obtain ⟨i, hi, _, hsz, _⟩ := info_parts T.info
    simp [hi, hsz]
  rcases Nat.eq_zero_or_pos sLen with h0 | h0
  · subst h0
    obtain rfl : m = [] := List.eq_nil_of_length_eq_zero hm
    refine wpList_copy_nothing hgd d s t t ho e T.ht hsz _ _ dLen dCap 0 sCap hd hs (by simp) ?_
    exact h w (by simpa [spliceB] using hg) (grown_refl _ _) rfl
  · obtain ⟨b, so, rfl, _, hc⟩ := hr.cells (by omega)
    have e2 : ((l.map bv).toArray.toList.take off ++ (m.map bv ++ (l.map bv).toArray.toList.drop (off + (m.map bv).length))).toArray = ((spliceB l off m).map bv).toArray := by
      simp [spliceB, List.map_take, List.map_drop]
    refine wpList_copy_own hgd d s t t ho e T.ht hsz g off dLen dCap ⟨b, so, none⟩ sLen sCap hd hs (l.map bv).toArray e hg (m.map bv) (by rw [List.length_map, hm]; exact (Nat.min_eq_left hle).symm) hc (by simp; omega) (bvs_one m) ?_
    rw [e2]
    obtain ⟨h1, h2, h3⟩ := grown_setRow hg ((spliceB l off m).map bv).toArray
    have h4 := h _ h1 h2 h3
    simpa [hm] using h4

theorem below_drewN {B : Nat} {a w : World} (h : Below B a w) (n : Nat) : Below B a (w.drewN n) := ⟨h.os, h.tape, h.output, h.size, h.block⟩

/-- The world at a place of the code, under a new name of which F alone is known. -/
theorem wp_world {P : Program} {c : Code} {Q : Exit → Act → World → Prop} {a : Act} {w : World} (F : World → Prop) (hF : F w) (h : ∀ w', F w' → c.wp P Q a w') : c.wp P Q a w := h w hF

theorem wpList_world {P : Program} {ops : Array Oper} {rest : List Oper} {Q : Exit → Act → World → Prop} {a : Act} {w : World} (F : World → Prop) (hF : F w) (h : ∀ w', F w' → wpList P ops Q rest a w') : wpList P ops Q rest a w := h w hF

/-- string(b) of bytes. -/
theorem run_str {P : Program} {t e st : TypeId} (ht : P.underlying t = some (.slice e)) (he : P.underlying e = some (.int .u8)) (hst : P.underlying st = some .string) (W : World) (A : Option Addr) (n c : Nat) (l : List UInt8) (hl : l.length = n) (hr : Rd W A l) :
    (convert t st (.slice A n c)).run P W = .ok (.string ⟨l.toArray⟩) W := by
  subst hl
  rcases A with _ | a
  · have hz : l = [] := by
      rcases hr with h | ⟨_, _, h, _⟩
      · exact h
      · cases h
    subst hz
    exact run_convert_bytes_nil W t e ht he 0 c st hst
  · refine run_convert_bytes_back W t st e a c l ht he hst fun j hj => ?_
    obtain ⟨b, off, hA, _, hc⟩ := hr.at_ hj
    injection hA with hA
    subst hA
    rw [Addr.add_lit]
    exact hc

/-- Nothing that was there has turned: the two words of the library for it. -/
theorem below_of_grown {w w' : World} {row : Option Nat} (h : w.grownBy w' row) (hr : ∀ k, row = some k → w.heap.size ≤ k) : Below w.heap.size w w' :=
  (Below.refl _ _).grown h (Nat.le_refl _) hr
theorem below_step {a b c : World} (h : Below a.heap.size a b) (k : Below b.heap.size b c) : Below a.heap.size a c := h.trans (k.mono h.size)
theorem below_alloc (w : World) (o : Obj) : Below w.heap.size w (w.alloc o) := (Below.refl _ _).alloc (Nat.le_refl _) o
theorem grown_setCell {a w : World} {g : Nat} (h : a.grownBy w (some g)) {p : Addr} (hp : p.block = g ∨ a.heap.size ≤ p.block) (u : Value) : a.grownBy (w.setCell p u) (some g) :=
  ⟨h.os, h.tape, h.output, by simpa [World.setCell] using h.size, fun i hi hne => (Below.heap_setCell w p u i (by
    rintro rfl
    rcases hp with hp | hp
    · exact hne (by rw [hp])
    · omega)).trans (h.block i hi hne)⟩
theorem grown_of_below {a w : World} (h : Below a.heap.size a w) (row : Option Nat) : a.grownBy w row := ⟨h.os, h.tape, h.output, h.size, fun i hi _ => h.block i hi⟩
theorem size_setCell (w : World) (p : Addr) (u : Value) : (w.setCell p u).heap.size = w.heap.size := by simp [World.setCell]

theorem ret_int {k : IntKind} {a b : Int} (h : a = b) : Ending.returned (.int k a) = .returned (.int k b) := by rw [h]

/-- A number's lowest k bytes, the highest first. -/
def be : Nat → Nat → List UInt8
  | 0, _ => []
  | k + 1, n => UInt8.ofNat (n / 256 ^ k) :: be k n
theorem be_length (k n : Nat) : (be k n).length = k := by
  induction k with
  | zero => rfl
  | succ k ih => simp [be, ih]

/-- What bytes are as a number of 64 bits. -/
def toldN (l : List UInt8) : Nat := l.foldl (fun n c => n * 256 % 18446744073709551616 + c.toNat) 0
theorem toldN_snoc (l : List UInt8) (c : UInt8) : toldN (l ++ [c]) = toldN l * 256 % 18446744073709551616 + c.toNat := by simp [toldN]

theorem u8_lt (c : UInt8) : c.toNat < 256 := UInt8.toNat_lt c
theorem toldN_lt (l : List UInt8) : toldN l < 18446744073709551616 := by
  rcases List.eq_nil_or_concat l with rfl | ⟨l', c, rfl⟩
  · simp [toldN]
  · have h := toldN_snoc l' c
    have := u8_lt c
    simp only [List.concat_eq_append] at *
    rw [h]
    omega
end Go.Proofs.Ythhindnjnijglaa
