/- Heap (layer 9): the maker in memory; the walks of word, atom, cell. -/
import Derived.Test.YtefnjplfemgibaaHpS
import Derived.Test.YtefnjplfemgibaaOrd
import Derived.Laws.BitsAllLaws
import Derived.Laws.BitsLemmas
import Derived.StillTailTactics
import Derived.Deep.QuietTactic
import Derived.BigQuiet
import Derived.Outline
import Derived.Deep.Cut
import Derived.Deep.DeepMust
import Derived.IntWalk
import Derived.Deep.RegionHeld3
namespace Go.Proofs.Ytefnjplfemgibaa
open Go.RowKit Go.Maps Go.WideMaps
set_option linter.unusedVariables false

theorem or_tag (n tag : Nat) (hn : n < 18446744073709551616) (ht : tag < 8) :
    bits BinOp.or IntKind.u64 (IntKind.u64.wrap ((n : Int) * 8)) (tag : Int) = ((leafW n tag : Nat) : Int) := by
  have e1 : IntKind.u64.wrap ((n : Int) * 8) = ((n * 8 % 18446744073709551616 : Nat) : Int) := by
    simp only [IntKind.wrap, IntKind.bits, IntKind.signed]; simp
  rw [e1, u64_or_nat _ _ (by omega) (by omega), nat_join 3 _ _ (by omega) (by omega)]
  unfold leafW
  rw [Nat.mul_comm]
theorem uintsT : ElT Try.prog 26 34 (.int .u64 0) 1 8 := ⟨Try.underlying26, by kernel_rfl, rfl, by omega⟩
theorem htextsT : ElT Try.prog 27 9 (.string ⟨#[]⟩) 1 16 := ⟨Try.underlying27, by kernel_rfl, rfl, by omega⟩
def nv (n : Nat) : Value := .int .u64 (n : Int)
def hv (s : List UInt8) : Value := .string ⟨s.toArray⟩
theorem nv_one (l : List Nat) : ∀ u ∈ l.map nv, u.oneCell' = true := by
  intro u hu
  obtain ⟨x, _, rfl⟩ := List.mem_map.1 hu
  rfl
theorem hv_one (l : List (List UInt8)) : ∀ u ∈ l.map hv, u.oneCell' = true := by
  intro u hu
  obtain ⟨x, _, rfl⟩ := List.mem_map.1 hu
  rfl
theorem own_at {w w' : World} {base e size : Nat} {v : Value} {n : Nat} {xs : List Value} (h : w.ownsRow base e size v n xs) (hb : ∀ k, v.ownBlock = some k → w'.heap[k]? = w.heap[k]?) : w'.ownsRow base e size v n xs := by
  refine ⟨h.1, ?_⟩
  rcases h.2 with h1 | ⟨g, cap, cur, rfl, h2, h3, h4⟩
  · exact .inl h1
  · exact .inr ⟨g, cap, cur, rfl, h2, (hb g rfl).trans h3, h4⟩
theorem own_heap {w : World} {base e size : Nat} {v : Value} {n : Nat} {xs : List Value} (h : w.ownsRow base e size v n xs) {k : Nat} (hk : v.ownBlock = some k) : base ≤ k ∧ k < w.heap.size ∧ ∃ cur, w.heap[k]? = some (.cells cur e (0, 0)) := by
  rcases h.2 with ⟨rfl, _⟩ | ⟨g, cap, cur, rfl, h2, h3, h4⟩
  · cases hk
  · obtain rfl := Option.some.inj hk
    exact ⟨h2, (Array.getElem?_eq_some_iff.1 h3).1, cur, h3⟩
theorem own_sl {W : World} {base e size n : Nat} {v : Value} {xs : List Value} (h : W.ownsRow base e size v n xs) : ∃ A c, v = .slice A n c := by
  rcases h.2 with ⟨rfl, rfl⟩ | ⟨g, cap, cur, rfl, _⟩
  · exact ⟨none, 0, rfl⟩
  · exact ⟨_, cap, rfl⟩

/-- The maker in memory: F are the blocks that it may turn, all behind w0. -/
structure MKp (w0 W : World) (F : Nat → Prop) (pm b1 b2 : Nat) (vw va vr : Value) (st : HSt) (na : List (List UInt8)) (rs : List Nat) : Prop where
  old : Below w0.heap.size w0 W
  fresh : ∀ k, F k → w0.heap.size ≤ k ∧ k < W.heap.size
  obj : Blk W pm 70 #[vw, va, vr, .map (some b1), .map (some b2)]
  rw : W.ownsRow w0.heap.size 34 1 vw st.ws.length (st.ws.map nv)
  ra : W.ownsRow w0.heap.size 9 1 va st.nm.length (st.nm.map hv)
  rr : W.ownsRow w0.heap.size 34 1 vr rs.length (rs.map nv)
  cm : ∃ L, SMC W b1 L ∧ L.length = st.cs.length ∧ ∀ tag w, tag < 8 → W64 w → sget L (keyC tag w) = (findC st.cs tag w).map (fun a => ((8 * a + tag : Nat) : Int))
  am : ∃ L, SMA W b2 L ∧ L.length = na.length ∧ ∀ s, sget L s = if s ∈ na then some ((na.idxOf s : Nat) : Int) else none
  fpm : F pm
  fb1 : F b1
  fb2 : F b2
  fw : ∀ k, vw.ownBlock = some k → F k
  fa : ∀ k, va.ownBlock = some k → F k
  fr : ∀ k, vr.ownBlock = some k → F k
  ne : b1 ≠ b2
  nwr : ∀ k, vw.ownBlock = some k → vr.ownBlock ≠ some k
/-- (the roots' slice and what it reads as stay as they are while a word is made) -/
def MK (w0 W : World) (F : Nat → Prop) (pm b1 b2 : Nat) (st : HSt) (rs : Value × List Nat) : Prop := ∃ vw va, MKp w0 W F pm b1 b2 vw va rs.1 st st.nm rs.2

section
variable {w0 W V V' : World} {F : Nat → Prop} {pm b1 b2 : Nat} {vw va vr : Value} {st : HSt} {na : List (List UInt8)} {rs : List Nat}
theorem tsl_ne : 70 ≠ 34 ∧ 70 ≠ 9 ∧ 34 ≠ 9 := by decide
theorem MKp.apart (h : MKp w0 W F pm b1 b2 vw va vr st na rs) : pm ≠ b1 ∧ pm ≠ b2 ∧ (∀ k, vw.ownBlock = some k → k ≠ pm ∧ k ≠ b1 ∧ k ≠ b2 ∧ va.ownBlock ≠ some k) ∧ (∀ k, va.ownBlock = some k → k ≠ pm ∧ k ≠ b1 ∧ k ≠ b2 ∧ vr.ownBlock ≠ some k) ∧ (∀ k, vr.ownBlock = some k → k ≠ pm ∧ k ≠ b1 ∧ k ≠ b2) := by
  obtain ⟨t1, t2, t3⟩ := tsl_ne
  obtain ⟨L1, ⟨e1, c1, m1, _⟩, _⟩ := h.cm
  obtain ⟨L2, ⟨e2, c2, m2, _⟩, _⟩ := h.am
  have ho := h.obj
  unfold Blk at ho
  have hc : ∀ {k : Nat} {cur : Array Value} {ty : Nat}, W.heap[k]? = some (.cells cur ty (0, 0)) → ty ≠ 70 → k ≠ pm ∧ k ≠ b1 ∧ k ≠ b2 := by
    intro k cur ty hk hty
    refine ⟨?_, ?_, ?_⟩ <;> rintro rfl
    · rw [ho] at hk; injection hk with hk; injection hk with _ hk; exact hty hk.symm
    · rw [m1] at hk; injection hk with hk; cases hk
    · rw [m2] at hk; injection hk with hk; cases hk
  refine ⟨?_, ?_, fun k hk => ?_, fun k hk => ?_, fun k hk => ?_⟩
  · rintro rfl; rw [ho] at m1; injection m1 with m1; cases m1
  · rintro rfl; rw [ho] at m2; injection m2 with m2; cases m2
  · obtain ⟨_, _, cur, hk1⟩ := own_heap h.rw hk
    obtain ⟨a, b, c⟩ := hc hk1 (Ne.symm t1)
    refine ⟨a, b, c, fun h9 => ?_⟩
    obtain ⟨_, _, cur2, hk2⟩ := own_heap h.ra h9
    rw [hk1] at hk2; injection hk2 with hk2; injection hk2 with _ hk2; exact t3 hk2
  · obtain ⟨_, _, cur, hk1⟩ := own_heap h.ra hk
    obtain ⟨a, b, c⟩ := hc hk1 (Ne.symm t2)
    refine ⟨a, b, c, fun h9 => ?_⟩
    obtain ⟨_, _, cur2, hk2⟩ := own_heap h.rr h9
    rw [hk1] at hk2; injection hk2 with hk2; injection hk2 with _ hk2; exact t3 hk2.symm
  · obtain ⟨_, _, cur, hk1⟩ := own_heap h.rr hk
    exact hc hk1 (Ne.symm t1)
/-- Other blocks may turn. -/
theorem MKp.far (h : MKp w0 W F pm b1 b2 vw va vr st na rs) (hs : W.heap.size ≤ V.heap.size) (hf : ∀ k, F k → V.heap[k]? = W.heap[k]?) (old : Below w0.heap.size w0 V) : MKp w0 V F pm b1 b2 vw va vr st na rs := by
  obtain ⟨L1, ⟨e1, c1, m1, r1⟩, g1⟩ := h.cm
  obtain ⟨L2, ⟨e2, c2, m2, r2⟩, g2⟩ := h.am
  exact { h with
    old := old
    fresh := fun k hk => ⟨(h.fresh k hk).1, Nat.lt_of_lt_of_le (h.fresh k hk).2 hs⟩
    obj := (hf pm h.fpm).trans h.obj
    rw := own_at h.rw fun k hk => hf k (h.fw k hk)
    ra := own_at h.ra fun k hk => hf k (h.fa k hk)
    rr := own_at h.rr fun k hk => hf k (h.fr k hk)
    cm := ⟨L1, ⟨e1, c1, (hf b1 h.fb1).trans m1, r1⟩, g1⟩
    am := ⟨L2, ⟨e2, c2, (hf b2 h.fb2).trans m2, r2⟩, g2⟩ }
theorem MK.far {rs : Value × List Nat} (h : MK w0 W F pm b1 b2 st rs) (hs : W.heap.size ≤ V.heap.size) (hf : ∀ k, F k → V.heap[k]? = W.heap[k]?) (old : Below w0.heap.size w0 V) : MK w0 V F pm b1 b2 st rs := by
  obtain ⟨vw, va, h⟩ := h
  exact ⟨vw, va, h.far hs hf old⟩
theorem MK.keep {rs : Value × List Nat} (h : MK w0 W F pm b1 b2 st rs) (hb : Below W.heap.size W V) : MK w0 V F pm b1 b2 st rs := by
  obtain ⟨vw, va, h⟩ := h
  exact ⟨vw, va, h.far hb.size (fun k hk => hb.block k (h.fresh k hk).2) (h.old.trans (hb.mono h.old.size))⟩
theorem MKp.keep (h : MKp w0 W F pm b1 b2 vw va vr st na rs) (hb : Below W.heap.size W V) : MKp w0 V F pm b1 b2 vw va vr st na rs := h.far hb.size (fun k hk => hb.block k (h.fresh k hk).2) (h.old.trans (hb.mono h.old.size))
/-- The field of the words is another row. -/
theorem MKp.setW (h : MKp w0 W F pm b1 b2 vw va vr st na rs) {v' : Value} {ws' : List Nat} (ho : V.ownsRow w0.heap.size 34 1 v' ws'.length (ws'.map nv)) (hg : W.grownBy V vw.ownBlock) (hat : v'.ownBlock = vw.ownBlock ∨ v'.ownBlock = some W.heap.size) :
    MKp w0 (V.setCell ⟨pm, 0, none⟩ v') (fun k => F k ∨ v'.ownBlock = some k) pm b1 b2 v' va vr ⟨ws', st.nm, st.cs⟩ na rs ∧ Fr F W (V.setCell ⟨pm, 0, none⟩ v') := by
  obtain ⟨p1, p2, aw, aa, ar⟩ := h.apart
  have hpl := h.obj.lt
  have hout : ∀ k, F k → vw.ownBlock ≠ some k → k ≠ pm → (V.setCell ⟨pm, 0, none⟩ v').heap[k]? = W.heap[k]? := fun k hk h1 h2 =>
    (Below.heap_setCell V ⟨pm, 0, none⟩ v' k (fun e => h2 e)).trans (hg.block k (h.fresh k hk).2 (fun e => h1 e.symm))
  have hv' : ∀ k, v'.ownBlock = some k → k ≠ pm ∧ (vw.ownBlock = some k ∨ k = W.heap.size) := fun k hk => by
    rcases hat with h1 | h1
    · rw [h1] at hk
      exact ⟨(aw k hk).1, .inl hk⟩
    · rw [h1] at hk
      obtain rfl := Option.some.inj hk
      exact ⟨by omega, .inr rfl⟩
  have hfr : Fr F W (V.setCell ⟨pm, 0, none⟩ v') := (Fr.of_grown hg fun k hk _ => h.fw k hk).same (Fr.setCell F V (p := ⟨pm, 0, none⟩) (fun _ => h.fpm) v')
  have hob : Blk V pm 70 #[vw, va, vr, .map (some b1), .map (some b2)] := h.obj.grown hg (fun e => (aw pm e.symm).1 rfl)
  have hsz : (V.setCell ⟨pm, 0, none⟩ v').heap.size = V.heap.size := by simp [World.setCell]
  obtain ⟨L1, ⟨e1, c1, m1, r1⟩, g1⟩ := h.cm
  obtain ⟨L2, ⟨e2, c2, m2, r2⟩, g2⟩ := h.am
  refine ⟨?_, hfr⟩
  exact {
    old := h.old.trans (hfr.below h.old.size fun k hk => (h.fresh k hk).1)
    fresh := fun k hk => by
      rcases hk with hk | hk
      · exact ⟨(h.fresh k hk).1, Nat.lt_of_lt_of_le (h.fresh k hk).2 hfr.size⟩
      · obtain ⟨a, b, _⟩ := own_heap ho hk
        exact ⟨a, by rw [hsz]; exact b⟩
    obj := hob.set_ 0 v'
    rw := own_at ho fun k hk => Below.heap_setCell V ⟨pm, 0, none⟩ v' k (fun e => (hv' k hk).1 e)
    ra := own_at h.ra fun k hk => hout k (h.fa k hk) (fun e => (aw k e).2.2.2 hk) (aa k hk).1
    rr := own_at h.rr fun k hk => hout k (h.fr k hk) (fun e => h.nwr k e hk) (ar k hk).1
    cm := ⟨L1, ⟨e1, c1, (hout b1 h.fb1 (fun e => (aw b1 e).2.1 rfl) (Ne.symm p1)).trans m1, r1⟩, g1⟩
    am := ⟨L2, ⟨e2, c2, (hout b2 h.fb2 (fun e => (aw b2 e).2.2.1 rfl) (Ne.symm p2)).trans m2, r2⟩, g2⟩
    fpm := .inl h.fpm
    fb1 := .inl h.fb1
    fb2 := .inl h.fb2
    fw := fun k hk => .inr hk
    fa := fun k hk => .inl (h.fa k hk)
    fr := fun k hk => .inl (h.fr k hk)
    ne := h.ne
    nwr := fun k hk h9 => by
      rcases (hv' k hk).2 with h1 | rfl
      · exact h.nwr k h1 h9
      · exact Nat.lt_irrefl _ (own_heap h.rr h9).2.1 }
/-- The field of the names is another row. -/
theorem MKp.setA (h : MKp w0 W F pm b1 b2 vw va vr st na rs) {v' : Value} {nm' : List (List UInt8)} (ho : V.ownsRow w0.heap.size 9 1 v' nm'.length (nm'.map hv)) (hg : W.grownBy V va.ownBlock) (hat : v'.ownBlock = va.ownBlock ∨ v'.ownBlock = some W.heap.size) :
    MKp w0 (V.setCell ⟨pm, 1, none⟩ v') (fun k => F k ∨ v'.ownBlock = some k) pm b1 b2 vw v' vr ⟨st.ws, nm', st.cs⟩ na rs ∧ Fr F W (V.setCell ⟨pm, 1, none⟩ v') := by
  obtain ⟨p1, p2, aw, aa, ar⟩ := h.apart
  have hpl := h.obj.lt
  have hout : ∀ k, F k → va.ownBlock ≠ some k → k ≠ pm → (V.setCell ⟨pm, 1, none⟩ v').heap[k]? = W.heap[k]? := fun k hk h1 h2 =>
    (Below.heap_setCell V ⟨pm, 1, none⟩ v' k (fun e => h2 e)).trans (hg.block k (h.fresh k hk).2 (fun e => h1 e.symm))
  have hv' : ∀ k, v'.ownBlock = some k → k ≠ pm ∧ (va.ownBlock = some k ∨ k = W.heap.size) := fun k hk => by
    rcases hat with h1 | h1
    · rw [h1] at hk
      exact ⟨(aa k hk).1, .inl hk⟩
    · rw [h1] at hk
      obtain rfl := Option.some.inj hk
      exact ⟨by omega, .inr rfl⟩
  have hfr : Fr F W (V.setCell ⟨pm, 1, none⟩ v') := (Fr.of_grown hg fun k hk _ => h.fa k hk).same (Fr.setCell F V (p := ⟨pm, 1, none⟩) (fun _ => h.fpm) v')
  have hob : Blk V pm 70 #[vw, va, vr, .map (some b1), .map (some b2)] := h.obj.grown hg (fun e => (aa pm e.symm).1 rfl)
  have hsz : (V.setCell ⟨pm, 1, none⟩ v').heap.size = V.heap.size := by simp [World.setCell]
  obtain ⟨L1, ⟨e1, c1, m1, r1⟩, g1⟩ := h.cm
  obtain ⟨L2, ⟨e2, c2, m2, r2⟩, g2⟩ := h.am
  refine ⟨?_, hfr⟩
  exact {
    old := h.old.trans (hfr.below h.old.size fun k hk => (h.fresh k hk).1)
    fresh := fun k hk => by
      rcases hk with hk | hk
      · exact ⟨(h.fresh k hk).1, Nat.lt_of_lt_of_le (h.fresh k hk).2 hfr.size⟩
      · obtain ⟨a, b, _⟩ := own_heap ho hk
        exact ⟨a, by rw [hsz]; exact b⟩
    obj := hob.set_ 1 v'
    rw := own_at h.rw fun k hk => hout k (h.fw k hk) ((aw k hk).2.2.2) (aw k hk).1
    ra := own_at ho fun k hk => Below.heap_setCell V ⟨pm, 1, none⟩ v' k (fun e => (hv' k hk).1 e)
    rr := own_at h.rr fun k hk => hout k (h.fr k hk) (fun e => (aa k e).2.2.2 hk) (ar k hk).1
    cm := ⟨L1, ⟨e1, c1, (hout b1 h.fb1 (fun e => (aa b1 e).2.1 rfl) (Ne.symm p1)).trans m1, r1⟩, g1⟩
    am := ⟨L2, ⟨e2, c2, (hout b2 h.fb2 (fun e => (aa b2 e).2.2.1 rfl) (Ne.symm p2)).trans m2, r2⟩, g2⟩
    fpm := .inl h.fpm
    fb1 := .inl h.fb1
    fb2 := .inl h.fb2
    fw := fun k hk => .inl (h.fw k hk)
    fa := fun k hk => .inr hk
    fr := fun k hk => .inl (h.fr k hk)
    ne := h.ne
    nwr := h.nwr }
/-- The map of the cells has turned. -/
theorem MKp.turnC (h : MKp w0 W F pm b1 b2 vw va vr st na rs) (hg : W.grownBy V (some b1)) {cs' : List (Nat × List Nat × Nat)} (hcm : ∃ L, SMC V b1 L ∧ L.length = cs'.length ∧ ∀ tag w, tag < 8 → W64 w → sget L (keyC tag w) = (findC cs' tag w).map (fun a => ((8 * a + tag : Nat) : Int))) :
    MKp w0 V F pm b1 b2 vw va vr ⟨st.ws, st.nm, cs'⟩ na rs ∧ Fr F W V := by
  obtain ⟨p1, p2, aw, aa, ar⟩ := h.apart
  have hfr : Fr F W V := Fr.of_grown hg fun k e _ => by rw [← Option.some.inj e]; exact h.fb1
  have hout : ∀ k, F k → k ≠ b1 → V.heap[k]? = W.heap[k]? := fun k hk h1 => hg.block k (h.fresh k hk).2 (fun e => h1 (Option.some.inj e))
  obtain ⟨L2, ⟨e2, c2, m2, r2⟩, g2⟩ := h.am
  exact ⟨{ h with
    old := h.old.trans (hfr.below h.old.size fun k hk => (h.fresh k hk).1)
    fresh := fun k hk => ⟨(h.fresh k hk).1, Nat.lt_of_lt_of_le (h.fresh k hk).2 hfr.size⟩
    obj := (hout pm h.fpm p1).trans h.obj
    rw := own_at h.rw fun k hk => hout k (h.fw k hk) (aw k hk).2.1
    ra := own_at h.ra fun k hk => hout k (h.fa k hk) (aa k hk).2.1
    rr := own_at h.rr fun k hk => hout k (h.fr k hk) (ar k hk).2.1
    cm := hcm
    am := ⟨L2, ⟨e2, c2, (hout b2 h.fb2 (Ne.symm h.ne)).trans m2, r2⟩, g2⟩ }, hfr⟩
/-- The map of the names has turned. -/
theorem MKp.turnA (h : MKp w0 W F pm b1 b2 vw va vr st na rs) (hg : W.grownBy V (some b2)) {na' : List (List UInt8)} (ham : ∃ L, SMA V b2 L ∧ L.length = na'.length ∧ ∀ s, sget L s = if s ∈ na' then some ((na'.idxOf s : Nat) : Int) else none) :
    MKp w0 V F pm b1 b2 vw va vr st na' rs ∧ Fr F W V := by
  obtain ⟨p1, p2, aw, aa, ar⟩ := h.apart
  have hfr : Fr F W V := Fr.of_grown hg fun k e _ => by rw [← Option.some.inj e]; exact h.fb2
  have hout : ∀ k, F k → k ≠ b2 → V.heap[k]? = W.heap[k]? := fun k hk h1 => hg.block k (h.fresh k hk).2 (fun e => h1 (Option.some.inj e))
  obtain ⟨L1, ⟨e1, c1, m1, r1⟩, g1⟩ := h.cm
  exact ⟨{ h with
    old := h.old.trans (hfr.below h.old.size fun k hk => (h.fresh k hk).1)
    fresh := fun k hk => ⟨(h.fresh k hk).1, Nat.lt_of_lt_of_le (h.fresh k hk).2 hfr.size⟩
    obj := (hout pm h.fpm p2).trans h.obj
    rw := own_at h.rw fun k hk => hout k (h.fw k hk) (aw k hk).2.2.1
    ra := own_at h.ra fun k hk => hout k (h.fa k hk) (aa k hk).2.2.1
    rr := own_at h.rr fun k hk => hout k (h.fr k hk) (ar k hk).2.2
    cm := ⟨L1, ⟨e1, c1, (hout b1 h.fb1 h.ne).trans m1, r1⟩, g1⟩
    am := ham }, hfr⟩

set_option maxHeartbeats 400000 in
theorem hword_v (n tag : Nat) (hn : n < 18446744073709551616) (ht : tag < 8) (W : World) : Calls Try.prog 62 #[.int .u64 (n : Int), .int .i64 (tag : Int)] W fun e w' => e = .returned (.int .u64 ((leafW n tag : Nat) : Int)) ∧ W = w' := by
  have HO := Lib.hid (or_tag n tag hn ht)
  go_enter Try.func62, Try.ntmps62
  go_wp2
  go_ret
  exact ⟨by rw [← HO.out]; rfl, rfl⟩
/-- What a maker's method leaves. -/
def MEnd (w0 W : World) (F : Nat → Prop) (pm b1 b2 : Nat) (r : HSt × Nat) (rs : Value × List Nat) (e : Ending) (W' : World) : Prop :=
  e = .returned (.int .u64 ((r.2 : Nat) : Int)) ∧ ∃ F', MK w0 W' F' pm b1 b2 r.1 rs ∧ (∀ k, F' k → F k ∨ W.heap.size ≤ k) ∧ Fr F W W'
theorem am_add {b2 : Nat} {na : List (List UInt8)} (h : ∃ L, SMA V b2 L ∧ L.length = na.length ∧ ∀ s, sget L s = if s ∈ na then some ((na.idxOf s : Nat) : Int) else none) {s : List UInt8} (hs : s.length ≤ maxLen) (hn : s ∉ na) (hl : na.length ≤ 1000000) :
    ∃ w', (Instr.mapUpdate 68 (.map (some b2)) (.string ⟨s.toArray⟩) (.int .i64 ((na.length : Nat) : Int))).run Try.prog V = .ok () w' ∧ V.grownBy w' (some b2) ∧ ∃ L, SMA w' b2 L ∧ L.length = (na ++ [s]).length ∧ ∀ x, sget L x = if x ∈ na ++ [s] then some (((na ++ [s]).idxOf x : Nat) : Int) else none := by
  obtain ⟨L, h1, h2, h3⟩ := h
  have hno : sget L s = none := by rw [h3 s, if_neg hn]
  obtain ⟨w', e1, e2, e3⟩ := h1.store hs hno (by unfold maxLen; omega) (p := ((na.length : Nat) : Int)) (by simp [Lit.wf, IntKind.min, IntKind.max, IntKind.signed, IntKind.bits]; omega)
  refine ⟨w', e1, e3, _, e2, by rw [slen_sins, h2]; simp, fun x => ?_⟩
  rw [sget_sins _ _ hno, h3 x]
  by_cases hx : s = x
  · subst hx
    rw [if_pos rfl, if_pos (by simp), List.idxOf_append, if_neg hn]
    simp
  · rw [if_neg hx]
    by_cases hm : x ∈ na
    · rw [if_pos hm, if_pos (by simp [hm]), List.idxOf_append, if_pos hm]
    · rw [if_neg hm, if_neg (by simp [hm]; exact fun h => hx h.symm)]
theorem cm_add {b1 at_ : Nat} {cs : List (Nat × List Nat × Nat)} (h : ∃ L, SMC V b1 L ∧ L.length = cs.length ∧ ∀ tag w, tag < 8 → W64 w → sget L (keyC tag w) = (findC cs tag w).map (fun a => ((8 * a + tag : Nat) : Int))) {tag : Nat} {w : List Nat} (ht : tag < 8) (hw : W64 w) (hs : (keyC tag w).length ≤ maxLen) (hn : findC cs tag w = none) (hl : cs.length ≤ 1000000) (hat : at_ ≤ 10000000) :
    ∃ w', (Instr.mapUpdate 67 (.map (some b1)) (.string ⟨(keyC tag w).toArray⟩) (.int .u64 ((8 * at_ + tag : Nat) : Int))).run Try.prog V = .ok () w' ∧ V.grownBy w' (some b1) ∧ ∃ L, SMC w' b1 L ∧ L.length = (cs ++ [(tag, w, at_)]).length ∧ ∀ tag' x, tag' < 8 → W64 x → sget L (keyC tag' x) = (findC (cs ++ [(tag, w, at_)]) tag' x).map (fun a => ((8 * a + tag' : Nat) : Int)) := by
  obtain ⟨L, h1, h2, h3⟩ := h
  have hno : sget L (keyC tag w) = none := by rw [h3 tag w ht hw, hn]; rfl
  obtain ⟨w', e1, e2, e3⟩ := h1.store hs hno (by unfold maxLen; omega) (p := ((8 * at_ + tag : Nat) : Int)) (by simp [Lit.wf, IntKind.min, IntKind.max, IntKind.signed, IntKind.bits]; omega)
  refine ⟨w', e1, e3, _, e2, by rw [slen_sins, h2]; simp, fun tag' x ht' hx => ?_⟩
  rw [sget_sins _ _ hno, h3 tag' x ht' hx, findC_snoc _ _ _ _ hn]
  by_cases hk : keyC tag w = keyC tag' x
  · obtain ⟨rfl, rfl⟩ := keyC_inj ht ht' hw hx hk
    rw [if_pos rfl, if_pos ⟨rfl, rfl⟩]
    rfl
  · rw [if_neg hk, if_neg (by rintro ⟨rfl, rfl⟩; exact hk rfl)]
end
end Go.Proofs.Ytefnjplfemgibaa
