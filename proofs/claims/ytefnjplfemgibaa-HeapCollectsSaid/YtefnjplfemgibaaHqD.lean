/- Heap (layer 9): the document's maker: a term's word. Heap (layer 9): the document's word of every term, its Lay. Written by hqgene.py. -/
import Derived.Test.YtefnjplfemgibaaHqC
import Derived.Laws.OwnMore
namespace Go.Proofs.Ytefnjplfemgibaa
section
open Go.RowKit
set_option linter.unusedVariables false

def HLen (st : HSt) : Prop := ∀ c ∈ st.cs, c.2.1.length ≤ 1000000
theorem cellS_hlen {st : HSt} (h : HLen st) {tag : Nat} {w : List Nat} (hw : w.length ≤ 1000000) : HLen (cellS st tag w).1 := by
  unfold cellS
  split
  · exact h
  · intro c hc
    rcases List.mem_append.1 hc with h1 | h1
    · exact h c h1
    · rw [List.mem_singleton.1 h1]; exact hw
theorem headS_hlen {st : HSt} (h : HLen st) {k n : Int} {s : List UInt8} {w : List Nat} (hw : w.length + 2 ≤ 1000000) : HLen (headS st k n s w).1 := by
  unfold headS
  repeat' split
  · unfold atomS
    simp only
    split
    · exact h
    · exact h
  · exact h
  · exact h
  · exact h
  · exact cellS_hlen h (by omega)
  · exact cellS_hlen h (by simp; omega)
  · exact cellS_hlen h (by simp; omega)
  · exact h
mutual
theorem wordS_hlen : ∀ (t : TV) (st : HSt), HLen st → t.parts ≤ 100000 → HLen (wordS st t).1
  | .mk k n s l, st, h, hp => by
    simp only [TV.parts] at hp
    have hlp := len_parts l
    have hl := wordsS_len st l
    rw [wordS]
    exact headS_hlen (wordsS_hlen l st h (by omega)) (by omega)
theorem wordsS_hlen : ∀ (l : List TV) (st : HSt), HLen st → TV.partsL l ≤ 100000 → HLen (wordsS st l).1
  | [], st, h, _ => by rw [wordsS_nil]; exact h
  | t :: r, st, h, hp => by
    simp only [TV.partsL] at hp
    rw [wordsS_cons]
    exact wordsS_hlen r _ (wordS_hlen t st h (by omega)) (by omega)
end
theorem shl_leaf (n : Int) : IntKind.u64.wrap (IntKind.u64.wrap n * 8) = ((leafW (u64N n) 0 : Nat) : Int) := by
  have e : ∀ x : Int, IntKind.u64.wrap x = x % 18446744073709551616 := fun x => by simp only [IntKind.wrap, IntKind.bits, IntKind.signed]; simp
  rw [e, e]
  unfold leafW u64N
  omega
theorem shl_leaf2 (n : Int) (tag : Nat) (ht : tag < 8) : IntKind.u64.wrap (IntKind.u64.wrap (IntKind.u64.wrap n * 8) + (tag : Int)) = ((leafW (u64N n) tag : Nat) : Int) := by
  have e : ∀ x : Int, IntKind.u64.wrap x = x % 18446744073709551616 := fun x => by simp only [IntKind.wrap, IntKind.bits, IntKind.signed]; simp
  rw [e, e, e]
  unfold leafW u64N
  omega
theorem own_new_at {V : World} {B e n g g' : Nat} {v : Value} {xs : List Value} (ho : V.ownsRow B e 1 v n xs) (hn : 0 < n) (hat : v.ownBlock = some g ∨ v.ownBlock = some g') (hle : g ≤ g') : ∃ b c, v = .slice (some ⟨b, 0, none⟩) n c ∧ g ≤ b := by
  rcases ho.2 with ⟨_, h⟩ | ⟨b, c, cur, rfl, _⟩
  · omega
  · refine ⟨b, c, rfl, ?_⟩
    rcases hat with h | h <;> (have h9 : b = _ := Option.some.inj h; omega)
section
variable {w0 W V V' : World} {F F2 : Nat → Prop} {pm : Nat} {st : HSt} {rs : Value × List Nat}
theorem QEnd.from_ {r : HSt × Nat} {e : Ending} {W' : World} (h : QEnd w0 V F2 pm r rs e W') (hs : ∀ k, F2 k → F k ∨ W.heap.size ≤ k) (hf : Fr F W V) : QEnd w0 W F pm r rs e W' := by
  obtain ⟨he, F3, h1, h2, h3⟩ := h
  refine ⟨he, F3, h1, fun k hk => ?_, hf.trans h3 (fun k hk h9 => by rcases hs k h9 with h9 | h9; exact h9; omega)⟩
  rcases h2 k hk with h9 | h9
  · exact hs k h9
  · exact .inr (Nat.le_trans hf.size h9)
theorem QEndC.from_ {r : HSt × Nat} {b : Nat} {e : Ending} {W' : World} (h : QEndC w0 V F2 pm b r rs e W') (hs : ∀ k, F2 k → F k ∨ W.heap.size ≤ k) (hf : Fr F W V) (hb : W.heap.size ≤ b) : QEnd w0 W F pm r rs e W' := by
  obtain ⟨he, F3, h1, h2, h3⟩ := h
  refine ⟨he, F3, h1, fun k hk => ?_, hf.trans h3 (fun k hk h9 => by rcases hs k h9 with h9 | h9; exact h9; omega)⟩
  rcases h2 k hk with h9 | rfl | h9
  · exact hs k h9
  · exact .inr hb
  · exact .inr (Nat.le_trans hf.size h9)
def QItem (w0 : World) (pm : Nat) (rs : Value × List Nat) (l : List TV) : Prop := ∀ (i : Nat) (h : i < l.length) (A' : Option Addr) (c' : Nat) (st : HSt) (F : Nat → Prop) (W : World), RdM w0 A' c' l[i].items → QK w0 W F pm st rs → HOk st → HLen st → st.ws.length + 3 * l[i].parts ≤ 100000 → st.nm.length + l[i].parts ≤ 100000 → st.cs.length + l[i].parts ≤ 100000 →
  Calls Try.prog 35 #[.pointer (some ⟨pm, 0, none⟩), .agg #[.int .i64 l[i].kind, .int .i64 l[i].int, .string ⟨l[i].name.toArray⟩, .slice A' l[i].items.length c']] W (QEnd w0 W F pm (wordS st l[i]) rs)

set_option maxRecDepth 100000 in
set_option maxHeartbeats 4000000 in
theorem rword_loop (k n : Int) (s : List UInt8) (l : List TV) (A : Option Addr) (len c : Nat) (st : HSt) (F : Nat → Prop) (W : World) (hlen : l.length = len) (hlc : len ≤ 10000) (hk : headB k n s len = true) (hL : TV.isL l = true) (hR : RdM w0 A c l) (hM : QK w0 W F pm st rs) (hok : HOk st) (hln : HLen st)
    (hz1 : st.ws.length + 3 * (TV.partsL l + 1) ≤ 100000) (hz2 : st.nm.length + (TV.partsL l + 1) ≤ 100000) (hz3 : st.cs.length + (TV.partsL l + 1) ≤ 100000) (hit : QItem w0 pm rs l) :
    Calls Try.prog 35 #[.pointer (some ⟨pm, 0, none⟩), .agg #[.int .i64 k, .int .i64 n, .string ⟨s.toArray⟩, .slice A len c]] W (QEnd w0 W F pm (headS (wordsS st l).1 k n s (wordsS st l).2) rs) := by
  have HLEN := Lib.hid hlen
  have HR := Lib.hid hR
  have HM := Lib.hid hM
  have HOK := Lib.hid hok
  have HLN := Lib.hid hln
  have HIT := Lib.hid hit
  have HZ := Lib.hid (And.intro hz1 (And.intro hz2 hz3))
  have HKB := Lib.hid hk
  obtain ⟨g, hg⟩ : ∃ g, W.heap.size = g := ⟨_, rfl⟩
  have HG := Lib.hid hg
  clear hlen hR hM hok hln hit hk hL
  go_enter Try.func35, Try.ntmps35
  go_upto_region 2 with (fail)
  refine wp_world (fun V => QK w0 V F pm st rs ∧ Blk V g 37 #[.int .i64 k, .int .i64 n, .string ⟨s.toArray⟩, .slice A len c] ∧ Fr F W V) ⟨HM.out.keep (below_alloc _ _), by rw [← HG.out]; exact Blk.new _ _ _, Fr.alloc F W _⟩ ?_
  rintro V ⟨h1, h2, h3⟩
  have HM1 := Lib.hid h1
  have HB1 := Lib.hid h2
  have HF1 := Lib.hid h3
  have t3 := h2.cell 3
  clear h1 h2 h3 hg
  go_wp2
  clear t3
  go_loopw [5, 6] (fun v i wr => ∃ (j : Nat) (Aj : Option Addr) (cj : Nat) (F' : Nat → Prop), j ≤ len ∧ i = .int .i64 j ∧ v = .slice Aj j cj ∧ wr.ownsRow (g + 1) 34 1 (.slice Aj j cj) j ((wordsS st (l.take j)).2.map nv) ∧ (∀ x, (Value.slice Aj j cj).ownBlock = some x → ¬ F' x) ∧ QK w0 wr F' pm (wordsS st (l.take j)).1 rs ∧ (∀ x, F' x → F x ∨ g < x) ∧ Fr F W wr ∧ Blk wr g 37 #[.int .i64 k, .int .i64 n, .string ⟨s.toArray⟩, .slice A len c]) (fun _ i _ => len - (intOf i).toNat)
  case atStart =>
    exact ⟨0, none, 0, F, Nat.zero_le _, rfl, rfl, (by simpa [wordsS_nil] using World.ownsRow_nil _ _ _ _), (fun x hx => by cases hx), (by simpa [wordsS_nil] using HM1.out), (fun x hx => .inl hx), HF1.out, HB1.out⟩
  case round =>
    obtain ⟨j, Aj, cj, F', hj, rfl, rfl, ho, hnF, hM, hs, hf, hB⟩ := hrel
    have hgw : g < wr.heap.size := hB.lt
    obtain ⟨⟨q1, q2, q3, q4⟩, q5⟩ := wordsS_ok (l.take j) st HOK.out (by have := HZ.out; have := partsL_take_le l j; omega) (by have := HZ.out; have := partsL_take_le l j; omega)
    by_cases hlt : j < len
    · have hd1 : decide (j < len) = true := by simp; omega
      have hkl : j < l.length := by rw [HLEN.out]; exact hlt
      obtain ⟨b, o, A', c', rfl, e0', e1', e2', e3', hR'⟩ := HR.out.item hkl
      have e0 := (hM.old.cell (World.block_lt_of_cell? w0 _ e0')).trans e0'
      have e1 := (hM.old.cell (World.block_lt_of_cell? w0 _ e1')).trans e1'
      have e2 := (hM.old.cell (World.block_lt_of_cell? w0 _ e2')).trans e2'
      have e3 := (hM.old.cell (World.block_lt_of_cell? w0 _ e3')).trans e3'
      have htk := wordsS_take st l j hkl
      have hpt := partsL_take l j hkl
      have hpl := partsL_take_le l (j + 1)
      have hz := HZ.out
      rw [List.length_take, Nat.min_eq_left (by omega)] at q2
      have hq9 := wordsS_hlen (l.take j) st HLN.out (by have := partsL_take_le l j; omega)
      have HIH := Lib.hid (fun (V5 : World) (hM5 : QK w0 V5 F' pm (wordsS st (l.take j)).1 rs) => HIT.out j hkl A' c' (wordsS st (l.take j)).1 F' V5 hR' hM5 q1 hq9 (by omega) (by omega) (by omega))
      have HTK := Lib.hid htk
      clear hq9 e0' e1' e2' e3' htk hpt hpl hz hR' q1 q2 q3 q4 q5
      generalize l[j] = ti at *
      generalize hsj : (wordsS st (l.take j)).1 = sj at *
      generalize hwj : (wordsS st (l.take j)).2 = wj at *
      obtain ⟨xw, hxw⟩ : ∃ xw, (wordS sj ti).2 = xw := ⟨_, rfl⟩
      have HXW := Lib.hid hxw
      have HO := Lib.hid ho
      have HNF := Lib.hid hnF
      have HMj := Lib.hid hM
      have HS := Lib.hid hs
      have HF := Lib.hid hf
      have HB := Lib.hid hB
      clear ho hnF hM hs hf hB hxw hsj hwj hkl
      have hq1 : (0 : Int) ≤ (j : Int) := by omega
      have hq2 : (j : Int) < (len : Int) := by omega
      have HC5 := Lib.hid (HIH.out wr HMj.out)
      have HFR := Lib.hid HMj.out.fresh
      have tt3 := HB.out.cell 3
      clear HIH
      go_wp2_with (first
        | (go_at_call 35; refine HC5.out.mono ?_; rw [QEnd_eq]; rw [HXW.out]; rintro e V6 ⟨rfl, F2, hM6, hs6, hf6⟩; have HM6 := Lib.hid hM6; have HS6 := Lib.hid hs6; have HF6 := Lib.hid hf6; have HO6 := Lib.hid (own_at HO.out (fun y hy => hf6.block y (own_heap HO.out hy).2.1 (HNF.out y hy))); clear hM6 hs6 hf6)
        | (at_builtin; refine wpList_app uintsT rfl (.tmp 14) (.tmp 22) rfl (g + 1) (.slice Aj j cj) j (wj.map nv) rfl (own_far HO6.out (below_alloc _ _)) (some ⟨V6.heap.size, 0, none⟩) 1 1 [nv xw] rfl rfl (blk_cs (Blk.new V6 _ _)) (nv_one [xw]) (by unfold maxLen; omega) (by omega) (Nat.le_trans (Nat.le_trans HB.out.lt HF6.out.size) (below_alloc _ _).size) ?_; intro v7 w7 ho7 hg7 hat7; obtain ⟨A7, c7, rfl⟩ := own_sl ho7; have HO7 := Lib.hid ho7; have HG7 := Lib.hid hg7; have HA7 := Lib.hid hat7; clear ho7 hg7 hat7))
      go_roundw
      case rel =>
        have hnb : ∀ y, (Value.slice Aj j cj).ownBlock = some y → ¬ F2 y ∧ g < y ∧ y < wr.heap.size := fun y hy => by
          obtain ⟨y1, y2, _⟩ := own_heap HO.out hy
          refine ⟨fun h9 => ?_, y1, y2⟩
          rcases HS6.out y h9 with h8 | h8
          · exact HNF.out y hy h8
          · omega
        have hw0g : w0.heap.size ≤ g := by rw [← HG.out]; exact HM.out.old.size
        have hA6 := HM6.out.keep (below_alloc V6 (.cells #[nv xw] 34))
        refine ⟨j + 1, A7, c7, F2, by omega, by go_num, rfl, ?_, fun y hy h9 => ?_, ?_, fun y hy => ?_, ?_, ?_⟩
        · rw [HTK.out]
          simpa [HXW.out] using HO7.out
        · rcases HA7.out with h8 | h8
          · rw [h8] at hy; exact (hnb y hy).1 h9
          · rw [h8] at hy
            obtain rfl := Option.some.inj hy
            have h7 := (HM6.out.fresh _ h9).2
            have h6 := (below_alloc V6 (.cells #[.int .u64 (xw : Int)] 34)).size
            omega
        · rw [HTK.out]
          exact hA6.grow HG7.out (fun y hy => ⟨(hnb y hy).1, by have := (hnb y hy).2.1; omega⟩)
        · rcases HS6.out y hy with h8 | h8
          · exact HS.out y h8
          · exact .inr (Nat.lt_of_lt_of_le HB.out.lt h8)
        · exact ((HF.out.trans HF6.out (fun y hy h9 => by rcases HS.out y h9 with h8 | h8; exact h8; have := HG.out; omega)).same (Fr.alloc F V6 (.cells #[nv xw] 34))).trans (Fr.of_grown HG7.out (F := fun y => g < y) (fun y hy _ => (hnb y hy).2.1)) (fun y hy h9 => by have := HG.out; omega)
        · exact ((HF6.out.blk HB.out (fun h9 => by rcases HS.out g h9 with h8 | h8; exact (Nat.lt_irrefl g (by have := (HM.out.fresh g h8).2; have := HG.out; omega)); omega)).alloc _).grown HG7.out (fun e9 => by have := (hnb g e9.symm).2.1; omega)
      case measure => simp [intOf]; omega
    · obtain rfl : len = j := by omega
      have hd1 : decide (len < len) = false := by simp
      have htl : l.take len = l := List.take_of_length_le (by rw [HLEN.out]; exact Nat.le_refl _)
      rw [htl] at ho hM q1 q2 q3 q4 q5
      have hz := HZ.out
      obtain ⟨hb1, hb2, hb3⟩ : (wordsS st l).1.ws.length + 3 ≤ 100000 ∧ (wordsS st l).1.nm.length + 1 ≤ 100000 ∧ (wordsS st l).1.cs.length + 1 ≤ 100000 := by omega
      have hwl := wordsS_len st l
      rw [HLEN.out] at hwl
      have HLN2 := Lib.hid (wordsS_hlen l st HLN.out (by omega))
      have HOK2 := Lib.hid q1
      generalize (wordsS st l).1 = st2 at *
      generalize (wordsS st l).2 = ws at *
      obtain ⟨t0, t1, t2, t3⟩ := (⟨hB.cell 0, hB.cell 1, hB.cell 2, hB.cell 3⟩ : _ ∧ _ ∧ _ ∧ _)
      have HO2 := Lib.hid ho
      have HNF := Lib.hid hnF
      have HM2 := Lib.hid hM
      have HS2 : Hid (∀ x, F' x → F x ∨ W.heap.size ≤ x) := fun x hx => by rcases hs x hx with h9 | h9; exact .inl h9; exact .inr (by have := HG.out; omega)
      have HF2 := Lib.hid hf
      have HB2 := Lib.hid hB
      have HWL := Lib.hid hwl
      have WW := q5
      clear ho hnF hM hs hf hB hz htl q1 q2 q3 q4 q5 hwl hz1 hz2 hz3 HM1 HB1 HF1
      rcases head_cases HKB.out with ⟨rfl, a1, a2, -, -⟩ | ⟨rfl, -, a1, -, -⟩ | ⟨rfl | rfl, a1, a2, -, -⟩ | ⟨rfl, a1, a2, -⟩ | ⟨rfl, -, -⟩ | ⟨rfl, -, -, -⟩ | ⟨rfl, hl2, -, -⟩
      · have HE := Lib.hid (show headS st2 1 n s ws = (st2, leafW (u64N n) 0) from by (unfold headS; rw [if_neg (by decide)]; rw [if_neg (by decide)]; rw [if_neg (by decide)]; rw [if_neg (by decide)]; rw [if_neg (by decide)]; rw [if_neg (by decide)]; rw [if_neg (by decide)]))
        have HW := Lib.hid (shl_leaf n)
        go_wp2
        go_ret
        rw [HE.out]
        exact ⟨by rw [← HW.out]; rfl, F', HM2.out, HS2.out, HF2.out⟩
      · have HE := Lib.hid (show headS st2 2 n s ws = atomS st2 s from by (unfold headS; rw [if_pos rfl]))
        go_wp2_with (go_at_call 66; refine (ratom_v HM2.out s (by omega)).mono ?_; rintro e V3 ⟨rfl, h3⟩)
        go_ret
        rw [HE.out]
        exact QEnd.from_ ⟨rfl, h3⟩ HS2.out HF2.out
      · have HE := Lib.hid (show headS st2 3 n s ws = (st2, leafW (u64N n) 3) from by (unfold headS; rw [if_neg (by decide)]; rw [if_neg (by decide)]; rw [if_pos rfl]))
        have HW := Lib.hid (show n * 8 + 3 = ((leafW (u64N n) 3 : Nat) : Int) from by unfold leafW u64N; omega)
        go_wp2
        go_ret
        rw [HE.out]
        exact ⟨by rw [← HW.out]; rfl, F', HM2.out, HS2.out, HF2.out⟩
      · have HE := Lib.hid (show headS st2 5 n s ws = (st2, leafW (u64N n) 2) from by (unfold headS; rw [if_neg (by decide)]; rw [if_pos rfl]))
        have HW := Lib.hid (show n * 8 + 2 = ((leafW (u64N n) 2 : Nat) : Int) from by unfold leafW u64N; omega)
        go_wp2
        go_ret
        rw [HE.out]
        exact ⟨by rw [← HW.out]; rfl, F', HM2.out, HS2.out, HF2.out⟩
      · obtain ⟨m, rfl⟩ := Int.eq_ofNat_of_zero_le a1
        have HE := Lib.hid (show headS st2 4 m s ws = cellS st2 7 (m :: len :: ws) from by (unfold headS; rw [if_neg (by decide)]; rw [if_neg (by decide)]; rw [if_neg (by decide)]; rw [if_neg (by decide)]; rw [if_neg (by decide)]; rw [if_neg (by decide)]; rw [if_pos rfl]; rw [HWL.out]; rw [u64N_nat (by omega)]))
        have HO3 := Lib.hid (World.ownsRow_lit (base := g + 1) (e := 34) (size := 1) wr #[nv m, nv len] 2 HB2.out.lt (by unfold maxLen; omega) (by rfl))
        have HKA := Lib.hid (HM2.out.keep (below_alloc wr (.cells #[nv m, nv len] 34)))
        have HFA := Lib.hid (HF2.out.same (Fr.alloc F wr (.cells #[nv m, nv len] 34)))
        have hw0g : w0.heap.size ≤ g := by rw [← HG.out]; exact HM.out.old.size
        have HC := Lib.hid (fun (V6 : World) (b9 c9 : Nat) (hb : wr.heap.size ≤ b9) (ho : V6.ownsRow (g + 1) 34 1 (.slice (some ⟨b9, 0, none⟩) (2 + len) c9) (2 + len) ((#[nv m, nv len] : Array Value).toList ++ ws.map nv)) (hg : (wr.alloc (.cells #[nv m, nv len] 34)).grownBy V6 (some wr.heap.size)) => And.intro (rcell_v (HKA.out.grow hg (fun j hj => ⟨fun h9 => (by obtain rfl := Option.some.inj hj; exact Nat.lt_irrefl _ (HM2.out.fresh _ h9).2), by obtain rfl := Option.some.inj hj; exact HM2.out.old.size⟩)) HOK2.out HLN2.out 7 (by omega) (w := m :: len :: ws) (by simpa using ho) (fun h9 => by have := (HM2.out.fresh _ h9).2; omega) (by omega) (by omega) (by omega) (by omega)) (HFA.out.trans (Fr.of_grown hg (F := fun y => g < y) (fun y hy _ => by obtain rfl := Option.some.inj hy; exact HB2.out.lt)) (fun y hy h9 => by have := HG.out; omega)))
        clear hw0g
        go_wp2_with (first
          | (at_builtin; refine wpList_app uintsT rfl (.tmp 76) (.tmp 77) rfl (g + 1) (.slice (some ⟨wr.heap.size, 0, none⟩) 2 2) 2 (#[nv m, nv len] : Array Value).toList rfl HO3.out Aj len cj (ws.map nv) rfl (by rw [List.length_map, HWL.out, Nat.mul_one]) (own_cs (own_far HO2.out (below_alloc _ _))) (nv_one ws) (by unfold maxLen; omega) (by omega) (Nat.le_trans HB2.out.lt (below_alloc _ _).size) ?_; intro v7 w7 ho7 hg7 hat7; obtain ⟨b7, c7, rfl, hb7⟩ : ∃ b7 c7, v7 = .slice (some ⟨b7, 0, none⟩) (2 + len) c7 ∧ wr.heap.size ≤ b7 := own_new_at ho7 (by omega) hat7 (by simp); have HCC := Lib.hid (HC.out w7 b7 c7 hb7 ho7 hg7); clear ho7 hg7 hat7)
          | (go_at_call 67; refine HCC.out.1.mono ?_; rintro e V7 ⟨rfl, h7⟩))
        go_ret
        rw [HE.out]
        exact QEndC.from_ ⟨rfl, h7⟩ HS2.out HCC.out.2 (Nat.le_trans HF2.out.size hb7)
      · have HE := Lib.hid (show headS st2 6 n s ws = cellS st2 6 (len :: ws) from by (unfold headS; rw [if_neg (by decide)]; rw [if_neg (by decide)]; rw [if_neg (by decide)]; rw [if_neg (by decide)]; rw [if_neg (by decide)]; rw [if_pos rfl]; rw [HWL.out]))
        have HO3 := Lib.hid (World.ownsRow_lit (base := g + 1) (e := 34) (size := 1) wr #[nv len] 1 HB2.out.lt (by unfold maxLen; omega) (by rfl))
        have HKA := Lib.hid (HM2.out.keep (below_alloc wr (.cells #[nv len] 34)))
        have HFA := Lib.hid (HF2.out.same (Fr.alloc F wr (.cells #[nv len] 34)))
        have hw0g : w0.heap.size ≤ g := by rw [← HG.out]; exact HM.out.old.size
        have HC := Lib.hid (fun (V6 : World) (b9 c9 : Nat) (hb : wr.heap.size ≤ b9) (ho : V6.ownsRow (g + 1) 34 1 (.slice (some ⟨b9, 0, none⟩) (1 + len) c9) (1 + len) ((#[nv len] : Array Value).toList ++ ws.map nv)) (hg : (wr.alloc (.cells #[nv len] 34)).grownBy V6 (some wr.heap.size)) => And.intro (rcell_v (HKA.out.grow hg (fun j hj => ⟨fun h9 => (by obtain rfl := Option.some.inj hj; exact Nat.lt_irrefl _ (HM2.out.fresh _ h9).2), by obtain rfl := Option.some.inj hj; exact HM2.out.old.size⟩)) HOK2.out HLN2.out 6 (by omega) (w := len :: ws) (by simpa using ho) (fun h9 => by have := (HM2.out.fresh _ h9).2; omega) (by omega) (by omega) (by omega) (by omega)) (HFA.out.trans (Fr.of_grown hg (F := fun y => g < y) (fun y hy _ => by obtain rfl := Option.some.inj hy; exact HB2.out.lt)) (fun y hy h9 => by have := HG.out; omega)))
        clear hw0g
        go_wp2_with (first
          | (at_builtin; refine wpList_app uintsT rfl (.tmp 65) (.tmp 66) rfl (g + 1) (.slice (some ⟨wr.heap.size, 0, none⟩) 1 1) 1 (#[nv len] : Array Value).toList rfl HO3.out Aj len cj (ws.map nv) rfl (by rw [List.length_map, HWL.out, Nat.mul_one]) (own_cs (own_far HO2.out (below_alloc _ _))) (nv_one ws) (by unfold maxLen; omega) (by omega) (Nat.le_trans HB2.out.lt (below_alloc _ _).size) ?_; intro v7 w7 ho7 hg7 hat7; obtain ⟨b7, c7, rfl, hb7⟩ : ∃ b7 c7, v7 = .slice (some ⟨b7, 0, none⟩) (1 + len) c7 ∧ wr.heap.size ≤ b7 := own_new_at ho7 (by omega) hat7 (by simp); have HCC := Lib.hid (HC.out w7 b7 c7 hb7 ho7 hg7); clear ho7 hg7 hat7)
          | (go_at_call 67; refine HCC.out.1.mono ?_; rintro e V7 ⟨rfl, h7⟩))
        go_ret
        rw [HE.out]
        exact QEndC.from_ ⟨rfl, h7⟩ HS2.out HCC.out.2 (Nat.le_trans HF2.out.size hb7)
      · have HE := Lib.hid (show headS st2 7 n s ws = (st2, 4) from by (unfold headS; rw [if_neg (by decide)]; rw [if_neg (by decide)]; rw [if_neg (by decide)]; rw [if_pos rfl]))
        go_wp2
        go_ret
        rw [HE.out]
        exact ⟨rfl, F', HM2.out, HS2.out, HF2.out⟩
      · have HE := Lib.hid (show headS st2 8 n s ws = cellS st2 5 ws from by (unfold headS; rw [if_neg (by decide)]; rw [if_neg (by decide)]; rw [if_neg (by decide)]; rw [if_neg (by decide)]; rw [if_pos rfl]))
        obtain ⟨b7, c7, hb7⟩ : ∃ b7 c7, Value.slice Aj len cj = .slice (some ⟨b7, 0, none⟩) len c7 := by
          rcases HO2.out.2 with ⟨_, h9⟩ | ⟨b, c, cur, h9, _⟩
          · omega
          · exact ⟨b, c, h9⟩
        obtain ⟨rfl, _, rfl⟩ := Value.slice.inj hb7
        have hbW : W.heap.size ≤ b7 := by have h9 := (own_heap HO2.out (k := b7) rfl).1; have := HG.out; omega
        have hw0g : w0.heap.size ≤ g + 1 := by have h9 := HM.out.old.size; have := HG.out; omega
        have HC := Lib.hid (rcell_v HM2.out HOK2.out HLN2.out 5 (by omega) HO2.out (HNF.out b7 rfl) hw0g (by omega) (by omega) (by omega))
        clear hw0g hb7 hl2
        go_wp2_with (go_at_call 67; refine HC.out.mono ?_; rintro e V7 ⟨rfl, h7⟩)
        go_ret
        rw [HE.out]
        exact QEndC.from_ ⟨rfl, h7⟩ HS2.out HF2.out hbW
end
end
section
open Go.RowKit
set_option linter.unusedVariables false

section
variable {w0 W V V' : World} {F F2 : Nat → Prop} {pm : Nat} {st : HSt} {rs : Value × List Nat}
theorem rword_any (N : Nat) : ∀ (t : TV) (A : Option Addr) (c : Nat) (st : HSt) (F : Nat → Prop) (W : World), t.parts ≤ N → t.parts ≤ 10000 → t.isT = true → RdM w0 A c t.items → QK w0 W F pm st rs → HOk st → HLen st → st.ws.length + 3 * t.parts ≤ 100000 → st.nm.length + t.parts ≤ 100000 → st.cs.length + t.parts ≤ 100000 →
    Calls Try.prog 35 #[.pointer (some ⟨pm, 0, none⟩), .agg #[.int .i64 t.kind, .int .i64 t.int, .string ⟨t.name.toArray⟩, .slice A t.items.length c]] W (QEnd w0 W F pm (wordS st t) rs) := by
  induction N with
  | zero => intro t _ _ _ _ _ h; have := t.parts_pos; omega
  | succ N ih =>
    intro t A c st F W hN h4 hT hR hM hok hln hz1 hz2 hz3
    rw [TV.isT_eq, Bool.and_eq_true] at hT
    have hp := t.parts_eq
    have hlp := len_parts t.items
    rw [wordS_eq]
    rw [hp] at hz1 hz2 hz3
    refine rword_loop t.kind t.int t.name t.items A t.items.length c st F W rfl (by omega) hT.1 hT.2 hR hM hok hln hz1 hz2 hz3 ?_
    intro i h A' c' st' F' W' hR' hM' hok' hln' g1 g2 g3
    have hpi := parts_item t.items i h
    have hTi : t.items[i].isT = true := by
      cases h9 : t.items[i].isT with
      | true => rfl
      | false => have := isL_no t.items i h h9; rw [this] at hT; cases hT.2
    exact ih t.items[i] A' c' st' F' W' (by omega) (by omega) hTi hR' hM' hok' hln' g1 g2 g3
end
theorem QK_new (w0 W : World) (hW : Below w0.heap.size w0 W) : QK w0 (W.alloc (.cells #[.slice none 0 0, .slice none 0 0, .slice none 0 0, .slice none 0 0] 76)) (fun k => k = W.heap.size) W.heap.size st0 (.slice none 0 0, []) := by
  have hs := hW.size
  have hn : ∀ k, (Value.slice none 0 0).ownBlock = some k → False := fun k hk => by cases hk
  refine ⟨.slice none 0 0, .slice none 0 0, .slice none 0 0, fun _ => False, [], ?_, rfl, fun i h1 _ => by simp [st0] at h1⟩
  exact {
    old := hW.trans ((below_alloc W _).mono hs)
    fresh := fun k hk => ⟨by rw [hk]; exact hs, by rw [hk]; simp⟩
    obj := Blk.new W 76 #[.slice none 0 0, .slice none 0 0, .slice none 0 0, .slice none 0 0]
    fpm := rfl
    gf := fun k hk => hk.elim
    rw := World.ownsRow_nil _ _ _ _
    ra := World.ownsRow_nil _ _ _ _
    rr := World.ownsRow_nil _ _ _ _
    rc := World.ownsRow_nil _ _ _ _
    fw := fun k hk => (hn k hk).elim
    fa := fun k hk => (hn k hk).elim
    fr := fun k hk => (hn k hk).elim
    fc := fun k hk => (hn k hk).elim
    nwa := fun k hk => (hn k hk).elim
    nwr := fun k hk => (hn k hk).elim
    nwc := fun k hk => (hn k hk).elim
    nar := fun k hk => (hn k hk).elim
    nac := fun k hk => (hn k hk).elim
    nrc := fun k hk => (hn k hk).elim }
section
variable {W V V' : World}
set_option maxRecDepth 100000 in
set_option maxHeartbeats 4000000 in
theorem rlay_v (l : List TV) (A : Option Addr) (len c : Nat) (W : World) (hlen : l.length = len) (hnm : TV.namedL l) (hR : RdM W A c l) :
    Calls Try.prog 15 #[.slice A len c] W (LayEnds W l) := by
  have HCK : Hid (∀ V, Below W.heap.size W V → Calls Try.prog 8 #[.slice A len c] V fun e w' => e = .returned (.int .i64 (checkP l : Nat)) ∧ Below V.heap.size V w') := fun V hV => rcheck_any l A len c W V hlen hnm hV hR
  have HLEN := Lib.hid hlen
  have HR := Lib.hid hR
  clear hlen hnm hR
  obtain ⟨g0, hg0⟩ : ∃ g, W.heap.size = g := ⟨_, rfl⟩
  have HG0 := Lib.hid hg0
  by_cases hck : checkP l = 0
  rotate_left
  · obtain ⟨ck, hce⟩ : ∃ ck, checkP l = ck := ⟨_, rfl⟩
    rw [hce] at HCK hck
    have HCE := Lib.hid hce
    have hd : ((ck : Int) == 0) = false := by simpa using hck
    have HCN := Lib.hid hck
    clear hce hck
    go_enter Try.func15, Try.ntmps15
    go_upto_region 1 with (fail)
    refine wp_world (fun V => Below W.heap.size W V ∧ Blk V g0 29 #[.slice none 0 0, .slice none 0 0, .slice none 0 0]) ⟨below_alloc _ _, by rw [← HG0.out]; exact Blk.new _ _ _⟩ ?_
    rintro V ⟨hb, hk⟩
    have HB := Lib.hid hb
    have HK := Lib.hid hk
    clear hb hk hg0
    go_upto_region 2 with (go_at_call 8; refine (HCK.out V HB.out).mono ?_; rintro e w1 ⟨rfl, hb1⟩)
    refine wp_world (fun V => Below W.heap.size W V ∧ Blk V g0 29 #[.slice none 0 0, .slice none 0 0, .slice none 0 0]) ⟨below_step HB.out hb1, HK.out.keep hb1⟩ ?_
    clear hb1 HB HK
    rintro V ⟨hb, hk⟩
    have HB := Lib.hid hb
    have HK := Lib.hid hk
    have z0 := hk.cell 0
    have z1 := hk.cell 1
    have z2 := hk.cell 2
    have zf0 := hk.frozen 0
    have zf1 := hk.frozen 1
    have zf2 := hk.frozen 2
    clear hb hk
    go_wp2
    have hB2 := HK.out.set3 (.slice none 0 0) (.slice none 0 0) (.slice none 0 0)
    have y0 := hB2.cell 0
    have y1 := hB2.cell 1
    have y2 := hB2.cell 2
    refine bodyPost_ret (v := .tuple #[.agg #[.slice none 0 0, .slice none 0 0, .slice none 0 0], .int .i64 (ck : Int)]) (by simp [results, Try.results15, go_sem, y0, y1, y2]) rfl ?_
    refine ⟨?_, .inl ⟨by rw [HCE.out]; exact HCN.out, by rw [HCE.out]⟩⟩
    exact HB.out.trans ((fr_set3 V g0 _ _ _).below HB.out.size (fun k hk => by have := HG0.out; omega))
  · obtain ⟨hpl, hL⟩ := hcheck_le hck
    rw [hck] at HCK
    have HCZ := Lib.hid hck
    have HPL := Lib.hid hpl
    have HL := Lib.hid hL
    have hlenb : len ≤ 4096 := by have := len_parts l; have := HLEN.out; omega
    clear hck hpl hL
    go_enter Try.func15, Try.ntmps15
    go_upto_region 1 with (fail)
    refine wp_world (fun V => Below W.heap.size W V ∧ Blk V g0 29 #[.slice none 0 0, .slice none 0 0, .slice none 0 0]) ⟨below_alloc _ _, by rw [← HG0.out]; exact Blk.new _ _ _⟩ ?_
    rintro V ⟨hb, hk⟩
    have HB := Lib.hid hb
    have HK := Lib.hid hk
    clear hb hk hg0
    go_upto_region 4 with (go_at_call 8; refine (HCK.out V HB.out).mono ?_; rintro e w1 ⟨rfl, hb1⟩)
    refine wp_world (fun V => Below W.heap.size W V ∧ Blk V g0 29 #[.slice none 0 0, .slice none 0 0, .slice none 0 0]) ⟨below_step HB.out hb1, HK.out.keep hb1⟩ ?_
    clear hb1 HB HK
    rintro V ⟨hb, hk⟩
    have HB := Lib.hid hb
    have HK := Lib.hid hk
    have HN := Lib.hid (QK_new W V hb)
    have HGV := Lib.hid hk.lt
    clear hb hk
    go_upto_region 5 with (fail)
    refine wp_world (fun V' => (∃ F, QK W V' F V.heap.size st0 (.slice none 0 0, []) ∧ ∀ x, F x → g0 < x) ∧ Blk V' g0 29 #[.slice none 0 0, .slice none 0 0, .slice none 0 0]) ⟨⟨_, HN.out, fun (x : Nat) (hx : x = V.heap.size) => by rw [hx]; exact HGV.out⟩, HK.out.alloc _⟩ ?_
    clear HN HB HK HGV
    rintro V1 ⟨⟨F1, hM1, hF1⟩, hK1⟩
    generalize hpm : V.heap.size = pm at *
    clear hpm
    have HM1 := Lib.hid hM1
    have HF1 := Lib.hid hF1
    have HK1 := Lib.hid hK1
    clear hM1 hF1 hK1
    go_wp2
    go_loopw [6] (fun i wr => ∃ (j : Nat) (F : Nat → Prop) (vr : Value), j ≤ len ∧ i = .int .i64 j ∧ QK W wr F pm (wordsS st0 (l.take j)).1 (vr, (wordsS st0 (l.take j)).2) ∧ (∀ x, F x → g0 < x) ∧ Blk wr g0 29 #[.slice none 0 0, .slice none 0 0, .slice none 0 0]) (fun i _ => len - (intOf i).toNat)
    case atStart => exact ⟨0, F1, .slice none 0 0, Nat.zero_le _, rfl, (by simpa [wordsS_nil] using HM1.out), HF1.out, HK1.out⟩
    case round =>
      obtain ⟨j, F, vr, hj, rfl, hM, hs, hB⟩ := hrel
      clear HM1 HF1 HK1
      obtain ⟨⟨q1, q2, q3, q4⟩, q5⟩ := wordsS_ok (l.take j) st0 st0_ok (by have := HPL.out; have := partsL_take_le l j; simp [st0]; omega) (by have := HPL.out; have := partsL_take_le l j; simp [st0]; omega)
      by_cases hlt : j < len
      · have hd1 : decide (j < len) = true := by simp; omega
        have hkl : j < l.length := by rw [HLEN.out]; exact hlt
        obtain ⟨b, o, A', c', rfl, e0', e1', e2', e3', hR'⟩ := HR.out.item hkl
        have HSE : Hid (∀ V, Below W.heap.size W V → V.cell? ⟨b, o + j * 4, none⟩ = some (.int .i64 l[j].kind) ∧ V.cell? ⟨b, o + j * 4 + 1, none⟩ = some (.int .i64 l[j].int) ∧ V.cell? ⟨b, o + j * 4 + 2, none⟩ = some (.string ⟨l[j].name.toArray⟩) ∧ V.cell? ⟨b, o + j * 4 + 3, none⟩ = some (.slice A' l[j].items.length c')) := fun V hV => ⟨(hV.cell (World.block_lt_of_cell? W _ e0')).trans e0', (hV.cell (World.block_lt_of_cell? W _ e1')).trans e1', (hV.cell (World.block_lt_of_cell? W _ e2')).trans e2', (hV.cell (World.block_lt_of_cell? W _ e3')).trans e3'⟩
        have htk := wordsS_take st0 l j hkl
        have hpt := partsL_take l j hkl
        have hpl := partsL_take_le l (j + 1)
        have hz := HPL.out
        have hTi : l[j].isT = true := by
          cases h9 : l[j].isT with
          | true => rfl
          | false => have h8 := isL_no l j hkl h9; have h7 := HL.out; rw [h8] at h7; cases h7
        simp only [st0, List.length_nil, Nat.zero_add] at q2 q3 q4
        have hq9 := wordsS_hlen (l.take j) st0 (fun c hc => by cases hc) (by have := partsL_take_le l j; omega)
        have HIH := Lib.hid (fun (V5 : World) (hM5 : QK W V5 F pm (wordsS st0 (l.take j)).1 (vr, (wordsS st0 (l.take j)).2)) => rword_any l[j].parts l[j] A' c' (wordsS st0 (l.take j)).1 F V5 (Nat.le_refl _) (by omega) hTi hR' hM5 q1 hq9 (by simp only [st0] at *; omega) (by simp only [st0] at *; omega) (by simp only [st0] at *; omega))
        have HTK := Lib.hid htk
        have HRL := Lib.hid (show (wordsS st0 (l.take j)).2.length = j by rw [wordsS_len, List.length_take]; omega)
        clear hq9 e0' e1' e2' e3' htk hpt hpl hz hR' q1 q2 q3 q4 q5 hTi
        generalize l[j] = ti at *
        generalize hsj : (wordsS st0 (l.take j)).1 = sj at *
        generalize hwj : (wordsS st0 (l.take j)).2 = wj at *
        obtain ⟨xw, hxw⟩ : ∃ xw, (wordS sj ti).2 = xw := ⟨_, rfl⟩
        have HXW := Lib.hid hxw
        have HMj := Lib.hid hM
        have HS := Lib.hid hs
        have HB := Lib.hid hB
        clear hM hs hB hxw hsj hwj hkl
        have hq1 : (0 : Int) ≤ (j : Int) := by omega
        have hq2 : (j : Int) < (len : Int) := by omega
        have HSC : Hid (∀ V F' st', QK W V F' pm st' (vr, wj) → (V.cell? ⟨pm, 2, none⟩ = some vr ∧ V.cell? ⟨b, o + j * 4, none⟩ = some (.int .i64 ti.kind) ∧ V.cell? ⟨b, o + j * 4 + 1, none⟩ = some (.int .i64 ti.int) ∧ V.cell? ⟨b, o + j * 4 + 2, none⟩ = some (.string ⟨ti.name.toArray⟩) ∧ V.cell? ⟨b, o + j * 4 + 3, none⟩ = some (.slice A' ti.items.length c'))) := fun V F' st' hM => by
          have ho := hM.old
          obtain ⟨vw, va, vc, G, az, h, _⟩ := hM
          exact ⟨h.obj.cell 2, HSE.out V ho⟩
        have HSE2 := HSE
        clear HSE
        go_upto_region 8 with (fail)
        refine wp_region_W 17 (fun V => V.cell? ⟨pm, 2, none⟩ = some vr ∧ V.cell? ⟨b, o + j * 4, none⟩ = some (.int .i64 ti.kind) ∧ V.cell? ⟨b, o + j * 4 + 1, none⟩ = some (.int .i64 ti.int) ∧ V.cell? ⟨b, o + j * 4 + 2, none⟩ = some (.string ⟨ti.name.toArray⟩) ∧ V.cell? ⟨b, o + j * 4 + 3, none⟩ = some (.slice A' ti.items.length c')) (by kernel_rfl) ?_ (fun hS0 => ?_)
        · exact HSC.out wr.drew F _ (HMj.out.keep (Below.refl _ _).drew)
        (refine wpAnyW_take (i := 0) (v := ?_) rfl (by kernel_rfl) (by kernel_rfl) (by kernel_rfl) (by kernel_rfl) (fun _ _ _ h => h) (Or.inl ⟨by kernel_rfl, ?_⟩) (by assumption) ?_; rotate_left; focus (intro V9 hS9; go_simp; (try (with_reducible rfl)); done))
        try simp only [Act.put, List.getElem_toArray, List.getElem_cons_zero, List.setIfInBounds_toArray, List.set_cons_succ, List.set_cons_zero]
        (refine wpAnyW_take (i := 1) (v := ?_) rfl (by kernel_rfl) (by kernel_rfl) (by kernel_rfl) (by kernel_rfl) (fun _ _ _ h => h) (Or.inl ⟨by kernel_rfl, ?_⟩) (by assumption) ?_; rotate_left; focus (intro V9 hS9; go_simp; (try (with_reducible rfl)); done))
        try simp only [Act.put, List.getElem_toArray, List.getElem_cons_succ, List.getElem_cons_zero, List.setIfInBounds_toArray, List.set_cons_succ, List.set_cons_zero]
        (refine wpAnyW_take (i := 2) (v := ?_) rfl (by kernel_rfl) (by kernel_rfl) (by kernel_rfl) (by kernel_rfl) (fun _ _ _ h => h) (Or.inl ⟨by kernel_rfl, ?_⟩) (by assumption) ?_; rotate_left; focus (intro V9 hS9; go_simp; (try (with_reducible rfl)); done))
        try simp only [Act.put, List.getElem_toArray, List.getElem_cons_succ, List.getElem_cons_zero, List.setIfInBounds_toArray, List.set_cons_succ, List.set_cons_zero]
        (refine wpAnyW_take (i := 3) (v := ?_) rfl (by kernel_rfl) (by kernel_rfl) (by kernel_rfl) (by kernel_rfl) (fun _ _ _ h => h) (Or.inl ⟨by kernel_rfl, ?_⟩) (by assumption) ?_; rotate_left; focus (intro V9 hS9; go_simp; (try (with_reducible rfl)); done))
        try simp only [Act.put, List.getElem_toArray, List.getElem_cons_succ, List.getElem_cons_zero, List.setIfInBounds_toArray, List.set_cons_succ, List.set_cons_zero]
        (refine wpAnyW_take (i := 4) (v := ?_) rfl (by kernel_rfl) (by kernel_rfl) (by kernel_rfl) (by kernel_rfl) (fun _ _ _ h => h) (Or.inl ⟨by kernel_rfl, ?_⟩) (by assumption) ?_; rotate_left; focus (intro V9 hS9; go_simp; (try (with_reducible rfl)); done))
        try simp only [Act.put, List.getElem_toArray, List.getElem_cons_succ, List.getElem_cons_zero, List.setIfInBounds_toArray, List.set_cons_succ, List.set_cons_zero]
        (refine wpAnyW_take (i := 5) (v := ?_) rfl (by kernel_rfl) (by kernel_rfl) (by kernel_rfl) (by kernel_rfl) (fun _ _ _ h => h) (Or.inl ⟨by kernel_rfl, ?_⟩) (by assumption) ?_; rotate_left; focus (intro V9 hS9; obtain ⟨g0, g1, g2, g3, g4⟩ := hS9; go_simp; (try (with_reducible rfl)); done))
        try simp only [Act.put, List.getElem_toArray, List.getElem_cons_succ, List.getElem_cons_zero, List.setIfInBounds_toArray, List.set_cons_succ, List.set_cons_zero]
        (refine wpAnyW_take (i := 6) (v := ?_) rfl (by kernel_rfl) (by kernel_rfl) (by kernel_rfl) (by kernel_rfl) (fun _ _ _ h => h) (Or.inl ⟨by kernel_rfl, ?_⟩) (by assumption) ?_; rotate_left; focus (intro V9 hS9; go_simp; (try (with_reducible rfl)); done))
        try simp only [Act.put, List.getElem_toArray, List.getElem_cons_succ, List.getElem_cons_zero, List.setIfInBounds_toArray, List.set_cons_succ, List.set_cons_zero]
        (refine wpAnyW_take (i := 7) (v := ?_) rfl (by kernel_rfl) (by kernel_rfl) (by kernel_rfl) (by kernel_rfl) (fun _ _ _ h => h) (Or.inl ⟨by kernel_rfl, ?_⟩) (by assumption) ?_; rotate_left; focus (intro V9 hS9; go_simp; (try (with_reducible rfl)); done))
        try simp only [Act.put, List.getElem_toArray, List.getElem_cons_succ, List.getElem_cons_zero, List.setIfInBounds_toArray, List.set_cons_succ, List.set_cons_zero]
        (refine wpAnyW_take (i := 8) (v := ?_) rfl (by kernel_rfl) (by kernel_rfl) (by kernel_rfl) (by kernel_rfl) (fun _ _ _ h => h) (Or.inl ⟨by kernel_rfl, ?_⟩) (by assumption) ?_; rotate_left; focus (intro V9 hS9; go_simp; (try (with_reducible rfl)); done))
        try simp only [Act.put, List.getElem_toArray, List.getElem_cons_succ, List.getElem_cons_zero, List.setIfInBounds_toArray, List.set_cons_succ, List.set_cons_zero]
        (refine wpAnyW_take (i := 9) (v := ?_) rfl (by kernel_rfl) (by kernel_rfl) (by kernel_rfl) (by kernel_rfl) (fun _ _ _ h => h) (Or.inl ⟨by kernel_rfl, ?_⟩) (by assumption) ?_; rotate_left; focus (intro V9 hS9; go_simp; (try (with_reducible rfl)); done))
        try simp only [Act.put, List.getElem_toArray, List.getElem_cons_succ, List.getElem_cons_zero, List.setIfInBounds_toArray, List.set_cons_succ, List.set_cons_zero]
        (refine wpAnyW_take (i := 10) (v := ?_) rfl (by kernel_rfl) (by kernel_rfl) (by kernel_rfl) (by kernel_rfl) (fun _ _ _ h => h) (Or.inl ⟨by kernel_rfl, ?_⟩) (by assumption) ?_; rotate_left; focus (intro V9 hS9; obtain ⟨g0, g1, g2, g3, g4⟩ := hS9; go_simp; (try (with_reducible rfl)); done))
        try simp only [Act.put, List.getElem_toArray, List.getElem_cons_succ, List.getElem_cons_zero, List.setIfInBounds_toArray, List.set_cons_succ, List.set_cons_zero]
        refine wpAnyW_ready (rs := [11]) (by kernel_rfl) (by simp) ?_
        refine AllReadyW.cons rfl (fun K hK => ?_) AllReadyW.nil
        go_simp
        refine (HIH.out wr.drew (HMj.out.keep (Below.refl _ _).drew)).mono ?_
        rw [QEnd_eq, HXW.out]
        rintro r w6 ⟨rfl, F2, hM6, hs6, hf6⟩
        have hB6 := hf6.blk (show Blk wr.drew g0 29 _ from HB.out) (fun h9 => Nat.lt_irrefl _ (HS.out g0 h9))
        refine hK.out _ _ (HSC.out w6 F2 _ hM6) (fun _ => ?_)
        clear hK K
        try simp only [Act.put, List.getElem_toArray, List.getElem_cons_succ, List.getElem_cons_zero, List.setIfInBounds_toArray, List.set_cons_succ, List.set_cons_zero]
        refine wpAnyW_ready (rs := [12]) (by kernel_rfl) (by simp) ?_
        refine AllReadyW.cons rfl (fun K hK => ?_) AllReadyW.nil
        go_simp
        have hMA := hM6.keep (below_alloc w6 (.cells #[.int .u64 (xw : Int)] 34))
        refine hK.out _ _ (HSC.out _ F2 _ hMA) (fun _ => ?_)
        clear hK K
        try simp only [Act.put, List.getElem_toArray, List.getElem_cons_succ, List.getElem_cons_zero, List.setIfInBounds_toArray, List.set_cons_succ, List.set_cons_zero]
        obtain ⟨vw, va, vc, G, az, hP, hPK⟩ := hMA
        have hoR : (w6.alloc (.cells #[.int .u64 (xw : Int)] 34)).ownsRow W.heap.size 34 1 vr j (wj.map nv) := by have h9 := hP.rr; rw [HRL.out] at h9; exact h9
        have hszW := hP.old.size
        refine wpAnyW_ready (rs := [13]) (by kernel_rfl) (by simp) ?_
        refine AllReadyW.cons rfl (fun K hK => ?_) AllReadyW.nil
        refine step_appO uintsT (by kernel_rfl) (.tmp 26) (.tmp 33) rfl W.heap.size j (wj.map nv) vr hoR (some ⟨w6.heap.size, 0, none⟩) 1 1 [nv xw] (by rfl) (by rfl) rfl (blk_cs (Blk.new w6 _ _)) (nv_one [xw]) (by unfold maxLen; omega) (by omega) hszW ?_
        intro v7 w7 ho7 hg7 hat7
        have hO7 : Blk w7 pm 76 #[vw, va, vr, vc] := hP.obj.grown hg7 (fun e => (hP.fr pm e.symm).2.1 rfl)
        have hvb : ∀ y, vr.ownBlock = some y → y ≠ g0 := fun y hy => by
          obtain ⟨vw5, va5, vc5, G5, az5, h5, _⟩ := HMj.out
          exact Nat.ne_of_gt (HS.out y (h5.fr y hy).1)
        have hB7 := (hB6.alloc (.cells #[.int .u64 (xw : Int)] 34)).grown hg7 (fun e => hvb g0 e.symm rfl)
        have hQ7 : QKp W w7 F2 G pm vw va vr vc (wordS sj ti).1.ws (wordS sj ti).1.nm wj (wordS sj ti).1.cs.length (cellsK (wordS sj ti).1.cs az) → True := fun _ => trivial
        have hold7 : Below W.heap.size W w7 := hP.old.trans ⟨hg7.os, hg7.tape, hg7.output, hg7.size, fun k hk => hg7.block k (Nat.lt_of_lt_of_le hk hszW) (fun e => by have h9 := (own_heap hoR e.symm).1; omega)⟩
        refine hK.out _ _ ⟨hO7.cell 2, HSE2.out w7 hold7⟩ (fun _ => ?_)
        clear hK K hQ7 hold7
        try simp only [Act.put, List.getElem_toArray, List.getElem_cons_succ, List.getElem_cons_zero, List.setIfInBounds_toArray, List.set_cons_succ, List.set_cons_zero]
        obtain ⟨A7, c7, rfl⟩ := own_sl ho7
        (refine wpAnyW_take (i := 14) (v := ?_) rfl (by kernel_rfl) (by kernel_rfl) (by kernel_rfl) (by kernel_rfl) (fun _ _ _ h => h) (Or.inl ⟨by kernel_rfl, ?_⟩) (by assumption) ?_; rotate_left; focus (intro V9 hS9; go_simp; (try (with_reducible rfl)); done))
        try simp only [Act.put, List.getElem_toArray, List.getElem_cons_succ, List.getElem_cons_zero, List.setIfInBounds_toArray, List.set_cons_succ, List.set_cons_zero]
        (refine wpAnyW_take (i := 15) (v := ?_) rfl (by kernel_rfl) (by kernel_rfl) (by kernel_rfl) (by kernel_rfl) (fun _ _ _ h => h) (Or.inl ⟨by kernel_rfl, ?_⟩) (by assumption) ?_; rotate_left; focus (intro V9 hS9; go_simp; (try (with_reducible rfl)); done))
        try simp only [Act.put, List.getElem_toArray, List.getElem_cons_succ, List.getElem_cons_zero, List.setIfInBounds_toArray, List.set_cons_succ, List.set_cons_zero]
        (refine wpAnyW_take (i := 16) (v := ?_) rfl (by kernel_rfl) (by kernel_rfl) (by kernel_rfl) (by kernel_rfl) (fun _ _ _ h => h) (Or.inl ⟨by kernel_rfl, ?_⟩) (by assumption) ?_; rotate_left; focus (intro V9 hS9; go_simp; (try (with_reducible rfl)); done))
        try simp only [Act.put, List.getElem_toArray, List.getElem_cons_succ, List.getElem_cons_zero, List.setIfInBounds_toArray, List.set_cons_succ, List.set_cons_zero]
        refine wpAnyW_ready (rs := [17]) (by kernel_rfl) (by simp) ?_
        refine AllReadyW.consE rfl (by kernel_rfl) (fun K hK => ?_) AllReadyW.nil
        have hfz := hO7.frozen 2
        have gc : w7.cell? ⟨pm, 2, none⟩ = some vr := hO7.cell 2
        go_simp
        refine hK.out _ _ ?_
        clear hK K
        refine wpAnyW_done (by kernel_rfl) ?_ _
        obtain ⟨k1, k2⟩ := hP.setR (rs' := wj ++ [xw]) (by simpa [HRL.out] using ho7) hg7 hat7
        have k3 := hPK.far fun k hk => k2.block k (hP.fresh k (hP.gf k hk).1).2 (fun h9 => h9.2 hk)
        have hEND : Hid ((∃ F', QK W (w7.setCell ⟨pm, 2, none⟩ (.slice A7 (j + 1) c7)) F' pm (wordS sj ti).1 (.slice A7 (j + 1) c7, wj ++ [xw]) ∧ ∀ x, F' x → g0 < x) ∧ Blk (w7.setCell ⟨pm, 2, none⟩ (.slice A7 (j + 1) c7)) g0 29 #[.slice none 0 0, .slice none 0 0, .slice none 0 0]) := by
          refine ⟨⟨_, ⟨_, _, _, _, _, k1, k3⟩, fun x hx => ?_⟩, hB7.far (p := ⟨pm, 2, none⟩) (fun e => ?_) _⟩
          · rcases hx with hx | hx
            · rcases hs6 x hx with h9 | h9
              · exact HS.out x h9
              · exact Nat.lt_of_lt_of_le HB.out.lt h9
            · rcases hat7 with h9 | h9
              · rw [h9] at hx
                rcases hs6 x (hP.fr x hx).1 with h8 | h8
                · exact HS.out x h8
                · exact Nat.lt_of_lt_of_le HB.out.lt h8
              · rw [h9] at hx
                have h8 := Option.some.inj hx
                have h7 := hB6.lt
                simp at h8
                omega
          · obtain ⟨vw5, va5, vc5, G5, az5, h5, _⟩ := HMj.out
            have h9 := HS.out pm h5.fpm
            have h8 : g0 = pm := e
            omega
        clear hfz gc k1 k2 k3 hB7 hO7 ho7 hg7 hat7 hoR hP hPK hB6 hM6 hs6 hf6 hvb hszW hS0
        go_wp2
        go_roundw
        case rel =>
          obtain ⟨⟨F', k1, k2⟩, k3⟩ := hEND.out
          exact ⟨j + 1, F', _, by omega, by go_num, by rw [HTK.out, HXW.out]; exact k1, k2, k3⟩
        case measure => simp [intOf]; omega
      · obtain rfl : len = j := by omega
        have hd1 : decide (len < len) = false := by simp
        have htl : l.take len = l := List.take_of_length_le (by rw [HLEN.out]; exact Nat.le_refl _)
        rw [htl] at hM
        obtain ⟨vw, va, vc, G, az, h, _⟩ := hM
        obtain ⟨Aw, cw, hw9⟩ := own_sl h.rw
        obtain ⟨Aa, ca, ha9⟩ := own_sl h.ra
        obtain ⟨Ar, cr, hr9⟩ := own_sl h.rr
        simp only at hr9
        subst hw9 ha9 hr9
        have HH := Lib.hid h
        have HS := Lib.hid hs
        have HB := Lib.hid hB
        have x0 := h.obj.cell 0
        have x1 := h.obj.cell 1
        have x2 := h.obj.cell 2
        have z0 := hB.cell 0
        have z1 := hB.cell 1
        have z2 := hB.cell 2
        have zf0 := hB.frozen 0
        have zf1 := hB.frozen 1
        have zf2 := hB.frozen 2
        clear h hs hB htl q1 q2 q3 q4 q5
        obtain ⟨nw, hnw⟩ : ∃ n, (wordsS st0 l).1.ws.length = n := ⟨_, rfl⟩
        obtain ⟨na, hna⟩ : ∃ n, (wordsS st0 l).1.nm.length = n := ⟨_, rfl⟩
        obtain ⟨nr, hnr⟩ : ∃ n, (wordsS st0 l).2.length = n := ⟨_, rfl⟩
        simp only [hnw, hna, hnr] at x0 x1 x2
        have HNW := Lib.hid (And.intro hnw (And.intro hna hnr))
        clear hnw hna hnr
        go_wp2
        have hB2 := HB.out.set3 (.slice Aw nw cw) (.slice Aa na ca) (.slice Ar nr cr)
        have y0 := hB2.cell 0
        have y1 := hB2.cell 1
        have y2 := hB2.cell 2
        refine bodyPost_ret (v := .tuple #[.agg #[.slice Aw nw cw, .slice Aa na ca, .slice Ar nr cr], .int .i64 0]) (by simp [results, Try.results15, go_sem, y0, y1, y2]) rfl ?_
        have hfr := fr_set3 wr g0 (.slice Aw nw cw) (.slice Aa na ca) (.slice Ar nr cr)
        refine ⟨HH.out.old.trans (hfr.below HH.out.old.size (fun k hk => by have := HG0.out; omega)), .inr ⟨HCZ.out, _, _, _, rfl, ?_⟩⟩
        have h9 := HH.out
        have ho : ∀ y, F y → ¬ y = g0 := fun y hy e => by have := HS.out y hy; omega
        obtain ⟨hn1, hn2, hn3⟩ := HNW.out
        exact {
          w := by have := own_at h9.rw (fun k hk => hfr.block k (own_heap h9.rw hk).2.1 (ho k (h9.fw k hk).1)); simpa [layS, hn1] using this
          a := by have := own_at h9.ra (fun k hk => hfr.block k (own_heap h9.ra hk).2.1 (ho k (h9.fa k hk).1)); simpa [layS, hn2] using this
          r := by have := own_at h9.rr (fun k hk => hfr.block k (own_heap h9.rr hk).2.1 (ho k (h9.fr k hk).1)); simpa [layS, hn3] using this }
end
end
end Go.Proofs.Ytefnjplfemgibaa
