/- Heap (layer 9): the document's maker: a term's word. -/
import Derived.Test.YtefnjplfemgibaaHqC
import Derived.Laws.OwnMore
namespace Go.Proofs.Ytefnjplfemgibaa
open Go.RowKit
set_option linter.unusedVariables false

def HLen (st : HSt) : Prop := ∀ c ∈ st.cs, c.2.1.length ≤ 1000000
theorem cellS_hlen {st : HSt} (h : HLen st) {tag : Nat} {w : List Nat} (hw : w.length ≤ 1000000) : HLen (cellS st tag w).1 := by
  unfold cellS
  split
  · exact h
  · intro c hc
    rcases List.mem_append.1 hc with h1 | h1
    · exact h c h1
    · rw [List.mem_singleton.1 h1]; exact hw
theorem headS_hlen {st : HSt} (h : HLen st) {k n : Int} {s : List UInt8} {w : List Nat} (hw : w.length + 2 ≤ 1000000) : HLen (headS st k n s w).1 := by
  unfold headS
  repeat' split
  · unfold atomS
    simp only
    split
    · exact h
    · exact h
  · exact h
  · exact h
  · exact h
  · exact cellS_hlen h (by omega)
  · exact cellS_hlen h (by simp; omega)
  · exact cellS_hlen h (by simp; omega)
  · exact h
mutual
theorem wordS_hlen : ∀ (t : TV) (st : HSt), HLen st → t.parts ≤ 100000 → HLen (wordS st t).1
  | .mk k n s l, st, h, hp => by
    simp only [TV.parts] at hp
    have hlp := len_parts l
    have hl := wordsS_len st l
    rw [wordS]
    exact headS_hlen (wordsS_hlen l st h (by omega)) (by omega)
theorem wordsS_hlen : ∀ (l : List TV) (st : HSt), HLen st → TV.partsL l ≤ 100000 → HLen (wordsS st l).1
  | [], st, h, _ => by rw [wordsS_nil]; exact h
  | t :: r, st, h, hp => by
    simp only [TV.partsL] at hp
    rw [wordsS_cons]
    exact wordsS_hlen r _ (wordS_hlen t st h (by omega)) (by omega)
end
theorem shl_leaf (n : Int) : IntKind.u64.wrap (IntKind.u64.wrap n * 8) = ((leafW (u64N n) 0 : Nat) : Int) := by
  have e : ∀ x : Int, IntKind.u64.wrap x = x % 18446744073709551616 := fun x => by simp only [IntKind.wrap, IntKind.bits, IntKind.signed]; simp
  rw [e, e]
  unfold leafW u64N
  omega
theorem shl_leaf2 (n : Int) (tag : Nat) (ht : tag < 8) : IntKind.u64.wrap (IntKind.u64.wrap (IntKind.u64.wrap n * 8) + (tag : Int)) = ((leafW (u64N n) tag : Nat) : Int) := by
  have e : ∀ x : Int, IntKind.u64.wrap x = x % 18446744073709551616 := fun x => by simp only [IntKind.wrap, IntKind.bits, IntKind.signed]; simp
  rw [e, e, e]
  unfold leafW u64N
  omega
theorem own_new_at {V : World} {B e n g g' : Nat} {v : Value} {xs : List Value} (ho : V.ownsRow B e 1 v n xs) (hn : 0 < n) (hat : v.ownBlock = some g ∨ v.ownBlock = some g') (hle : g ≤ g') : ∃ b c, v = .slice (some ⟨b, 0, none⟩) n c ∧ g ≤ b := by
  rcases ho.2 with ⟨_, h⟩ | ⟨b, c, cur, rfl, _⟩
  · omega
  · refine ⟨b, c, rfl, ?_⟩
    rcases hat with h | h <;> (have h9 : b = _ := Option.some.inj h; omega)
section
variable {w0 W V V' : World} {F F2 : Nat → Prop} {pm : Nat} {st : HSt} {rs : Value × List Nat}
theorem QEnd.from_ {r : HSt × Nat} {e : Ending} {W' : World} (h : QEnd w0 V F2 pm r rs e W') (hs : ∀ k, F2 k → F k ∨ W.heap.size ≤ k) (hf : Fr F W V) : QEnd w0 W F pm r rs e W' := by
  obtain ⟨he, F3, h1, h2, h3⟩ := h
  refine ⟨he, F3, h1, fun k hk => ?_, hf.trans h3 (fun k hk h9 => by rcases hs k h9 with h9 | h9; exact h9; omega)⟩
  rcases h2 k hk with h9 | h9
  · exact hs k h9
  · exact .inr (Nat.le_trans hf.size h9)
theorem QEndC.from_ {r : HSt × Nat} {b : Nat} {e : Ending} {W' : World} (h : QEndC w0 V F2 pm b r rs e W') (hs : ∀ k, F2 k → F k ∨ W.heap.size ≤ k) (hf : Fr F W V) (hb : W.heap.size ≤ b) : QEnd w0 W F pm r rs e W' := by
  obtain ⟨he, F3, h1, h2, h3⟩ := h
  refine ⟨he, F3, h1, fun k hk => ?_, hf.trans h3 (fun k hk h9 => by rcases hs k h9 with h9 | h9; exact h9; omega)⟩
  rcases h2 k hk with h9 | rfl | h9
  · exact hs k h9
  · exact .inr hb
  · exact .inr (Nat.le_trans hf.size h9)
def QItem (w0 : World) (pm : Nat) (rs : Value × List Nat) (l : List TV) : Prop := ∀ (i : Nat) (h : i < l.length) (A' : Option Addr) (c' : Nat) (st : HSt) (F : Nat → Prop) (W : World), RdM w0 A' c' l[i].items → QK w0 W F pm st rs → HOk st → HLen st → st.ws.length + 3 * l[i].parts ≤ 100000 → st.nm.length + l[i].parts ≤ 100000 → st.cs.length + l[i].parts ≤ 100000 →
  Calls Try.prog 35 #[.pointer (some ⟨pm, 0, none⟩), .agg #[.int .i64 l[i].kind, .int .i64 l[i].int, .string ⟨l[i].name.toArray⟩, .slice A' l[i].items.length c']] W (QEnd w0 W F pm (wordS st l[i]) rs)

set_option maxRecDepth 100000 in
set_option maxHeartbeats 4000000 in
theorem rword_loop (k n : Int) (s : List UInt8) (l : List TV) (A : Option Addr) (len c : Nat) (st : HSt) (F : Nat → Prop) (W : World) (hlen : l.length = len) (hlc : len ≤ 10000) (hk : headB k n s len = true) (hL : TV.isL l = true) (hR : RdM w0 A c l) (hM : QK w0 W F pm st rs) (hok : HOk st) (hln : HLen st)
    (hz1 : st.ws.length + 3 * (TV.partsL l + 1) ≤ 100000) (hz2 : st.nm.length + (TV.partsL l + 1) ≤ 100000) (hz3 : st.cs.length + (TV.partsL l + 1) ≤ 100000) (hit : QItem w0 pm rs l) :
    Calls Try.prog 35 #[.pointer (some ⟨pm, 0, none⟩), .agg #[.int .i64 k, .int .i64 n, .string ⟨s.toArray⟩, .slice A len c]] W (QEnd w0 W F pm (headS (wordsS st l).1 k n s (wordsS st l).2) rs) := by
  have HLEN := Lib.hid hlen
  have HR := Lib.hid hR
  have HM := Lib.hid hM
  have HOK := Lib.hid hok
  have HLN := Lib.hid hln
  have HIT := Lib.hid hit
  have HZ := Lib.hid (And.intro hz1 (And.intro hz2 hz3))
  have HKB := Lib.hid hk
  obtain ⟨g, hg⟩ : ∃ g, W.heap.size = g := ⟨_, rfl⟩
  have HG := Lib.hid hg
  clear hlen hR hM hok hln hit hk hL
  go_enter Try.func35, Try.ntmps35
  go_upto_region 2 with (fail)
  refine wp_world (fun V => QK w0 V F pm st rs ∧ Blk V g 37 #[.int .i64 k, .int .i64 n, .string ⟨s.toArray⟩, .slice A len c] ∧ Fr F W V) ⟨HM.out.keep (below_alloc _ _), by rw [← HG.out]; exact Blk.new _ _ _, Fr.alloc F W _⟩ ?_
  rintro V ⟨h1, h2, h3⟩
  have HM1 := Lib.hid h1
  have HB1 := Lib.hid h2
  have HF1 := Lib.hid h3
  have t3 := h2.cell 3
  clear h1 h2 h3 hg
  go_wp2
  clear t3
  go_loopw [5, 6] (fun v i wr => ∃ (j : Nat) (Aj : Option Addr) (cj : Nat) (F' : Nat → Prop), j ≤ len ∧ i = .int .i64 j ∧ v = .slice Aj j cj ∧ wr.ownsRow (g + 1) 34 1 (.slice Aj j cj) j ((wordsS st (l.take j)).2.map nv) ∧ (∀ x, (Value.slice Aj j cj).ownBlock = some x → ¬ F' x) ∧ QK w0 wr F' pm (wordsS st (l.take j)).1 rs ∧ (∀ x, F' x → F x ∨ g < x) ∧ Fr F W wr ∧ Blk wr g 37 #[.int .i64 k, .int .i64 n, .string ⟨s.toArray⟩, .slice A len c]) (fun _ i _ => len - (intOf i).toNat)
  case atStart =>
    exact ⟨0, none, 0, F, Nat.zero_le _, rfl, rfl, (by simpa [wordsS_nil] using World.ownsRow_nil _ _ _ _), (fun x hx => by cases hx), (by simpa [wordsS_nil] using HM1.out), (fun x hx => .inl hx), HF1.out, HB1.out⟩
  case round =>
    obtain ⟨j, Aj, cj, F', hj, rfl, rfl, ho, hnF, hM, hs, hf, hB⟩ := hrel
    have hgw : g < wr.heap.size := hB.lt
    obtain ⟨⟨q1, q2, q3, q4⟩, q5⟩ := wordsS_ok (l.take j) st HOK.out (by have := HZ.out; have := partsL_take_le l j; omega) (by have := HZ.out; have := partsL_take_le l j; omega)
    by_cases hlt : j < len
    · have hd1 : decide (j < len) = true := by simp; omega
      have hkl : j < l.length := by rw [HLEN.out]; exact hlt
      obtain ⟨b, o, A', c', rfl, e0', e1', e2', e3', hR'⟩ := HR.out.item hkl
      have e0 := (hM.old.cell (World.block_lt_of_cell? w0 _ e0')).trans e0'
      have e1 := (hM.old.cell (World.block_lt_of_cell? w0 _ e1')).trans e1'
      have e2 := (hM.old.cell (World.block_lt_of_cell? w0 _ e2')).trans e2'
      have e3 := (hM.old.cell (World.block_lt_of_cell? w0 _ e3')).trans e3'
      have htk := wordsS_take st l j hkl
      have hpt := partsL_take l j hkl
      have hpl := partsL_take_le l (j + 1)
      have hz := HZ.out
      rw [List.length_take, Nat.min_eq_left (by omega)] at q2
      have hq9 := wordsS_hlen (l.take j) st HLN.out (by have := partsL_take_le l j; omega)
      have HIH := Lib.hid (fun (V5 : World) (hM5 : QK w0 V5 F' pm (wordsS st (l.take j)).1 rs) => HIT.out j hkl A' c' (wordsS st (l.take j)).1 F' V5 hR' hM5 q1 hq9 (by omega) (by omega) (by omega))
      have HTK := Lib.hid htk
      clear hq9 e0' e1' e2' e3' htk hpt hpl hz hR' q1 q2 q3 q4 q5
      generalize l[j] = ti at *
      generalize hsj : (wordsS st (l.take j)).1 = sj at *
      generalize hwj : (wordsS st (l.take j)).2 = wj at *
      obtain ⟨xw, hxw⟩ : ∃ xw, (wordS sj ti).2 = xw := ⟨_, rfl⟩
      have HXW := Lib.hid hxw
      have HO := Lib.hid ho
      have HNF := Lib.hid hnF
      have HMj := Lib.hid hM
      have HS := Lib.hid hs
      have HF := Lib.hid hf
      have HB := Lib.hid hB
      clear ho hnF hM hs hf hB hxw hsj hwj hkl
      have hq1 : (0 : Int) ≤ (j : Int) := by omega
      have hq2 : (j : Int) < (len : Int) := by omega
      have HC5 := Lib.hid (HIH.out wr HMj.out)
      have HFR := Lib.hid HMj.out.fresh
      have tt3 := HB.out.cell 3
      clear HIH
      go_wp2_with (first
        | (go_at_call 35; refine HC5.out.mono ?_; rw [QEnd_eq]; rw [HXW.out]; rintro e V6 ⟨rfl, F2, hM6, hs6, hf6⟩; have HM6 := Lib.hid hM6; have HS6 := Lib.hid hs6; have HF6 := Lib.hid hf6; have HO6 := Lib.hid (own_at HO.out (fun y hy => hf6.block y (own_heap HO.out hy).2.1 (HNF.out y hy))); clear hM6 hs6 hf6)
        | (at_builtin; refine wpList_app uintsT rfl (.tmp 14) (.tmp 22) rfl (g + 1) (.slice Aj j cj) j (wj.map nv) rfl (own_far HO6.out (below_alloc _ _)) (some ⟨V6.heap.size, 0, none⟩) 1 1 [nv xw] rfl rfl (blk_cs (Blk.new V6 _ _)) (nv_one [xw]) (by unfold maxLen; omega) (by omega) (Nat.le_trans (Nat.le_trans HB.out.lt HF6.out.size) (below_alloc _ _).size) ?_; intro v7 w7 ho7 hg7 hat7; obtain ⟨A7, c7, rfl⟩ := own_sl ho7; have HO7 := Lib.hid ho7; have HG7 := Lib.hid hg7; have HA7 := Lib.hid hat7; clear ho7 hg7 hat7))
      go_roundw
      case rel =>
        have hnb : ∀ y, (Value.slice Aj j cj).ownBlock = some y → ¬ F2 y ∧ g < y ∧ y < wr.heap.size := fun y hy => by
          obtain ⟨y1, y2, _⟩ := own_heap HO.out hy
          refine ⟨fun h9 => ?_, y1, y2⟩
          rcases HS6.out y h9 with h8 | h8
          · exact HNF.out y hy h8
          · omega
        have hw0g : w0.heap.size ≤ g := by rw [← HG.out]; exact HM.out.old.size
        have hA6 := HM6.out.keep (below_alloc V6 (.cells #[nv xw] 34))
        refine ⟨j + 1, A7, c7, F2, by omega, by go_num, rfl, ?_, fun y hy h9 => ?_, ?_, fun y hy => ?_, ?_, ?_⟩
        · rw [HTK.out]
          simpa [HXW.out] using HO7.out
        · rcases HA7.out with h8 | h8
          · rw [h8] at hy; exact (hnb y hy).1 h9
          · rw [h8] at hy
            obtain rfl := Option.some.inj hy
            have h7 := (HM6.out.fresh _ h9).2
            have h6 := (below_alloc V6 (.cells #[.int .u64 (xw : Int)] 34)).size
            omega
        · rw [HTK.out]
          exact hA6.grow HG7.out (fun y hy => ⟨(hnb y hy).1, by have := (hnb y hy).2.1; omega⟩)
        · rcases HS6.out y hy with h8 | h8
          · exact HS.out y h8
          · exact .inr (Nat.lt_of_lt_of_le HB.out.lt h8)
        · exact ((HF.out.trans HF6.out (fun y hy h9 => by rcases HS.out y h9 with h8 | h8; exact h8; have := HG.out; omega)).same (Fr.alloc F V6 (.cells #[nv xw] 34))).trans (Fr.of_grown HG7.out (F := fun y => g < y) (fun y hy _ => (hnb y hy).2.1)) (fun y hy h9 => by have := HG.out; omega)
        · exact ((HF6.out.blk HB.out (fun h9 => by rcases HS.out g h9 with h8 | h8; exact (Nat.lt_irrefl g (by have := (HM.out.fresh g h8).2; have := HG.out; omega)); omega)).alloc _).grown HG7.out (fun e9 => by have := (hnb g e9.symm).2.1; omega)
      case measure => simp [intOf]; omega
    · obtain rfl : len = j := by omega
      have hd1 : decide (len < len) = false := by simp
      have htl : l.take len = l := List.take_of_length_le (by rw [HLEN.out]; exact Nat.le_refl _)
      rw [htl] at ho hM q1 q2 q3 q4 q5
      have hz := HZ.out
      obtain ⟨hb1, hb2, hb3⟩ : (wordsS st l).1.ws.length + 3 ≤ 100000 ∧ (wordsS st l).1.nm.length + 1 ≤ 100000 ∧ (wordsS st l).1.cs.length + 1 ≤ 100000 := by omega
      have hwl := wordsS_len st l
      rw [HLEN.out] at hwl
      have HLN2 := Lib.hid (wordsS_hlen l st HLN.out (by omega))
      have HOK2 := Lib.hid q1
      generalize (wordsS st l).1 = st2 at *
      generalize (wordsS st l).2 = ws at *
      obtain ⟨t0, t1, t2, t3⟩ := (⟨hB.cell 0, hB.cell 1, hB.cell 2, hB.cell 3⟩ : _ ∧ _ ∧ _ ∧ _)
      have HO2 := Lib.hid ho
      have HNF := Lib.hid hnF
      have HM2 := Lib.hid hM
      have HS2 : Hid (∀ x, F' x → F x ∨ W.heap.size ≤ x) := fun x hx => by rcases hs x hx with h9 | h9; exact .inl h9; exact .inr (by have := HG.out; omega)
      have HF2 := Lib.hid hf
      have HB2 := Lib.hid hB
      have HWL := Lib.hid hwl
      have WW := q5
      clear ho hnF hM hs hf hB hz htl q1 q2 q3 q4 q5 hwl hz1 hz2 hz3 HM1 HB1 HF1
      rcases head_cases HKB.out with ⟨rfl, a1, a2, -, -⟩ | ⟨rfl, -, a1, -, -⟩ | ⟨rfl | rfl, a1, a2, -, -⟩ | ⟨rfl, a1, a2, -⟩ | ⟨rfl, -, -⟩ | ⟨rfl, -, -, -⟩ | ⟨rfl, hl2, -, -⟩
      · have HE := Lib.hid (show headS st2 1 n s ws = (st2, leafW (u64N n) 0) from by (unfold headS; rw [if_neg (by decide)]; rw [if_neg (by decide)]; rw [if_neg (by decide)]; rw [if_neg (by decide)]; rw [if_neg (by decide)]; rw [if_neg (by decide)]; rw [if_neg (by decide)]))
        have HW := Lib.hid (shl_leaf n)
        go_wp2
        go_ret
        rw [HE.out]
        exact ⟨by rw [← HW.out]; rfl, F', HM2.out, HS2.out, HF2.out⟩
      · have HE := Lib.hid (show headS st2 2 n s ws = atomS st2 s from by (unfold headS; rw [if_pos rfl]))
        go_wp2_with (go_at_call 66; refine (ratom_v HM2.out s (by omega)).mono ?_; rintro e V3 ⟨rfl, h3⟩)
        go_ret
        rw [HE.out]
        exact QEnd.from_ ⟨rfl, h3⟩ HS2.out HF2.out
      · have HE := Lib.hid (show headS st2 3 n s ws = (st2, leafW (u64N n) 3) from by (unfold headS; rw [if_neg (by decide)]; rw [if_neg (by decide)]; rw [if_pos rfl]))
        have HW := Lib.hid (show n * 8 + 3 = ((leafW (u64N n) 3 : Nat) : Int) from by unfold leafW u64N; omega)
        go_wp2
        go_ret
        rw [HE.out]
        exact ⟨by rw [← HW.out]; rfl, F', HM2.out, HS2.out, HF2.out⟩
      · have HE := Lib.hid (show headS st2 5 n s ws = (st2, leafW (u64N n) 2) from by (unfold headS; rw [if_neg (by decide)]; rw [if_pos rfl]))
        have HW := Lib.hid (show n * 8 + 2 = ((leafW (u64N n) 2 : Nat) : Int) from by unfold leafW u64N; omega)
        go_wp2
        go_ret
        rw [HE.out]
        exact ⟨by rw [← HW.out]; rfl, F', HM2.out, HS2.out, HF2.out⟩
      · obtain ⟨m, rfl⟩ := Int.eq_ofNat_of_zero_le a1
        have HE := Lib.hid (show headS st2 4 m s ws = cellS st2 7 (m :: len :: ws) from by (unfold headS; rw [if_neg (by decide)]; rw [if_neg (by decide)]; rw [if_neg (by decide)]; rw [if_neg (by decide)]; rw [if_neg (by decide)]; rw [if_neg (by decide)]; rw [if_pos rfl]; rw [HWL.out]; rw [u64N_nat (by omega)]))
        have HO3 := Lib.hid (World.ownsRow_lit (base := g + 1) (e := 34) (size := 1) wr #[nv m, nv len] 2 HB2.out.lt (by unfold maxLen; omega) (by rfl))
        have HKA := Lib.hid (HM2.out.keep (below_alloc wr (.cells #[nv m, nv len] 34)))
        have HFA := Lib.hid (HF2.out.same (Fr.alloc F wr (.cells #[nv m, nv len] 34)))
        have hw0g : w0.heap.size ≤ g := by rw [← HG.out]; exact HM.out.old.size
        have HC := Lib.hid (fun (V6 : World) (b9 c9 : Nat) (hb : wr.heap.size ≤ b9) (ho : V6.ownsRow (g + 1) 34 1 (.slice (some ⟨b9, 0, none⟩) (2 + len) c9) (2 + len) ((#[nv m, nv len] : Array Value).toList ++ ws.map nv)) (hg : (wr.alloc (.cells #[nv m, nv len] 34)).grownBy V6 (some wr.heap.size)) => And.intro (rcell_v (HKA.out.grow hg (fun j hj => ⟨fun h9 => (by obtain rfl := Option.some.inj hj; exact Nat.lt_irrefl _ (HM2.out.fresh _ h9).2), by obtain rfl := Option.some.inj hj; exact HM2.out.old.size⟩)) HOK2.out HLN2.out 7 (by omega) (w := m :: len :: ws) (by simpa using ho) (fun h9 => by have := (HM2.out.fresh _ h9).2; omega) (by omega) (by omega) (by omega) (by omega)) (HFA.out.trans (Fr.of_grown hg (F := fun y => g < y) (fun y hy _ => by obtain rfl := Option.some.inj hy; exact HB2.out.lt)) (fun y hy h9 => by have := HG.out; omega)))
        clear hw0g
        go_wp2_with (first
          | (at_builtin; refine wpList_app uintsT rfl (.tmp 76) (.tmp 77) rfl (g + 1) (.slice (some ⟨wr.heap.size, 0, none⟩) 2 2) 2 (#[nv m, nv len] : Array Value).toList rfl HO3.out Aj len cj (ws.map nv) rfl (by rw [List.length_map, HWL.out, Nat.mul_one]) (own_cs (own_far HO2.out (below_alloc _ _))) (nv_one ws) (by unfold maxLen; omega) (by omega) (Nat.le_trans HB2.out.lt (below_alloc _ _).size) ?_; intro v7 w7 ho7 hg7 hat7; obtain ⟨b7, c7, rfl, hb7⟩ : ∃ b7 c7, v7 = .slice (some ⟨b7, 0, none⟩) (2 + len) c7 ∧ wr.heap.size ≤ b7 := own_new_at ho7 (by omega) hat7 (by simp); have HCC := Lib.hid (HC.out w7 b7 c7 hb7 ho7 hg7); clear ho7 hg7 hat7)
          | (go_at_call 67; refine HCC.out.1.mono ?_; rintro e V7 ⟨rfl, h7⟩))
        go_ret
        rw [HE.out]
        exact QEndC.from_ ⟨rfl, h7⟩ HS2.out HCC.out.2 (Nat.le_trans HF2.out.size hb7)
      · have HE := Lib.hid (show headS st2 6 n s ws = cellS st2 6 (len :: ws) from by (unfold headS; rw [if_neg (by decide)]; rw [if_neg (by decide)]; rw [if_neg (by decide)]; rw [if_neg (by decide)]; rw [if_neg (by decide)]; rw [if_pos rfl]; rw [HWL.out]))
        have HO3 := Lib.hid (World.ownsRow_lit (base := g + 1) (e := 34) (size := 1) wr #[nv len] 1 HB2.out.lt (by unfold maxLen; omega) (by rfl))
        have HKA := Lib.hid (HM2.out.keep (below_alloc wr (.cells #[nv len] 34)))
        have HFA := Lib.hid (HF2.out.same (Fr.alloc F wr (.cells #[nv len] 34)))
        have hw0g : w0.heap.size ≤ g := by rw [← HG.out]; exact HM.out.old.size
        have HC := Lib.hid (fun (V6 : World) (b9 c9 : Nat) (hb : wr.heap.size ≤ b9) (ho : V6.ownsRow (g + 1) 34 1 (.slice (some ⟨b9, 0, none⟩) (1 + len) c9) (1 + len) ((#[nv len] : Array Value).toList ++ ws.map nv)) (hg : (wr.alloc (.cells #[nv len] 34)).grownBy V6 (some wr.heap.size)) => And.intro (rcell_v (HKA.out.grow hg (fun j hj => ⟨fun h9 => (by obtain rfl := Option.some.inj hj; exact Nat.lt_irrefl _ (HM2.out.fresh _ h9).2), by obtain rfl := Option.some.inj hj; exact HM2.out.old.size⟩)) HOK2.out HLN2.out 6 (by omega) (w := len :: ws) (by simpa using ho) (fun h9 => by have := (HM2.out.fresh _ h9).2; omega) (by omega) (by omega) (by omega) (by omega)) (HFA.out.trans (Fr.of_grown hg (F := fun y => g < y) (fun y hy _ => by obtain rfl := Option.some.inj hy; exact HB2.out.lt)) (fun y hy h9 => by have := HG.out; omega)))
        clear hw0g
        go_wp2_with (first
          | (at_builtin; refine wpList_app uintsT rfl (.tmp 65) (.tmp 66) rfl (g + 1) (.slice (some ⟨wr.heap.size, 0, none⟩) 1 1) 1 (#[nv len] : Array Value).toList rfl HO3.out Aj len cj (ws.map nv) rfl (by rw [List.length_map, HWL.out, Nat.mul_one]) (own_cs (own_far HO2.out (below_alloc _ _))) (nv_one ws) (by unfold maxLen; omega) (by omega) (Nat.le_trans HB2.out.lt (below_alloc _ _).size) ?_; intro v7 w7 ho7 hg7 hat7; obtain ⟨b7, c7, rfl, hb7⟩ : ∃ b7 c7, v7 = .slice (some ⟨b7, 0, none⟩) (1 + len) c7 ∧ wr.heap.size ≤ b7 := own_new_at ho7 (by omega) hat7 (by simp); have HCC := Lib.hid (HC.out w7 b7 c7 hb7 ho7 hg7); clear ho7 hg7 hat7)
          | (go_at_call 67; refine HCC.out.1.mono ?_; rintro e V7 ⟨rfl, h7⟩))
        go_ret
        rw [HE.out]
        exact QEndC.from_ ⟨rfl, h7⟩ HS2.out HCC.out.2 (Nat.le_trans HF2.out.size hb7)
      · have HE := Lib.hid (show headS st2 7 n s ws = (st2, 4) from by (unfold headS; rw [if_neg (by decide)]; rw [if_neg (by decide)]; rw [if_neg (by decide)]; rw [if_pos rfl]))
        go_wp2
        go_ret
        rw [HE.out]
        exact ⟨rfl, F', HM2.out, HS2.out, HF2.out⟩
      · have HE := Lib.hid (show headS st2 8 n s ws = cellS st2 5 ws from by (unfold headS; rw [if_neg (by decide)]; rw [if_neg (by decide)]; rw [if_neg (by decide)]; rw [if_neg (by decide)]; rw [if_pos rfl]))
        obtain ⟨b7, c7, hb7⟩ : ∃ b7 c7, Value.slice Aj len cj = .slice (some ⟨b7, 0, none⟩) len c7 := by
          rcases HO2.out.2 with ⟨_, h9⟩ | ⟨b, c, cur, h9, _⟩
          · omega
          · exact ⟨b, c, h9⟩
        obtain ⟨rfl, _, rfl⟩ := Value.slice.inj hb7
        have hbW : W.heap.size ≤ b7 := by have h9 := (own_heap HO2.out (k := b7) rfl).1; have := HG.out; omega
        have hw0g : w0.heap.size ≤ g + 1 := by have h9 := HM.out.old.size; have := HG.out; omega
        have HC := Lib.hid (rcell_v HM2.out HOK2.out HLN2.out 5 (by omega) HO2.out (HNF.out b7 rfl) hw0g (by omega) (by omega) (by omega))
        clear hw0g hb7 hl2
        go_wp2_with (go_at_call 67; refine HC.out.mono ?_; rintro e V7 ⟨rfl, h7⟩)
        go_ret
        rw [HE.out]
        exact QEndC.from_ ⟨rfl, h7⟩ HS2.out HF2.out hbW
end
end Go.Proofs.Ytefnjplfemgibaa
