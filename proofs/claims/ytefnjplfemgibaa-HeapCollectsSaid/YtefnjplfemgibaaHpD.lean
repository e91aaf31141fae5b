/- Heap (layer 9): the walk of the maker's word. Written by hpgend.py. -/
import Derived.Test.YtefnjplfemgibaaHpC
namespace Go.Proofs.Ytefnjplfemgibaa
open Go.RowKit
set_option linter.unusedVariables false

theorem wrap_u64N (n : Int) : IntKind.u64.wrap n = ((u64N n : Nat) : Int) := by
  have : IntKind.u64.wrap n = n % 18446744073709551616 := by simp only [IntKind.wrap, IntKind.bits, IntKind.signed]; simp
  rw [this]
  unfold u64N
  omega
theorem u64N_nat {m : Nat} (h : m < 18446744073709551616) : u64N (m : Int) = m := by unfold u64N; omega
section
variable {w0 W V V' : World} {F F2 : Nat → Prop} {pm b1 b2 : Nat} {st : HSt} {rs : Value × List Nat}
theorem MK.old (h : MK w0 W F pm b1 b2 st rs) : Below w0.heap.size w0 W := by obtain ⟨vw, va, h⟩ := h; exact h.old
theorem MK.fresh (h : MK w0 W F pm b1 b2 st rs) : ∀ k, F k → w0.heap.size ≤ k ∧ k < W.heap.size := by obtain ⟨vw, va, h⟩ := h; exact h.fresh
theorem MK.grow {row : Option Nat} (h : MK w0 W F pm b1 b2 st rs) (hg : W.grownBy V row) (hr : ∀ j, row = some j → ¬ F j ∧ w0.heap.size ≤ j) : MK w0 V F pm b1 b2 st rs :=
  h.far hg.size (fun k hk => hg.block k (h.fresh k hk).2 (fun e => (hr k e.symm).1 hk)) (h.old.trans ⟨hg.os, hg.tape, hg.output, hg.size, fun k hk => hg.block k (Nat.lt_of_lt_of_le hk h.old.size) (fun e => by have := (hr k e.symm).2; omega)⟩)
theorem MEnd.from_ {r : HSt × Nat} {e : Ending} {W' : World} (h : MEnd w0 V F2 pm b1 b2 r rs e W') (hs : ∀ k, F2 k → F k ∨ W.heap.size ≤ k) (hf : Fr F W V) : MEnd w0 W F pm b1 b2 r rs e W' := by
  obtain ⟨he, F3, h1, h2, h3⟩ := h
  refine ⟨he, F3, h1, fun k hk => ?_, hf.trans h3 (fun k hk h9 => by rcases hs k h9 with h9 | h9; exact h9; omega)⟩
  rcases h2 k hk with h9 | h9
  · exact hs k h9
  · exact .inr (Nat.le_trans hf.size h9)
theorem MEnd_eq (w0 W : World) (F : Nat → Prop) (pm b1 b2 : Nat) (r : HSt × Nat) (rs : Value × List Nat) : MEnd w0 W F pm b1 b2 r rs = fun e W' => e = .returned (.int .u64 ((r.2 : Nat) : Int)) ∧ ∃ F', MK w0 W' F' pm b1 b2 r.1 rs ∧ (∀ k, F' k → F k ∨ W.heap.size ≤ k) ∧ Fr F W W' := rfl
def WItem (w0 : World) (pm b1 b2 : Nat) (rs : Value × List Nat) (l : List TV) : Prop := ∀ (i : Nat) (h : i < l.length) (A' : Option Addr) (c' : Nat) (st : HSt) (F : Nat → Prop) (W : World), RdM w0 A' c' l[i].items → MK w0 W F pm b1 b2 st rs → HOk st → st.ws.length + 3 * l[i].parts ≤ 100000 → st.nm.length + l[i].parts ≤ 100000 → st.cs.length + l[i].parts ≤ 100000 →
  Calls Try.prog 33 #[.pointer (some ⟨pm, 0, none⟩), .agg #[.int .i64 l[i].kind, .int .i64 l[i].int, .string ⟨l[i].name.toArray⟩, .slice A' l[i].items.length c']] W (MEnd w0 W F pm b1 b2 (wordS st l[i]) rs)

set_option maxRecDepth 100000 in
set_option maxHeartbeats 4000000 in
theorem word_loop (k n : Int) (s : List UInt8) (l : List TV) (A : Option Addr) (len c : Nat) (st : HSt) (F : Nat → Prop) (W : World) (hlen : l.length = len) (hlc : len ≤ 10000) (hk : headB k n s len = true) (hL : TV.isL l = true) (hR : RdM w0 A c l) (hM : MK w0 W F pm b1 b2 st rs) (hok : HOk st)
    (hz1 : st.ws.length + 3 * (TV.partsL l + 1) ≤ 100000) (hz2 : st.nm.length + (TV.partsL l + 1) ≤ 100000) (hz3 : st.cs.length + (TV.partsL l + 1) ≤ 100000) (hit : WItem w0 pm b1 b2 rs l) :
    Calls Try.prog 33 #[.pointer (some ⟨pm, 0, none⟩), .agg #[.int .i64 k, .int .i64 n, .string ⟨s.toArray⟩, .slice A len c]] W (MEnd w0 W F pm b1 b2 (headS (wordsS st l).1 k n s (wordsS st l).2) rs) := by
  have HLEN := Lib.hid hlen
  have HR := Lib.hid hR
  have HM := Lib.hid hM
  have HOK := Lib.hid hok
  have HIT := Lib.hid hit
  have HZ := Lib.hid (And.intro hz1 (And.intro hz2 hz3))
  have HKB := Lib.hid hk
  obtain ⟨g, hg⟩ : ∃ g, W.heap.size = g := ⟨_, rfl⟩
  have HG := Lib.hid hg
  clear hlen hR hM hok hit hk hL
  go_enter Try.func33, Try.ntmps33
  go_upto_region 2 with (fail)
  refine wp_world (fun V => MK w0 V F pm b1 b2 st rs ∧ Blk V g 37 #[.int .i64 k, .int .i64 n, .string ⟨s.toArray⟩, .slice A len c] ∧ Fr F W V) ⟨HM.out.keep (below_alloc _ _), by rw [← HG.out]; exact Blk.new _ _ _, Fr.alloc F W _⟩ ?_
  rintro V ⟨h1, h2, h3⟩
  have HM1 := Lib.hid h1
  have HB1 := Lib.hid h2
  have HF1 := Lib.hid h3
  have t3 := h2.cell 3
  clear h1 h2 h3 hg
  go_wp2
  clear t3
  go_loopw [5, 12] (fun v i wr => ∃ (j : Nat) (Aj : Option Addr) (cj : Nat) (F' : Nat → Prop), j ≤ len ∧ i = .int .i64 j ∧ v = .slice Aj j cj ∧ wr.ownsRow (g + 1) 34 1 (.slice Aj j cj) j ((wordsS st (l.take j)).2.map nv) ∧ (∀ x, (Value.slice Aj j cj).ownBlock = some x → ¬ F' x) ∧ MK w0 wr F' pm b1 b2 (wordsS st (l.take j)).1 rs ∧ (∀ x, F' x → F x ∨ g < x) ∧ Fr F W wr ∧ Blk wr g 37 #[.int .i64 k, .int .i64 n, .string ⟨s.toArray⟩, .slice A len c]) (fun _ i _ => len - (intOf i).toNat)
  case atStart =>
    exact ⟨0, none, 0, F, Nat.zero_le _, rfl, rfl, (by simpa [wordsS_nil] using World.ownsRow_nil _ _ _ _), (fun x hx => by cases hx), (by simpa [wordsS_nil] using HM1.out), (fun x hx => .inl hx), HF1.out, HB1.out⟩
  case round =>
    obtain ⟨j, Aj, cj, F', hj, rfl, rfl, ho, hnF, hM, hs, hf, hB⟩ := hrel
    have hgw : g < wr.heap.size := hB.lt
    obtain ⟨⟨q1, q2, q3, q4⟩, q5⟩ := wordsS_ok (l.take j) st HOK.out (by have := HZ.out; have := partsL_take_le l j; omega) (by have := HZ.out; have := partsL_take_le l j; omega)
    by_cases hlt : j < len
    · have hd1 : decide (j < len) = true := by simp; omega
      have hkl : j < l.length := by rw [HLEN.out]; exact hlt
      obtain ⟨b, o, A', c', rfl, e0', e1', e2', e3', hR'⟩ := HR.out.item hkl
      have e0 := (hM.old.cell (World.block_lt_of_cell? w0 _ e0')).trans e0'
      have e1 := (hM.old.cell (World.block_lt_of_cell? w0 _ e1')).trans e1'
      have e2 := (hM.old.cell (World.block_lt_of_cell? w0 _ e2')).trans e2'
      have e3 := (hM.old.cell (World.block_lt_of_cell? w0 _ e3')).trans e3'
      have htk := wordsS_take st l j hkl
      have hpt := partsL_take l j hkl
      have hpl := partsL_take_le l (j + 1)
      have hz := HZ.out
      rw [List.length_take, Nat.min_eq_left (by omega)] at q2
      have HIH := Lib.hid (fun (V5 : World) (hM5 : MK w0 V5 F' pm b1 b2 (wordsS st (l.take j)).1 rs) => HIT.out j hkl A' c' (wordsS st (l.take j)).1 F' V5 hR' hM5 q1 (by omega) (by omega) (by omega))
      have HTK := Lib.hid htk
      clear e0' e1' e2' e3' htk hpt hpl hz hR' q1 q2 q3 q4 q5
      generalize l[j] = ti at *
      generalize hsj : (wordsS st (l.take j)).1 = sj at *
      generalize hwj : (wordsS st (l.take j)).2 = wj at *
      obtain ⟨xw, hxw⟩ : ∃ xw, (wordS sj ti).2 = xw := ⟨_, rfl⟩
      have HXW := Lib.hid hxw
      have HO := Lib.hid ho
      have HNF := Lib.hid hnF
      have HMj := Lib.hid hM
      have HS := Lib.hid hs
      have HF := Lib.hid hf
      have HB := Lib.hid hB
      clear ho hnF hM hs hf hB hxw hsj hwj hkl
      have hq1 : (0 : Int) ≤ (j : Int) := by omega
      have hq2 : (j : Int) < (len : Int) := by omega
      obtain ⟨gx, hgx⟩ : ∃ gx, wr.heap.size = gx := ⟨_, rfl⟩
      go_upto_region 5 with (fail)
      refine wp_world (fun V => MK w0 V F' pm b1 b2 sj rs ∧ V.ownsRow (g + 1) 34 1 (.slice Aj j cj) j (wj.map nv) ∧ Fr F W V ∧ Blk V g 37 #[.int .i64 k, .int .i64 n, .string ⟨s.toArray⟩, .slice (some ⟨b, o, none⟩) len c] ∧ Blk V gx 37 #[.int .i64 ti.kind, .int .i64 ti.int, .string ⟨ti.name.toArray⟩, .slice A' ti.items.length c'] ∧ V.heap.size = gx + 1) ⟨HMj.out.keep (below_alloc _ _), own_far HO.out (below_alloc _ _), HF.out.same (Fr.alloc F _ _), HB.out.alloc _, by rw [← hgx]; exact Blk.new _ _ _, by rw [← hgx]; simp⟩ ?_
      clear HMj HF HB e0 e1 e2 e3
      rintro V5 ⟨hM5, ho5, hf5, hB5, hx5, hsz5⟩
      have HO5 := Lib.hid ho5
      have HF5 := Lib.hid hf5
      have HB5 := Lib.hid hB5
      have HSZ5 := Lib.hid hsz5
      have HC5 := Lib.hid (HIH.out V5 hM5)
      have HFR := Lib.hid hM5.fresh
      have x0 := hx5.cell 0
      have x1 := hx5.cell 1
      have x2 := hx5.cell 2
      have x3 := hx5.cell 3
      clear hM5 ho5 hf5 hB5 hx5 hsz5 HIH
      go_wp2_with (first
        | (go_at_call 33; refine HC5.out.mono ?_; rw [MEnd_eq]; rw [HXW.out]; rintro e V6 ⟨rfl, F2, hM6, hs6, hf6⟩; have HM6 := Lib.hid hM6; have HS6 := Lib.hid hs6; have HF6 := Lib.hid hf6; have HO6 := Lib.hid (own_at HO5.out (fun y hy => hf6.block y (own_heap HO5.out hy).2.1 (HNF.out y hy))); clear hM6 hs6 hf6)
        | (at_builtin; refine wpList_app uintsT rfl (.tmp 16) (.tmp 20) rfl (g + 1) (.slice Aj j cj) j (wj.map nv) rfl (own_far HO6.out (below_alloc _ _)) (some ⟨V6.heap.size, 0, none⟩) 1 1 [nv xw] rfl rfl (blk_cs (Blk.new V6 _ _)) (nv_one [xw]) (by unfold maxLen; omega) (by omega) (Nat.le_trans (Nat.le_trans HB5.out.lt HF6.out.size) (below_alloc _ _).size) ?_; intro v7 w7 ho7 hg7 hat7; obtain ⟨A7, c7, rfl⟩ := own_sl ho7; have HO7 := Lib.hid ho7; have HG7 := Lib.hid hg7; have HA7 := Lib.hid hat7; clear ho7 hg7 hat7))
      go_roundw
      case rel =>
        have hnb : ∀ y, (Value.slice Aj j cj).ownBlock = some y → ¬ F2 y ∧ g < y ∧ y < V5.heap.size := fun y hy => by
          obtain ⟨y1, y2, _⟩ := own_heap HO5.out hy
          refine ⟨fun h9 => ?_, y1, y2⟩
          rcases HS6.out y h9 with h8 | h8
          · exact HNF.out y hy h8
          · omega
        have hw0g : w0.heap.size ≤ g := by rw [← HG.out]; exact HM.out.old.size
        have hA6 := HM6.out.keep (below_alloc V6 (.cells #[nv xw] 34))
        refine ⟨j + 1, A7, c7, F2, by omega, by go_num, rfl, ?_, fun y hy h9 => ?_, ?_, fun y hy => ?_, ?_, ?_⟩
        · rw [HTK.out]
          simpa [HXW.out] using HO7.out
        · rcases HA7.out with h8 | h8
          · rw [h8] at hy; exact (hnb y hy).1 h9
          · rw [h8] at hy
            obtain rfl := Option.some.inj hy
            have h7 := (HM6.out.fresh _ h9).2
            have h6 := (below_alloc V6 (.cells #[.int .u64 (xw : Int)] 34)).size
            omega
        · rw [HTK.out]
          exact hA6.grow HG7.out (fun y hy => ⟨(hnb y hy).1, by have := (hnb y hy).2.1; omega⟩)
        · rcases HS6.out y hy with h8 | h8
          · exact HS.out y h8
          · exact .inr (by have := HSZ5.out; omega)
        · exact ((HF5.out.trans HF6.out (fun y hy h9 => by rcases HS.out y h9 with h8 | h8; exact h8; have := HG.out; omega)).same (Fr.alloc F V6 (.cells #[nv xw] 34))).trans (Fr.of_grown HG7.out (F := fun y => g < y) (fun y hy _ => (hnb y hy).2.1)) (fun y hy h9 => by have := HG.out; omega)
        · exact ((HF6.out.blk HB5.out (fun h9 => by rcases HS.out g h9 with h8 | h8; exact (Nat.lt_irrefl g (by have := (HM.out.fresh g h8).2; have := HG.out; omega)); omega)).alloc _).grown HG7.out (fun e9 => by have := (hnb g e9.symm).2.1; omega)
      case measure => simp [intOf]; omega
    · obtain rfl : len = j := by omega
      have hd1 : decide (len < len) = false := by simp
      have htl : l.take len = l := List.take_of_length_le (by rw [HLEN.out]; exact Nat.le_refl _)
      rw [htl] at ho hM q1 q2 q3 q4 q5
      have hz := HZ.out
      obtain ⟨hb1, hb2, hb3⟩ : (wordsS st l).1.ws.length + 3 ≤ 100000 ∧ (wordsS st l).1.nm.length + 1 ≤ 100000 ∧ (wordsS st l).1.cs.length + 1 ≤ 100000 := by omega
      have hwl := wordsS_len st l
      rw [HLEN.out] at hwl
      generalize (wordsS st l).1 = st2 at *
      generalize (wordsS st l).2 = ws at *
      obtain ⟨t0, t1, t2, t3⟩ := (⟨hB.cell 0, hB.cell 1, hB.cell 2, hB.cell 3⟩ : _ ∧ _ ∧ _ ∧ _)
      have HO2 := Lib.hid ho
      have HNF := Lib.hid hnF
      have HM2 := Lib.hid hM
      have HS2 : Hid (∀ x, F' x → F x ∨ W.heap.size ≤ x) := fun x hx => by rcases hs x hx with h9 | h9; exact .inl h9; exact .inr (by have := HG.out; omega)
      have HF2 := Lib.hid hf
      have HB2 := Lib.hid hB
      have HWL := Lib.hid hwl
      have WW := q5
      clear ho hnF hM hs hf hB hz htl q1 q2 q3 q4 q5 hwl hz1 hz2 hz3 HM1 HB1 HF1
      rcases head_cases HKB.out with ⟨rfl, a1, a2, -, -⟩ | ⟨rfl, -, a1, -, -⟩ | ⟨rfl | rfl, a1, a2, -, -⟩ | ⟨rfl, a1, a2, -⟩ | ⟨rfl, -, -⟩ | ⟨rfl, -, -, -⟩ | ⟨rfl, -, -, -⟩
      · have HE := Lib.hid (show headS st2 1 n s ws = (st2, leafW (u64N n) 0) from by (unfold headS; rw [if_neg (by decide)]; rw [if_neg (by decide)]; rw [if_neg (by decide)]; rw [if_neg (by decide)]; rw [if_neg (by decide)]; rw [if_neg (by decide)]; rw [if_neg (by decide)]))
        have HW := Lib.hid ((by have h := hword_v (u64N n) 0 (u64N_lt n) (by omega); rw [← wrap_u64N n] at h; exact h : ∀ W : World, Calls Try.prog 62 #[.int .u64 (IntKind.u64.wrap n), .int .i64 ((0 : Nat) : Int)] W _))
        go_wp2_with (go_at_call 62; refine (HW.out _).mono ?_; rintro e V3 ⟨rfl, rfl⟩)
        go_ret
        rw [HE.out]
        exact ⟨rfl, F', HM2.out, HS2.out, HF2.out⟩
      · have HE := Lib.hid (show headS st2 2 n s ws = atomS st2 s from by (unfold headS; rw [if_pos rfl]))
        go_wp2_with (go_at_call 61; refine (matom_v HM2.out s (by omega) (by omega)).mono ?_; rintro e V3 ⟨rfl, h3⟩)
        go_ret
        rw [HE.out]
        exact MEnd.from_ ⟨rfl, h3⟩ HS2.out HF2.out
      · obtain ⟨m, rfl⟩ := Int.eq_ofNat_of_zero_le a1
        have HE := Lib.hid (show headS st2 3 m s ws = (st2, leafW m 3) from by (unfold headS; rw [if_neg (by decide)]; rw [if_neg (by decide)]; rw [if_pos rfl]; rw [u64N_nat (by omega)]))
        have HW := Lib.hid (hword_v m 3 (by omega) (by omega))
        go_wp2_with (go_at_call 62; refine (HW.out _).mono ?_; rintro e V3 ⟨rfl, rfl⟩)
        go_ret
        rw [HE.out]
        exact ⟨rfl, F', HM2.out, HS2.out, HF2.out⟩
      · obtain ⟨m, rfl⟩ := Int.eq_ofNat_of_zero_le a1
        have HE := Lib.hid (show headS st2 5 m s ws = (st2, leafW m 2) from by (unfold headS; rw [if_neg (by decide)]; rw [if_pos rfl]; rw [u64N_nat (by omega)]))
        have HW := Lib.hid (hword_v m 2 (by omega) (by omega))
        go_wp2_with (go_at_call 62; refine (HW.out _).mono ?_; rintro e V3 ⟨rfl, rfl⟩)
        go_ret
        rw [HE.out]
        exact ⟨rfl, F', HM2.out, HS2.out, HF2.out⟩
      · obtain ⟨m, rfl⟩ := Int.eq_ofNat_of_zero_le a1
        have HE := Lib.hid (show headS st2 4 m s ws = cellS st2 7 (m :: len :: ws) from by (unfold headS; rw [if_neg (by decide)]; rw [if_neg (by decide)]; rw [if_neg (by decide)]; rw [if_neg (by decide)]; rw [if_neg (by decide)]; rw [if_neg (by decide)]; rw [if_pos rfl]; rw [HWL.out]; rw [u64N_nat (by omega)]))
        have HI := Lib.hid (insert_v (B := g + 1) (n := len) (c := cj) (m := 2) (g := wr.heap.size) (A := Aj) (xs := ws.map nv) (vs := [nv m, nv len]) (W := wr.alloc (.cells #[.int .u64 ((m : Nat) : Int), .int .u64 ((len : Nat) : Int)] 34)) (own_far HO2.out (below_alloc _ _)) (Blk.new _ _ _) rfl (by omega) (nv_one ws) (nv_one [m, len]) (fun j hj => Nat.ne_of_lt (own_heap HO2.out hj).2.1) (by omega) (Nat.le_trans HB2.out.lt (below_alloc _ _).size))
        have HKA := Lib.hid (HM2.out.keep (below_alloc wr (.cells #[.int .u64 ((m : Nat) : Int), .int .u64 ((len : Nat) : Int)] 34)))
        have HFA := Lib.hid (HF2.out.same (Fr.alloc F wr (.cells #[.int .u64 ((m : Nat) : Int), .int .u64 ((len : Nat) : Int)] 34)))
        have hw0g : w0.heap.size ≤ g := by rw [← HG.out]; exact HM.out.old.size
        have HC := Lib.hid (fun (V6 : World) (A9 : Option Addr) (c9 : Nat) (ho : V6.ownsRow (g + 1) 34 1 (.slice A9 (len + 2) c9) (len + 2) ([nv m, nv len] ++ ws.map nv)) (hg : (wr.alloc (.cells #[.int .u64 ((m : Nat) : Int), .int .u64 ((len : Nat) : Int)] 34)).grownBy V6 (Value.slice Aj len cj).ownBlock) => And.intro (mcell_v (HKA.out.grow hg (fun j hj => ⟨HNF.out j hj, by have h9 := (own_heap HO2.out hj).1; omega⟩)) 7 (by omega) (w := m :: len :: ws) (by simpa using ho) (by intro x hx; simp only [List.mem_cons] at hx; rcases hx with rfl | rfl | hx; omega; omega; exact WW x hx) (by omega) (by omega) (by omega)) (HFA.out.trans (Fr.of_grown hg (F := fun y => g < y) (fun y hy _ => (own_heap HO2.out hy).1)) (fun y hy h9 => by have := HG.out; omega)))
        clear hw0g
        go_wp2_with (first
          | (go_at_call 64; refine HI.out.mono ?_; rintro e V6 ⟨A9, c9, rfl, ho6, hg6⟩; have HCC := Lib.hid (HC.out V6 A9 c9 ho6 hg6); clear ho6 hg6)
          | (go_at_call 63; refine HCC.out.1.mono ?_; rintro e V7 ⟨rfl, h7⟩))
        go_ret
        rw [HE.out]
        exact MEnd.from_ ⟨rfl, h7⟩ HS2.out HCC.out.2
      · have HE := Lib.hid (show headS st2 6 n s ws = cellS st2 6 (len :: ws) from by (unfold headS; rw [if_neg (by decide)]; rw [if_neg (by decide)]; rw [if_neg (by decide)]; rw [if_neg (by decide)]; rw [if_neg (by decide)]; rw [if_pos rfl]; rw [HWL.out]))
        have HI := Lib.hid (insert_v (B := g + 1) (n := len) (c := cj) (m := 1) (g := wr.heap.size) (A := Aj) (xs := ws.map nv) (vs := [nv len]) (W := wr.alloc (.cells #[.int .u64 ((len : Nat) : Int)] 34)) (own_far HO2.out (below_alloc _ _)) (Blk.new _ _ _) rfl (by omega) (nv_one ws) (nv_one [len]) (fun j hj => Nat.ne_of_lt (own_heap HO2.out hj).2.1) (by omega) (Nat.le_trans HB2.out.lt (below_alloc _ _).size))
        have HKA := Lib.hid (HM2.out.keep (below_alloc wr (.cells #[.int .u64 ((len : Nat) : Int)] 34)))
        have HFA := Lib.hid (HF2.out.same (Fr.alloc F wr (.cells #[.int .u64 ((len : Nat) : Int)] 34)))
        have hw0g : w0.heap.size ≤ g := by rw [← HG.out]; exact HM.out.old.size
        have HC := Lib.hid (fun (V6 : World) (A9 : Option Addr) (c9 : Nat) (ho : V6.ownsRow (g + 1) 34 1 (.slice A9 (len + 1) c9) (len + 1) ([nv len] ++ ws.map nv)) (hg : (wr.alloc (.cells #[.int .u64 ((len : Nat) : Int)] 34)).grownBy V6 (Value.slice Aj len cj).ownBlock) => And.intro (mcell_v (HKA.out.grow hg (fun j hj => ⟨HNF.out j hj, by have h9 := (own_heap HO2.out hj).1; omega⟩)) 6 (by omega) (w := len :: ws) (by simpa using ho) (by intro x hx; simp only [List.mem_cons] at hx; rcases hx with rfl | hx; omega; exact WW x hx) (by omega) (by omega) (by omega)) (HFA.out.trans (Fr.of_grown hg (F := fun y => g < y) (fun y hy _ => (own_heap HO2.out hy).1)) (fun y hy h9 => by have := HG.out; omega)))
        clear hw0g
        go_wp2_with (first
          | (go_at_call 64; refine HI.out.mono ?_; rintro e V6 ⟨A9, c9, rfl, ho6, hg6⟩; have HCC := Lib.hid (HC.out V6 A9 c9 ho6 hg6); clear ho6 hg6)
          | (go_at_call 63; refine HCC.out.1.mono ?_; rintro e V7 ⟨rfl, h7⟩))
        go_ret
        rw [HE.out]
        exact MEnd.from_ ⟨rfl, h7⟩ HS2.out HCC.out.2
      · have HE := Lib.hid (show headS st2 7 n s ws = (st2, 4) from by (unfold headS; rw [if_neg (by decide)]; rw [if_neg (by decide)]; rw [if_neg (by decide)]; rw [if_pos rfl]))
        have HW := Lib.hid (hword_v 0 4 (by omega) (by omega))
        go_wp2_with (go_at_call 62; refine (HW.out _).mono ?_; rintro e V3 ⟨rfl, rfl⟩)
        go_ret
        rw [HE.out]
        exact ⟨rfl, F', HM2.out, HS2.out, HF2.out⟩
      · have HE := Lib.hid (show headS st2 8 n s ws = cellS st2 5 ws from by (unfold headS; rw [if_neg (by decide)]; rw [if_neg (by decide)]; rw [if_neg (by decide)]; rw [if_neg (by decide)]; rw [if_pos rfl]))
        go_wp2_with (go_at_call 63; refine (mcell_v HM2.out 5 (by omega) HO2.out WW (by omega) (by omega) (by omega)).mono ?_; rintro e V3 ⟨rfl, h3⟩)
        go_ret
        rw [HE.out]
        exact MEnd.from_ ⟨rfl, h3⟩ HS2.out HF2.out
end
end Go.Proofs.Ytefnjplfemgibaa
