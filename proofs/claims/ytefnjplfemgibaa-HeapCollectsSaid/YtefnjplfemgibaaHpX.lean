/- Heap (layer 9): small. Heap (layer 9), plain laws: what is laid once stays; what was laid is read. No function of the program is named here. Heap (layer 9): plain facts of what is laid: sizes, names; the same just of the same terms; all of a heap's roots. -/
import Derived.Test.YtefnjplfemgibaaHpQ
import Derived.Test.YtefnjplfemgibaaHpO
import Derived.Test.YtefnjplfemgibaaHpW
namespace Go.Proofs.Ytefnjplfemgibaa
section
open Go.RowKit
set_option linter.unusedVariables false

theorem textSumV_succ (ss : List (List UInt8)) (k : Nat) (h : k < ss.length) : textSum (ss.take (k + 1)) = textSum (ss.take k) + ss[k].length := by
  unfold textSum
  rw [List.take_succ_eq_append_getElem h, List.map_append, List.sum_append]
  simp
theorem textSumV_le (l : List (List UInt8)) (k : Nat) (h : ∀ s ∈ l, s.length ≤ 140737488351232) : textSum (l.take k) ≤ k * 140737488351232 := by
  induction k with
  | zero => simp [textSum]
  | succ k ih =>
    by_cases hk : k < l.length
    · rw [textSumV_succ l k hk]
      have := h _ (List.getElem_mem hk)
      omega
    · have : textSum (l.take (k + 1)) = textSum (l.take k) := by
        rw [List.take_of_length_le (by omega), List.take_of_length_le (by omega)]
      omega

set_option maxHeartbeats 400000 in
def smallH (ws : List Nat) (nm : List (List UInt8)) (rs : List Nat) : Bool := decide (nm.length ≤ 5000 ∧ ws.length ≤ 5000 ∧ rs.length ≤ 5000 ∧ textSum nm ≤ 20000)
section
variable {W W' : World} {Aw Aa Ar : Option Addr} {lw cw la ca lr cr : Nat} {ws rs : List Nat} {nm : List (List UInt8)}
set_option maxRecDepth 100000 in
set_option maxHeartbeats 4000000 in
theorem small_v (W : World) (h : HRd W Aw lw cw Aa la ca Ar lr cr ws nm rs) (hs : ∀ s ∈ nm, s.length ≤ 140737488351232) :
    Calls Try.prog 14 #[.agg #[.slice Aw lw cw, .slice Aa la ca, .slice Ar lr cr]] W fun e W' => e = .returned (.bool (smallH ws nm rs)) ∧ Below W.heap.size W W' := by
  have HH := Lib.hid h
  have HS := Lib.hid hs
  have HSM : Hid (smallH ws nm rs = decide (la ≤ 5000 ∧ lw ≤ 5000 ∧ lr ≤ 5000 ∧ textSum nm ≤ 20000)) := Lib.hid (by unfold smallH; rw [h.hlw, h.hla, h.hlr])
  have hcl := h.hca
  clear h hs
  obtain ⟨g, hg⟩ : ∃ g, W.heap.size = g := ⟨_, rfl⟩
  have HG := Lib.hid hg
  go_enter Try.func14, Try.ntmps14
  go_upto_region 1 with (fail)
  refine wp_world (fun V => Below W.heap.size W V ∧ Blk V g 29 #[.slice Aw lw cw, .slice Aa la ca, .slice Ar lr cr]) ⟨below_alloc _ _, by rw [← HG.out]; exact Blk.new _ _ _⟩ ?_
  rintro V0 ⟨hb, hk⟩
  have HB0 := Lib.hid hb
  have x0 := hk.cell 0
  have x1 := hk.cell 1
  have x2 := hk.cell 2
  have HRA := Lib.hid (HH.out.a.rdt.below hb)
  clear hb hk hg
  by_cases h1 : la ≤ 5000
  rotate_left
  · have HE := Lib.hid (show smallH ws nm rs = false by rw [HSM.out]; exact decide_eq_false (fun h9 => h1 h9.1))
    have e1 : decide (la ≤ 5000) = false := decide_eq_false h1
    have e2 : decide ((la : Int) ≤ 5000) = false := decide_eq_false (by omega)
    clear HSM
    go_wp2
    go_loopw [3, 4] (fun nv iv wr => ∃ k : Nat, k ≤ la ∧ k ≤ 5001 ∧ nv = .int .i64 (textSum (nm.take k) : Nat) ∧ iv = .int .i64 k ∧ wr = V0) (fun _ iv _ => 6000 - (intOf iv).toNat)
    case atStart => exact ⟨0, Nat.zero_le _, Nat.zero_le _, by simp [textSum], rfl, rfl⟩
    case round =>
      obtain ⟨k, hk, hk5, rfl, rfl, rfl⟩ := hrel
      by_cases hlt : k < la
      · have d1 : decide (k < la) = true := by simp; omega
        by_cases hle : k ≤ 5000
        · have d2 : decide ((k : Int) ≤ 5000) = true := by simp; omega
          have d3 : decide (k ≤ 5000) = true := by simp; omega
          have hkl : k < nm.length := by rw [HH.out.hla]; exact hlt
          obtain ⟨b, off, rfl, hcell⟩ := HRA.out.at_ (k := k) hkl
          have HT := Lib.hid (textSumV_succ nm k hkl)
          have hts := textSumV_le nm k HS.out
          have hsk := HS.out _ (List.getElem_mem hkl)
          have hq1 : (0 : Int) ≤ (k : Int) := by omega
          have hq2 : (k : Int) < (la : Int) := by omega
          generalize nm[k] = x at *
          have hxs : (⟨x.toArray⟩ : ByteArray).size = x.length := by simp [ByteArray.size]
          generalize hn : textSum (nm.take k) = n at *
          have hw1 : wrap64 ((n : Int) + (x.length : Int)) = ((n + x.length : Nat) : Int) := by unfold wrap64; omega
          have hw2 : wrap64 ((k : Int) + 1) = ((k + 1 : Nat) : Int) := by unfold wrap64; omega
          have HW := Lib.hid (And.intro hw1 hw2)
          clear hw1 hw2 hts hn
          go_wp2
          go_roundw
          case rel => exact ⟨k + 1, by omega, by omega, by rw [HT.out, ← HW.out.1, ← hxs], by go_num, trivial⟩
          case measure => simp [intOf]; omega
        · have d2 : decide ((k : Int) ≤ 5000) = false := by simp; omega
          have d3 : decide (k ≤ 5000) = false := by simp; omega
          go_wp2
          go_ret
          exact ⟨by (rw [HE.out]; first | done | rfl), HB0.out⟩
      · have d1 : decide (k < la) = false := by simp; omega
        go_wp2
        go_ret
        exact ⟨by (rw [HE.out]; first | done | rfl), HB0.out⟩
  · have d0 : ∀ k : Nat, k ≤ la → decide ((k : Int) ≤ 5000) = true := fun k hk => by simp; omega
    go_wp2
    go_loopw [3, 4] (fun nv iv wr => ∃ k : Nat, k ≤ la ∧ nv = .int .i64 (textSum (nm.take k) : Nat) ∧ iv = .int .i64 k ∧ wr = V0) (fun _ iv _ => 6000 - (intOf iv).toNat)
    case atStart => exact ⟨0, Nat.zero_le _, by simp [textSum], rfl, rfl⟩
    case round =>
      obtain ⟨k, hk, rfl, rfl, rfl⟩ := hrel
      by_cases hlt : k < la
      · have d1 : decide (k < la) = true := by simp; omega
        have d2 : decide ((k : Int) ≤ 5000) = true := by simp; omega
        have d3 : decide (k ≤ 5000) = true := by simp; omega
        have hkl : k < nm.length := by rw [HH.out.hla]; exact hlt
        obtain ⟨b, off, rfl, hcell⟩ := HRA.out.at_ (k := k) hkl
        have HT := Lib.hid (textSumV_succ nm k hkl)
        have hts := textSumV_le nm k HS.out
        have hsk := HS.out _ (List.getElem_mem hkl)
        have hq1 : (0 : Int) ≤ (k : Int) := by omega
        have hq2 : (k : Int) < (la : Int) := by omega
        generalize nm[k] = x at *
        have hxs : (⟨x.toArray⟩ : ByteArray).size = x.length := by simp [ByteArray.size]
        generalize hn : textSum (nm.take k) = n at *
        have hw1 : wrap64 ((n : Int) + (x.length : Int)) = ((n + x.length : Nat) : Int) := by unfold wrap64; omega
        have HW := Lib.hid hw1
        clear hw1 hts hn d0
        go_wp2
        go_roundw
        case rel => exact ⟨k + 1, by omega, by rw [HT.out, ← HW.out, ← hxs], by go_num, trivial⟩
        case measure => simp [intOf]; omega
      · obtain rfl : k = la := by omega
        have htk : nm.take k = nm := List.take_of_length_le (by rw [HH.out.hla]; exact Nat.le_refl _)
        have d1 : decide (k < k) = false := by simp
        have e1 : decide (k ≤ 5000) = true := by simpa using h1
        have e2 : decide ((k : Int) ≤ 5000) = true := d0 k hk
        rw [htk]
        clear d0 htk
        obtain ⟨n, hn⟩ : ∃ n, textSum nm = n := ⟨_, rfl⟩
        rw [hn] at HSM ⊢
        clear hn
        by_cases h2 : lw ≤ 5000
        rotate_left
        · have HE := Lib.hid (show smallH ws nm rs = false by rw [HSM.out]; exact decide_eq_false (fun h9 => h2 h9.2.1))
          have f1 : decide (lw ≤ 5000) = false := by simpa using h2
          have f2 : decide ((lw : Int) ≤ 5000) = false := by simp; omega
          go_wp2
          go_ret
          exact ⟨by (rw [HE.out]; first | done | rfl), HB0.out⟩
        have f1 : decide (lw ≤ 5000) = true := by simpa using h2
        have f2 : decide ((lw : Int) ≤ 5000) = true := by simp; omega
        by_cases h3 : lr ≤ 5000
        rotate_left
        · have HE := Lib.hid (show smallH ws nm rs = false by rw [HSM.out]; exact decide_eq_false (fun h9 => h3 h9.2.2.1))
          have f3 : decide (lr ≤ 5000) = false := by simpa using h3
          have f4 : decide ((lr : Int) ≤ 5000) = false := by simp; omega
          go_wp2
          go_ret
          exact ⟨by (rw [HE.out]; first | done | rfl), HB0.out⟩
        have f3 : decide (lr ≤ 5000) = true := by simpa using h3
        have f4 : decide ((lr : Int) ≤ 5000) = true := by simp; omega
        by_cases h4 : n ≤ 20000
        rotate_left
        · have HE := Lib.hid (show smallH ws nm rs = false by rw [HSM.out]; exact decide_eq_false (fun h9 => h4 h9.2.2.2))
          have f5 : decide (n ≤ 20000) = false := by simpa using h4
          have f6 : decide ((n : Int) ≤ 20000) = false := by simp; omega
          go_wp2
          go_ret
          exact ⟨by (rw [HE.out]; first | done | rfl), HB0.out⟩
        have f5 : decide (n ≤ 20000) = true := by simpa using h4
        have f6 : decide ((n : Int) ≤ 20000) = true := by simp; omega
        have HE := Lib.hid (show smallH ws nm rs = true by rw [HSM.out]; exact decide_eq_true ⟨h1, h2, h3, h4⟩)
        go_wp2
        go_ret
        exact ⟨by (rw [HE.out]; first | done | rfl), HB0.out⟩
end
end
section
open Go.RowKit
set_option linter.unusedVariables false

/-! ### what is there is found again -/
def Ext (st st' : HSt) : Prop := (∀ tag w a, findC st.cs tag w = some a → findC st'.cs tag w = some a) ∧ (∀ s ∈ st.nm, s ∈ st'.nm ∧ st'.nm.idxOf s = st.nm.idxOf s)
theorem Ext.refl (st : HSt) : Ext st st := ⟨fun _ _ _ h => h, fun _ h => ⟨h, rfl⟩⟩
theorem Ext.trans {a b c : HSt} (h : Ext a b) (k : Ext b c) : Ext a c := ⟨fun t w x hx => k.1 t w x (h.1 t w x hx), fun s hs => ⟨(k.2 s (h.2 s hs).1).1, (k.2 s (h.2 s hs).1).2.trans (h.2 s hs).2⟩⟩
theorem cellS_ext (st : HSt) (tag : Nat) (w : List Nat) : Ext st (cellS st tag w).1 := by
  unfold cellS
  split
  · exact Ext.refl _
  · rename_i hn
    refine ⟨fun t x a ha => ?_, fun s hs => ⟨hs, rfl⟩⟩
    simp only
    rw [findC_snoc _ _ _ _ hn]
    split
    · rename_i h
      obtain ⟨rfl, rfl⟩ := h
      rw [hn] at ha
      cases ha
    · exact ha
theorem atomS_ext (st : HSt) (s : List UInt8) : Ext st (atomS st s).1 := by
  unfold atomS
  simp only
  split
  · exact Ext.refl _
  · refine ⟨fun _ _ _ h => h, fun x hx => ⟨by simp [hx], ?_⟩⟩
    simp only
    rw [List.idxOf_append, if_pos hx]
theorem headS_ext (st : HSt) (k n : Int) (s : List UInt8) (w : List Nat) : Ext st (headS st k n s w).1 := by
  unfold headS
  repeat' split
  · exact atomS_ext _ _
  · exact Ext.refl _
  · exact Ext.refl _
  · exact Ext.refl _
  · exact cellS_ext _ _ _
  · exact cellS_ext _ _ _
  · exact cellS_ext _ _ _
  · exact Ext.refl _
mutual
theorem wordS_ext : ∀ (t : TV) (st : HSt), Ext st (wordS st t).1
  | .mk k n s l, st => by rw [wordS]; exact (wordsS_ext l st).trans (headS_ext _ _ _ _ _)
theorem wordsS_ext : ∀ (l : List TV) (st : HSt), Ext st (wordsS st l).1
  | [], st => by rw [wordsS_nil]; exact Ext.refl _
  | t :: r, st => by rw [wordsS_cons]; exact (wordS_ext t st).trans (wordsS_ext r _)
end
theorem cellS_stab {st st2 : HSt} {tag : Nat} {w : List Nat} (h : Ext (cellS st tag w).1 st2) : cellS st2 tag w = (st2, (cellS st tag w).2) := by
  have hf : ∃ a, findC (cellS st tag w).1.cs tag w = some a ∧ (cellS st tag w).2 = 8 * a + tag := by
    unfold cellS
    split
    · rename_i a ha
      exact ⟨a, ha, rfl⟩
    · rename_i hn
      exact ⟨st.ws.length, by simp only; rw [findC_snoc _ _ _ _ hn, if_pos ⟨rfl, rfl⟩], rfl⟩
  obtain ⟨a, h1, h2⟩ := hf
  rw [h2]
  unfold cellS
  rw [h.1 _ _ _ h1]
theorem atomS_stab {st st2 : HSt} {s : List UInt8} (h : Ext (atomS st s).1 st2) : atomS st2 s = (st2, (atomS st s).2) := by
  have hm : s ∈ (atomS st s).1.nm ∧ (atomS st s).1.nm.idxOf s = st.nm.idxOf s := by
    unfold atomS
    simp only
    split
    · rename_i h; exact ⟨h, rfl⟩
    · rename_i h; exact ⟨by simp, by rw [List.idxOf_append, if_neg h, List.idxOf_eq_length h]; simp⟩
  obtain ⟨h1, h2⟩ := h.2 s hm.1
  unfold atomS
  rw [if_pos h1, h2, hm.2]
theorem headS_stab {st st2 : HSt} {k n : Int} {s : List UInt8} {w : List Nat} (h : Ext (headS st k n s w).1 st2) : headS st2 k n s w = (st2, (headS st k n s w).2) := by
  unfold headS at *
  by_cases h1 : k = 2
  · simp only [h1, if_true] at h ⊢; exact atomS_stab h
  by_cases h2 : k = 5
  · simp [h2]
  by_cases h3 : k = 3
  · simp [h3]
  by_cases h4 : k = 7
  · simp [h4]
  by_cases h5 : k = 8
  · simp only [h5, if_true] at h ⊢; exact cellS_stab h
  by_cases h6 : k = 6
  · simp only [h6, if_true] at h ⊢; exact cellS_stab h
  by_cases h7 : k = 4
  · simp only [h7, if_true] at h ⊢; exact cellS_stab h
  simp [h1, h2, h3, h4, h5, h6, h7]
mutual
theorem wordS_stab : ∀ (t : TV) (st st2 : HSt), Ext (wordS st t).1 st2 → wordS st2 t = (st2, (wordS st t).2)
  | .mk k n s l, st, st2, h => by
    rw [wordS] at h
    have h1 := wordsS_stab l st st2 ((headS_ext _ _ _ _ _).trans h)
    rw [wordS, wordS, h1]
    exact headS_stab h
theorem wordsS_stab : ∀ (l : List TV) (st st2 : HSt), Ext (wordsS st l).1 st2 → wordsS st2 l = (st2, (wordsS st l).2)
  | [], st, st2, h => by rw [wordsS_nil, wordsS_nil]
  | t :: r, st, st2, h => by
    rw [wordsS_cons] at h
    have h1 := wordS_stab t st st2 ((wordsS_ext r _).trans h)
    have h2 := wordsS_stab r (wordS st t).1 st2 h
    rw [wordsS_cons, wordsS_cons, h1]
    simp only
    rw [h2]
end
/-- Laid twice. -/
theorem layS_twice (l : List TV) : layS (l ++ l) = ((layS l).1, (layS l).2 ++ (layS l).2) := by
  unfold layS
  rw [wordsS_append, wordsS_stab l st0 _ (Ext.refl _)]

/-! ### what was laid is read -/
def hdN (tag : Nat) : Nat := if tag = 5 then 0 else if tag = 6 then 1 else 2
structure HInv (st : HSt) : Prop where
  c : ∀ tag w a, (tag, w, a) ∈ st.cs → a + w.length ≤ st.ws.length ∧ (st.ws.drop a).take w.length = w ∧ (∀ y ∈ w.drop (hdN tag), 5 ≤ y % 8 → y / 8 < a)
  nd : st.nm.Nodup
def Pre (st st' : HSt) : Prop := st.ws <+: st'.ws ∧ st.nm <+: st'.nm
theorem Pre.refl (st : HSt) : Pre st st := ⟨List.prefix_refl _, List.prefix_refl _⟩
theorem Pre.trans {a b c : HSt} (h : Pre a b) (k : Pre b c) : Pre a c := ⟨h.1.trans k.1, h.2.trans k.2⟩
theorem take_pre {ws ws' w : List Nat} {a : Nat} (h : ws <+: ws') (hl : a + w.length ≤ ws.length) (ht : (ws.drop a).take w.length = w) : (ws'.drop a).take w.length = w := by
  obtain ⟨r, rfl⟩ := h
  rw [List.drop_append_of_le_length (by omega), List.take_append_of_le_length (by rw [List.length_drop]; omega)]
  exact ht
theorem cellS_inv {st : HSt} (h : HInv st) {tag : Nat} (ht : tag < 8) {w : List Nat} (hw : 0 < w.length) (hi : ∀ y ∈ w.drop (hdN tag), 5 ≤ y % 8 → y / 8 < st.ws.length) :
    HInv (cellS st tag w).1 ∧ Pre st (cellS st tag w).1 ∧ ∃ a, (cellS st tag w).2 = 8 * a + tag ∧ (tag, w, a) ∈ (cellS st tag w).1.cs := by
  unfold cellS
  split
  · rename_i a ha
    exact ⟨h, Pre.refl _, a, rfl, findC_mem ha⟩
  · refine ⟨⟨fun tag' w' a hm => ?_, h.nd⟩, ⟨List.prefix_append _ _, List.prefix_refl _⟩, st.ws.length, rfl, by simp⟩
    simp only [List.mem_append, List.mem_singleton] at hm
    rcases hm with hm | hm
    · obtain ⟨h1, h2, h3⟩ := h.c tag' w' a hm
      exact ⟨by simp only [List.length_append]; omega, take_pre (List.prefix_append _ _) h1 h2, h3⟩
    · simp only [Prod.mk.injEq] at hm
      obtain ⟨rfl, rfl, rfl⟩ := hm
      exact ⟨by simp, by rw [List.drop_append_of_le_length (Nat.le_refl _), List.drop_length, List.nil_append, List.take_length], hi⟩
/-- A cell is read. -/
theorem cell_read {st : HSt} (h : HInv st) {ws : List Nat} {nm : List (List UInt8)} (hp : st.ws <+: ws) {tag a ahead left L : Nat} {w : List Nat} (ht : 5 ≤ tag) (ht8 : tag < 8) (hm : (tag, w, a) ∈ st.cs) (ha : a < ahead) {k i : Int} {items : List Nat} {ts : List TV} (hc : ∀ R : List Nat, w <+: R → cellP (ws.take 0 ++ R) 0 tag = some (k, i, items)) (hit : items = w.drop (hdN tag))
    (hL : 0 < L) (hr : (∀ y ∈ items, 5 ≤ y % 8 → y / 8 < a) → rdL (fun y l => rdT ws nm a y l) items (L - 1) = .ok (ts, left)) : rdT ws nm ahead (8 * a + tag) L = .ok (.mk k i [] ts, left) := by
  obtain ⟨h1, h2, h3⟩ := h.c tag w a hm
  have h4 := take_pre hp h1 h2
  have hcell : cellP ws a tag = some (k, i, items) := by
    have h5 := hc (ws.drop a) (by rw [← h4]; exact List.take_prefix _ _)
    rw [List.take_zero, List.nil_append] at h5
    unfold cellP at h5 ⊢
    rw [List.drop_zero] at h5
    exact h5
  have e1 : (8 * a + tag) / 8 = a := by omega
  have e2 : (8 * a + tag) % 8 = tag := by omega
  rw [rdT, e1, e2, if_neg (by omega), if_neg (by omega), dif_pos ha, hcell]
  simp only
  rw [hr (by rw [hit]; exact h3)]
def Rd1 (st : HSt) (t : TV) (x : Nat) : Prop := (5 ≤ x % 8 → x / 8 < st.ws.length) ∧ ∀ (ws : List Nat) (nm : List (List UInt8)) (ahead left : Nat), st.ws <+: ws → st.nm <+: nm → (5 ≤ x % 8 → x / 8 < ahead) → rdT ws nm ahead x (left + t.parts) = .ok (t, left)
def RdN (st : HSt) (l : List TV) (xs : List Nat) : Prop := (∀ y ∈ xs, 5 ≤ y % 8 → y / 8 < st.ws.length) ∧ ∀ (ws : List Nat) (nm : List (List UInt8)) (ahead left : Nat), st.ws <+: ws → st.nm <+: nm → (∀ y ∈ xs, 5 ≤ y % 8 → y / 8 < ahead) → rdL (fun y l => rdT ws nm ahead y l) xs (left + TV.partsL l) = .ok (l, left)
theorem leaf_read {st : HSt} {k n : Int} {s : List UInt8} {x : Nat} (hx : x % 8 < 5) (h : ∀ nm : List (List UInt8), st.nm <+: nm → leafP nm (x / 8) (x % 8) = some (.mk k n s [])) : Rd1 st (.mk k n s []) x := by
  refine ⟨fun h9 => by omega, fun ws nm ahead left h1 h2 _ => ?_⟩
  simp only [TV.parts, TV.partsL]
  rw [rdT, if_neg (by omega), if_pos hx, h nm h2]
  simp only
  congr 2
theorem prefix_take {α : Type} {w R : List α} (h : w <+: R) : R.take w.length = w := by
  obtain ⟨r, rfl⟩ := h
  exact List.take_left' rfl
theorem cell_rd1 {st : HSt} (h : HInv st) {tag : Nat} (ht : 5 ≤ tag) (ht8 : tag < 8) {w items : List Nat} {l : List TV} {k i : Int} (hw : 0 < w.length) (hit : items = w.drop (hdN tag)) (hR : RdN st l items) (hc : ∀ R : List Nat, w <+: R → cellP (([] : List Nat).take 0 ++ R) 0 tag = some (k, i, items)) :
    HInv (cellS st tag w).1 ∧ Pre st (cellS st tag w).1 ∧ Rd1 (cellS st tag w).1 (.mk k i [] l) (cellS st tag w).2 := by
  obtain ⟨h1, h2, a, h3, h4⟩ := cellS_inv h ht8 hw (by rw [← hit]; exact hR.1)
  refine ⟨h1, h2, ?_⟩
  rw [h3]
  refine ⟨fun _ => by have := (h1.c tag w a h4).1; omega, fun ws nm ahead left p1 p2 ha => ?_⟩
  refine cell_read h1 p1 ht ht8 h4 (by have := ha (by omega); omega) (fun R hR' => by have h9 := hc R hR'; simpa using h9) hit (by simp only [TV.parts]; omega) (fun hy => ?_)
  have h9 := hR.2 ws nm a left (h2.1.trans p1) (h2.2.trans p2) hy
  simp only [TV.parts]
  rw [show left + (TV.partsL l + 1) - 1 = left + TV.partsL l by omega]
  exact h9
theorem head_read {st : HSt} (h : HInv st) {k n : Int} {s : List UInt8} {l : List TV} {w : List Nat} (hT : headB k n s l.length = true) (hR : RdN st l w) (hlen : w.length = l.length) :
    HInv (headS st k n s w).1 ∧ Pre st (headS st k n s w).1 ∧ Rd1 (headS st k n s w).1 (.mk k n s l) (headS st k n s w).2 := by
  rcases head_cases hT with ⟨rfl, a1, a2, a3, rfl⟩ | ⟨rfl, a0, a1, a2, rfl⟩ | ⟨rfl | rfl, a1, a2, a3, rfl⟩ | ⟨rfl, a1, a2, rfl⟩ | ⟨rfl, rfl, rfl⟩ | ⟨rfl, a1, rfl, rfl⟩ | ⟨rfl, a1, rfl, rfl⟩
  · obtain rfl : l = [] := List.eq_nil_of_length_eq_zero a3
    have e : headS st 1 n [] w = (st, leafW (u64N n) 0) := by simp [headS]
    rw [e]
    have h8 : leafW (u64N n) 0 % 8 = 0 := by unfold leafW; omega
    refine ⟨h, Pre.refl _, leaf_read (by omega) fun nm _ => ?_⟩
    simp only
    rw [h8]
    unfold leafP
    rw [if_pos rfl]
    by_cases hn : 0 ≤ n
    · have h9 : ((leafW (u64N n) 0 / 8 : Nat) : Int) = n := by unfold leafW u64N; omega
      rw [if_pos (by omega), h9]
      rfl
    · have h9 : ((leafW (u64N n) 0 / 8 : Nat) : Int) = 2305843009213693952 + n := by unfold leafW u64N; omega
      rw [if_neg (by omega), if_pos (by omega), h9]
      simp only [tI]
      congr 2
      omega
  · obtain rfl : l = [] := List.eq_nil_of_length_eq_zero a2
    have e : headS st 2 0 s w = atomS st s := by simp [headS]
    rw [e]
    have hm : s ∈ (atomS st s).1.nm ∧ (atomS st s).1.nm.idxOf s = st.nm.idxOf s ∧ Pre st (atomS st s).1 ∧ HInv (atomS st s).1 := by
      unfold atomS
      simp only
      split
      · rename_i h9; exact ⟨h9, rfl, Pre.refl _, h⟩
      · rename_i h9; exact ⟨by simp, by rw [List.idxOf_append, if_neg h9, List.idxOf_eq_length h9]; simp, ⟨List.prefix_refl _, List.prefix_append _ _⟩, ⟨h.c, List.nodup_append.2 ⟨h.nd, by simp, fun x hx y hy e => h9 (by simp at hy; rw [← hy, ← e]; exact hx)⟩⟩⟩
    have hx2 : (atomS st s).2 = 8 * (atomS st s).1.nm.idxOf s + 1 := by rw [hm.2.1]; rfl
    refine ⟨hm.2.2.2, hm.2.2.1, ?_⟩
    rw [hx2]
    refine leaf_read (by omega) fun nm hp => ?_
    have e1 : (8 * (atomS st s).1.nm.idxOf s + 1) / 8 = (atomS st s).1.nm.idxOf s := by omega
    have e2 : (8 * (atomS st s).1.nm.idxOf s + 1) % 8 = 1 := by omega
    rw [e1, e2]
    have hlt : (atomS st s).1.nm.idxOf s < (atomS st s).1.nm.length := List.idxOf_lt_length_of_mem hm.1
    have hg : nm[(atomS st s).1.nm.idxOf s]? = some s := by
      obtain ⟨r, rfl⟩ := hp
      rw [List.getElem?_append_left hlt, List.getElem?_eq_getElem hlt, List.getElem_idxOf hlt]
    unfold leafP
    rw [if_neg (by omega), if_pos rfl, hg]
    simp only
    rw [if_pos ⟨a0, a1⟩]
    rfl
  · obtain rfl : l = [] := List.eq_nil_of_length_eq_zero a3
    obtain ⟨m, rfl⟩ := Int.eq_ofNat_of_zero_le a1
    have e : headS st 3 (m : Int) [] w = (st, leafW m 3) := by simp [headS, u64N_nat (show m < 18446744073709551616 by omega)]
    rw [e]
    have h8 : leafW m 3 % 8 = 3 := by unfold leafW; omega
    have h9 : leafW m 3 / 8 = m := by unfold leafW; omega
    refine ⟨h, Pre.refl _, leaf_read (by simp only; omega) fun nm _ => ?_⟩
    simp only
    rw [h8, h9]
    simp [leafP]
    omega
  · obtain rfl : l = [] := List.eq_nil_of_length_eq_zero a3
    obtain ⟨m, rfl⟩ := Int.eq_ofNat_of_zero_le a1
    have e : headS st 5 (m : Int) [] w = (st, leafW m 2) := by simp [headS, u64N_nat (show m < 18446744073709551616 by omega)]
    rw [e]
    have h8 : leafW m 2 % 8 = 2 := by unfold leafW; omega
    have h9 : leafW m 2 / 8 = m := by unfold leafW; omega
    refine ⟨h, Pre.refl _, leaf_read (by simp only; omega) fun nm _ => ?_⟩
    simp only
    rw [h8, h9]
    simp [leafP]
    omega
  · obtain ⟨m, rfl⟩ := Int.eq_ofNat_of_zero_le a1
    have hmn : m ≤ 576460752303423487 := by omega
    have e : headS st 4 (m : Int) [] w = cellS st 7 (m :: w.length :: w) := by simp [headS, u64N_nat (show m < 18446744073709551616 by omega)]
    rw [e]
    refine cell_rd1 h (by omega) (by omega) (by simp) rfl (by simpa [hdN] using hR) fun R hp => ?_
    obtain ⟨r, rfl⟩ := hp
    have hq : ¬ 576460752303423487 < m := by omega
    simp [cellP, hdN, hq]
  · have e : headS st 6 0 [] w = cellS st 6 (w.length :: w) := by simp [headS]
    rw [e]
    refine cell_rd1 h (by omega) (by omega) (by simp) rfl (by simpa [hdN] using hR) fun R hp => ?_
    obtain ⟨r, rfl⟩ := hp
    simp [cellP, hdN]
  · obtain rfl : l = [] := List.eq_nil_of_length_eq_zero a1
    have e : headS st 7 0 [] w = (st, 4) := by simp [headS]
    rw [e]
    exact ⟨h, Pre.refl _, leaf_read (by simp) fun nm _ => by simp [leafP, tN]⟩
  · have e : headS st 8 0 [] w = cellS st 5 w := by simp [headS]
    rw [e]
    have hw2 : w.length = 2 := by omega
    refine cell_rd1 h (by omega) (by omega) (by omega) (by simp [hdN]) hR fun R hp => ?_
    have ht := prefix_take hp
    rw [hw2] at ht
    have hl := hp.length_le
    unfold cellP
    rw [if_pos rfl, List.take_zero, List.nil_append, List.drop_zero, if_neg (by omega), ht]
theorem Rd1.mono {st st' : HSt} {t : TV} {x : Nat} (h : Rd1 st t x) (hp : Pre st st') : Rd1 st' t x :=
  ⟨fun h5 => Nat.lt_of_lt_of_le (h.1 h5) hp.1.length_le, fun ws nm ahead left p1 p2 => h.2 ws nm ahead left (hp.1.trans p1) (hp.2.trans p2)⟩
mutual
theorem wordS_read : ∀ (t : TV) (st : HSt), t.isT = true → HInv st → HInv (wordS st t).1 ∧ Pre st (wordS st t).1 ∧ Rd1 (wordS st t).1 t (wordS st t).2
  | .mk k n s l, st, hT, h => by
    rw [TV.isT_eq, Bool.and_eq_true] at hT
    simp only [TV.kind, TV.int, TV.name, TV.items] at hT
    obtain ⟨h1, h2, h3⟩ := wordsS_read l st hT.2 h
    obtain ⟨g1, g2, g3⟩ := head_read h1 hT.1 h3 (wordsS_len st l)
    rw [wordS]
    exact ⟨g1, h2.trans g2, g3⟩
theorem wordsS_read : ∀ (l : List TV) (st : HSt), TV.isL l = true → HInv st → HInv (wordsS st l).1 ∧ Pre st (wordsS st l).1 ∧ RdN (wordsS st l).1 l (wordsS st l).2
  | [], st, hT, h => by
    rw [wordsS_nil]
    refine ⟨h, Pre.refl _, (fun y hy => by cases hy), fun ws nm ahead left _ _ _ => ?_⟩
    simp [rdL, TV.partsL]
  | t :: r, st, hT, h => by
    simp only [TV.isL, Bool.and_eq_true] at hT
    obtain ⟨h1, h2, h3⟩ := wordS_read t st hT.1 h
    obtain ⟨g1, g2, g3⟩ := wordsS_read r (wordS st t).1 hT.2 h1
    rw [wordsS_cons]
    have h4 := h3.mono g2
    refine ⟨g1, h2.trans g2, fun y hy => ?_, fun ws nm ahead left p1 p2 ha => ?_⟩
    · simp only [List.mem_cons] at hy
      rcases hy with rfl | hy
      · exact h4.1
      · exact g3.1 y hy
    · have e1 := h4.2 ws nm ahead (left + TV.partsL r) p1 p2 (ha _ (by simp))
      have e2 := g3.2 ws nm ahead left p1 p2 (fun y hy => ha y (by simp [hy]))
      simp only [rdL, TV.partsL]
      rw [show left + (t.parts + TV.partsL r) = left + TV.partsL r + t.parts by omega, e1]
      simp only
      rw [e2]
end
theorem st0_inv : HInv st0 := ⟨(fun _ _ _ h => by cases h), List.Pairwise.nil⟩
/-- What was laid is read. -/
theorem lay_read {l : List TV} (h : checkP l = 0) : readP (layS l).1.ws (layS l).1.nm (layS l).2 = .ok l := by
  obtain ⟨h1, h2⟩ := hcheck_le h
  obtain ⟨g1, g2, g3⟩ := wordsS_read l st0 h2 st0_inv
  obtain ⟨⟨q1, q2, q3, q4⟩, q5⟩ := wordsS_ok l st0 st0_ok (by simp [st0]; omega) (by simp [st0]; omega)
  have hl := wordsS_len st0 l
  have hlp := len_parts l
  simp only [st0, List.length_nil, Nat.zero_add] at q2 q3
  have e := g3.2 (layS l).1.ws (layS l).1.nm (layS l).1.ws.length (4096 - TV.partsL l) (List.prefix_refl _) (List.prefix_refl _) g3.1
  rw [show 4096 - TV.partsL l + TV.partsL l = 4096 by omega] at e
  unfold readP
  rw [if_neg (by unfold layS; simp only [st0] at *; omega)]
  have e' : rdL (fun y l9 => rdT (layS l).1.ws (layS l).1.nm (layS l).1.ws.length y l9) (layS l).2 4096 = .ok (l, 4096 - TV.partsL l) := e
  rw [e']
theorem lay_nodup {l : List TV} (h : checkP l = 0) : (layS l).1.nm.Nodup := (wordsS_read l st0 (hcheck_le h).2 st0_inv).1.nd
theorem layS_len (l : List TV) : (layS l).2.length = l.length := wordsS_len st0 l
/-- A root's word. -/
theorem lay_root {l : List TV} (i : Nat) (hi : i < l.length) (hT : TV.isL l = true) : ∃ (st : HSt) (x : Nat), (layS l).2[i]? = some x ∧ x = (wordS st l[i]).2 ∧ Ext (wordS st l[i]).1 (layS l).1 ∧ Rd1 (layS l).1 l[i] x := by
  have hsp : l = l.take i ++ l[i] :: l.drop (i + 1) := by
    conv => lhs; rw [← List.take_append_drop i l, List.drop_eq_getElem_cons hi]
  have hTi : l[i].isT = true := by
    cases h9 : l[i].isT with
    | true => rfl
    | false => have h8 := isL_no l i hi h9; rw [h8] at hT; cases hT
  have hT1 : TV.isL (l.take i) = true ∧ TV.isL (l.drop (i + 1)) = true := by
    rw [hsp] at hT
    rw [isL_append, Bool.and_eq_true] at hT
    simp only [TV.isL, Bool.and_eq_true] at hT
    exact ⟨hT.1, hT.2.2⟩
  generalize ht : l[i] = t at *
  have hlen : (l.take i).length = i := by rw [List.length_take]; omega
  have he : layS l = ((wordsS (wordS (wordsS st0 (l.take i)).1 t).1 (l.drop (i + 1))).1, (wordsS st0 (l.take i)).2 ++ (wordS (wordsS st0 (l.take i)).1 t).2 :: (wordsS (wordS (wordsS st0 (l.take i)).1 t).1 (l.drop (i + 1))).2) := by
    unfold layS
    conv => lhs; rw [hsp]
    rw [wordsS_append, wordsS_cons]
  obtain ⟨a1, a2, a3⟩ := wordsS_read (l.take i) st0 hT1.1 st0_inv
  obtain ⟨b1, b2, b3⟩ := wordS_read t _ hTi a1
  obtain ⟨c1, c2, c3⟩ := wordsS_read (l.drop (i + 1)) _ hT1.2 b1
  refine ⟨(wordsS st0 (l.take i)).1, (wordS (wordsS st0 (l.take i)).1 t).2, ?_, rfl, ?_, ?_⟩
  · rw [he]
    simp only
    rw [List.getElem?_append_right (by rw [wordsS_len, hlen]; exact Nat.le_refl _), wordsS_len, hlen, Nat.sub_self]
    rfl
  · rw [he]
    exact wordsS_ext _ _
  · rw [he]
    exact b3.mono c2
/-- Roots are the same just of the same terms. -/
theorem lay_roots {l : List TV} (hT : TV.isL l = true) {i k : Nat} (hi : i < l.length) (hk : k < l.length) {x y : Nat} (hx : (layS l).2[i]? = some x) (hy : (layS l).2[k]? = some y) : x = y ↔ l[i] = l[k] := by
  obtain ⟨s1, x', e1, e2, e3, e4⟩ := lay_root i hi hT
  obtain ⟨s2, y', f1, f2, f3, f4⟩ := lay_root k hk hT
  rw [hx] at e1
  rw [hy] at f1
  obtain rfl := Option.some.inj e1
  obtain rfl := Option.some.inj f1
  constructor
  · rintro rfl
    have r1 := e4.2 (layS l).1.ws (layS l).1.nm (layS l).1.ws.length l[k].parts (List.prefix_refl _) (List.prefix_refl _) e4.1
    have r2 := f4.2 (layS l).1.ws (layS l).1.nm (layS l).1.ws.length l[i].parts (List.prefix_refl _) (List.prefix_refl _) f4.1
    rw [Nat.add_comm] at r2
    rw [r1] at r2
    simp only [Except.ok.injEq, Prod.mk.injEq] at r2
    exact r2.1
  · intro h
    have r1 := wordS_stab l[i] s1 (layS l).1 e3
    have r2 := wordS_stab l[k] s2 (layS l).1 f3
    rw [e2, f2, ← congrArg Prod.snd r1, ← congrArg Prod.snd r2, h]
end
section
open Go.RowKit
set_option linter.unusedVariables false

def NB (st : HSt) : Prop := ∀ s ∈ st.nm, s.length ≤ 255
theorem cellS_nm (st : HSt) (tag : Nat) (w : List Nat) : (cellS st tag w).1.nm = st.nm := by
  unfold cellS
  split <;> rfl
theorem atomS_nb {st : HSt} (h : NB st) {s : List UInt8} (hs : s.length ≤ 255) : NB (atomS st s).1 := by
  unfold atomS
  split
  · exact h
  · intro x hx
    rcases List.mem_append.1 hx with h9 | h9
    · exact h x h9
    · rw [List.mem_singleton.1 h9]; exact hs
theorem headS_nb {st : HSt} (h : NB st) {k n : Int} {s : List UInt8} {len : Nat} {w : List Nat} (hT : headB k n s len = true) : NB (headS st k n s w).1 := by
  have hc : ∀ tag x, NB (cellS st tag x).1 := fun tag x => by unfold NB; rw [cellS_nm]; exact h
  unfold headS
  split
  · rename_i hk
    subst hk
    refine atomS_nb h ?_
    unfold headB at hT
    simp at hT
    omega
  · repeat' split
    all_goals first | exact h | exact hc _ _
mutual
theorem wordS_nb : ∀ (t : TV) (st : HSt), t.isT = true → NB st → NB (wordS st t).1
  | .mk k n s l, st, hT, h => by
    rw [TV.isT_eq, Bool.and_eq_true] at hT
    rw [wordS]
    exact headS_nb (wordsS_nb l st hT.2 h) hT.1
theorem wordsS_nb : ∀ (l : List TV) (st : HSt), TV.isL l = true → NB st → NB (wordsS st l).1
  | [], st, hT, h => by rw [wordsS_nil]; exact h
  | t :: r, st, hT, h => by
    simp only [TV.isL, Bool.and_eq_true] at hT
    rw [wordsS]
    exact wordsS_nb r _ hT.2 (wordS_nb t st hT.1 h)
end
theorem nb_sum {l : List (List UInt8)} (h : ∀ s ∈ l, s.length ≤ 255) : textSum l ≤ 255 * l.length := by
  induction l with
  | nil => simp [textSum]
  | cons a r ih =>
    have e : textSum (a :: r) = a.length + textSum r := by simp [textSum]
    have h1 := h a (by simp)
    have h2 := ih (fun s hs => h s (by simp [hs]))
    simp only [List.length_cons]
    omega
structure LayF (l : List TV) (ws : List Nat) (nm : List (List UInt8)) (rs : List Nat) : Prop where
  w64 : W64 ws
  r64 : W64 rs
  lw : ws.length ≤ 20000
  la : nm.length ≤ 5000
  lr : rs.length = l.length
  sum : textSum nm ≤ 2000000
  nb : ∀ s ∈ nm, s.length ≤ 255
  read : readP ws nm rs = .ok l
theorem lay_facts {l : List TV} (h : checkP l = 0) : LayF l (layS l).1.ws (layS l).1.nm (layS l).2 := by
  obtain ⟨hp, hT⟩ := hcheck_le h
  have hlp := len_parts l
  obtain ⟨⟨q1, q2, q3, _⟩, q5⟩ := wordsS_ok l st0 st0_ok (by simp [st0]; omega) (by simp [st0]; omega)
  simp only [st0, List.length_nil, Nat.zero_add] at q2 q3
  have hnb : NB (layS l).1 := wordsS_nb l st0 hT (fun s hs => by cases hs)
  have hla : (layS l).1.nm.length ≤ 5000 := by unfold layS; simp only [st0]; omega
  have hsum := nb_sum (l := (layS l).1.nm) hnb
  exact { w64 := q1.w64, r64 := q5, lw := by unfold layS; simp only [st0]; omega, la := hla, lr := layS_len l, sum := by omega, nb := hnb, read := lay_read h }
/-- The same heap just of the same terms. -/
theorem lay_same {l m : List TV} (h : checkP l = 0) (k : checkP m = 0) : sameH (layS l).1.ws (layS l).2 (layS l).1.nm (layS m).1.ws (layS m).2 (layS m).1.nm = rowsB l m := by
  by_cases e : l = m
  · subst e
    rw [rowsB_self]
    simp [sameH]
  · have h1 : rowsB l m = false := by
      cases hq : rowsB l m with
      | false => rfl
      | true => exact absurd ((rowsB_iff l m).1 hq) e
    rw [h1]
    cases hq : sameH (layS l).1.ws (layS l).2 (layS l).1.nm (layS m).1.ws (layS m).2 (layS m).1.nm with
    | false => rfl
    | true =>
      exfalso
      unfold sameH at hq
      simp only [Bool.and_eq_true, decide_eq_true_eq] at hq
      obtain ⟨⟨e1, e2⟩, e3⟩ := hq
      have h2 := lay_read h
      have h3 := lay_read k
      rw [e1, e2, e3, h3] at h2
      injection h2 with h2
      exact e h2.symm
def allI (n : Nat) : List Int := (List.range n).map (fun (k : Nat) => (k : Int))
theorem allI_len (n : Nat) : (allI n).length = n := by simp [allI]
theorem allI_succ (n : Nat) : allI (n + 1) = allI n ++ [(n : Int)] := by simp [allI, List.range_succ]
theorem pk_all (ts : List TV) : (allI ts.length).map (pk ts) = ts := by
  apply List.ext_getElem
  · simp [allI]
  · intro i h1 h2
    simp [allI, pk, h2]
theorem collect_all {ws rs : List Nat} {nm : List (List UInt8)} {ts : List TV} (hw : W64 ws) (hr : W64 rs) (h : readP ws nm rs = .ok ts) : checkP ts = 0 ∧ collectP ws nm rs (allI rs.length) = .ok (layS ts) := by
  obtain ⟨h1, h2, h3⟩ := readP_isL hw hr h
  have hc : checkP ts = 0 := by unfold checkP; rw [if_pos h2, if_pos h1]
  refine ⟨hc, ?_⟩
  unfold collectP
  rw [h]
  simp only
  rw [← h3, pk_all, if_pos hc, if_pos]
  intro i hi
  obtain ⟨k, hk, rfl⟩ := List.mem_map.1 hi
  have := List.mem_range.1 hk
  omega
end
end Go.Proofs.Ytefnjplfemgibaa
