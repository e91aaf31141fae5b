/- Layer 12: the walk of Vars. -/
import Derived.Test.YthhindnjnijglaaChX
import Derived.Test.YthhindnjnijglaaShelf
import Derived.Sort.OwnSorted
namespace Go.Proofs.Ythhindnjnijglaa
open Go.RowKit Go.Maps Go.WideMaps Go.Sort
set_option linter.unusedVariables false

theorem strT : ElT Try.prog 29 9 (.string ⟨#[]⟩) 1 16 := ⟨Try.underlying29, by kernel_rfl, rfl, by omega⟩
theorem own_low9 {W : World} {base base' e size n : Nat} {v : Value} {xs : List Value} (h : W.ownsRow base e size v n xs) (hb : base' ≤ base) : W.ownsRow base' e size v n xs := by
  refine ⟨h.1, ?_⟩
  rcases h.2 with h9 | ⟨g, cap, cur, h1, h2, h3⟩
  · exact .inl h9
  · exact .inr ⟨g, cap, cur, h1, by omega, h3⟩
theorem cs_one_val (w : World) (v : Value) (t : TypeId) : Cs (w.alloc (.cells #[v] t)) (some ⟨w.heap.size, 0, none⟩) [v] := .inr ⟨_, rfl, cell_one_new w v t⟩
/-- How a sort of strings ends. -/
def SortSEnds (V : World) (base : Nat) (v : Value) (zs : List (List UInt8)) (en : Ending) (w' : World) : Prop :=
  en = .returned (.tuple #[]) ∧ w'.ownsRow base 9 1 v zs.length (zs.map encStr) ∧ Below base V w'
theorem sortS_v {V : World} {base : Nat} {v : Value} (zs : List (List UInt8)) (hl : zs.length ≤ 1000000) (hb : base ≤ V.heap.size) (ho : V.ownsRow base 9 1 v zs.length (zs.map encStr)) :
    Calls Try.prog 14 #[v] V (SortSEnds V base v (zs.mergeSort fun x y => decide (x ≤ y))) := by
  rcases ho.2 with ⟨rfl, h0⟩ | ⟨g, cap, cur, rfl, hbase, hbk, hn, hcap, hz, ht⟩
  · have hz : zs = [] := List.eq_nil_of_length_eq_zero h0
    subst hz
    have h := Try.slices_Sort_string_none none 0 V
    change Calls Try.prog 14 _ _ _ at h
    refine h.mono fun e w' h9 => ?_
    obtain ⟨rfl, rfl⟩ := h9
    exact ⟨rfl, by simpa using ho, Below.refl _ _⟩
  · rw [Nat.mul_one] at hz ht
    have hg : g < V.heap.size := (Array.getElem?_eq_some_iff.1 hbk).1
    have h := Try.slices_Sort_string g 0 cap zs V (holds_of_block hbk ht) hg (by omega)
    change Calls Try.prog 14 _ _ _ at h
    refine h.mono fun e w' h9 => ?_
    obtain ⟨rfl, n, os, rfl⟩ := h9
    have hlm := List.length_mergeSort (le := fun x y => decide (x ≤ y)) zs
    refine ⟨rfl, ?_, ?_⟩
    · rw [hlm]
      exact ownsRow_sorted hlm hbase hbk hn hcap (by rw [hz, Nat.mul_one])
    · exact (Below.refl base V).grown (grownBy_sorted _) hb (fun k e => by cases e; exact hbase)
theorem madeV (K : Nms) (V : World) : VA V (V.heap.size + 1) V.heap.size K [] ((V.alloc (.map #[] 0)).alloc (.cells #[.map (some V.heap.size)] 43)) := by
  have e : (V.alloc (.map #[] 0)).heap.size = V.heap.size + 1 := by simp
  have h1 := Blk.new (V.alloc (.map #[] 0)) 43 #[.map (some V.heap.size)]
  rw [e] at h1
  exact ⟨h1, (BMap.made V).keep (below_alloc _ _), fun y hy => absurd hy (by simp), below_step (below_alloc _ _) (below_alloc _ _), Nat.le_refl _⟩
set_option maxRecDepth 100000 in
set_option maxHeartbeats 4000000 in
theorem vars_any {K : Nms} (hK : KK K) {V : World} {l : List ND} {A : Option Addr} {c : Nat} (hR : RdN NoB V A c l) (hal : ND.allL (fun s => s ∈ K) l) :
    Calls Try.prog 6 #[.slice A l.length c] V fun e w' => ∃ v, ∃ zs : List (List UInt8), e = .returned v ∧ (∀ y, y ∈ zs ↔ (y ≠ [95] ∧ occL y l)) ∧ zs.length ≤ 20000 ∧ w'.ownsRow V.heap.size 9 1 v zs.length (zs.map encStr) ∧ Below V.heap.size V w' := by
  have HE : Hid (∀ vb mb V', VA V vb mb K [] V' → Calls Try.prog 12 #[.slice A l.length c, FV vb] V' fun e w' => e = .returned (.tuple #[]) ∧ VA V vb mb K (vrL [] l) w' ∧ Fr (fun k => k = mb) V' w') := fun vb mb V' h' => each_any hK _ l A c [] V' (Nat.le_refl _) hR hal h'
  have HM : Hid (∀ y, y ∈ vrL [] l ↔ (y ≠ [95] ∧ occL y l)) := fun y => by rw [mem_vrL]; simp
  have hlc := hR.1
  have hlc2 := hR.2.1
  obtain ⟨len, hlen⟩ : ∃ len, l.length = len := ⟨_, rfl⟩
  rw [hlen] at HE hlc ⊢
  obtain ⟨P, hP⟩ : ∃ P, vrL [] l = P := ⟨_, rfl⟩
  rw [hP] at HE HM
  clear hR hal hlen hP
  have hmm := @run_makeMap Try.prog
  go_enter Try.func6, Try.ntmps6
  go_upto_region 2 with (fail)
  have HV := madeV K V
  obtain ⟨mb, hmb⟩ : ∃ mb, V.heap.size = mb := ⟨_, rfl⟩
  obtain ⟨vb, hvb⟩ : ∃ vb, mb + 1 = vb := ⟨_, rfl⟩
  rw [hmb] at HV ⊢
  rw [hvb] at HV ⊢
  refine wp_world (fun W => VA V vb mb K [] W) HV ?_
  clear HV hmm
  intro V1 h1
  have H1 := Lib.hid h1
  clear h1
  go_upto_region 3 with (go_at_call 12; refine (HE.out _ _ _ H1.out).mono ?_; rintro e V2 ⟨rfl, h2, hf2⟩)
  have hpl : P.length ≤ 20000 := Nat.le_trans (nodup_le h2.map.nd h2.sub) hK.len
  obtain ⟨D, hown, hsz, hat0, hhas⟩ := h2.map.own
  have H2 := Lib.hid h2
  have HHAS := Lib.hid hhas
  have HSZ := Lib.hid hsz
  have c0 := h2.obj.cell 0
  have hml := h2.map.lt
  clear h2 hf2 H1 hat0 hhas hsz HE hK
  go_wp2_with (first
    | (at_range; refine wpList_range_own _ rfl _ 43 rfl 9 4 ckS Try.underlying43 hE mb P.length D rfl hown ?_; intro x0 hrg0 hg0 hs0)
    | go_in)
  go_frame
  have hbl : mb < V2.heap.size := hml
  have HV2 : Hid (Below V.heap.size V V2) := H2.out.bel
  have HMB : Hid (V.heap.size = mb) := hmb
  clear c0 hml H2 hown
  go_loopw [2] (fun v wr => ∃ (left : Lit → Bool) (cnt : Nat) (ss : List (List UInt8)), wr.ranges Try.prog 9 hE mb V2.heap.size P.length D left cnt ∧ ss.length + cnt ≤ P.length ∧
      wr.ownsRow V2.heap.size 9 1 v ss.length (ss.map encStr) ∧ Collected D left ss ∧ Below V2.heap.size V2 wr) (fun _ wr => wr.rangeLeft mb V2.heap.size)
  case atStart => exact ⟨_, _, [], hrg0, by rw [HSZ.out]; simp, World.ownsRow_nil _ _ _ _, Collected.start D, (Below.refl _ _).grown hg0 (Nat.le_refl _) (fun j hj => by cases hj)⟩
  case round =>
    obtain ⟨left, cnt, ss, hrg, hcs, hrow, hC, hnx⟩ := hrel
    have HCS := Lib.hid hcs
    have HROW := Lib.hid hrow
    have HC := Lib.hid hC
    have HNX := Lib.hid hnx
    have HRG := Lib.hid hrg
    clear hrg0 hg0 hs0 hcs hrow hC hnx
    go_wp2_with (first
      | (at_next; refine wpList_next_ranges _ rfl _ rfl 9 ckS hE encStr (fun v : Value => v) (fun key kl hk => by obtain ⟨x, hx, _⟩ := Maps.keyOf_str Try.underlying9 hk; exact ⟨x, hx⟩) (fun v y hv => ⟨v, rfl⟩) mb V2.heap.size P.length _ _ _ rfl hrg ?_ ?_)
      | go_in)
    · intro hc0 hl0
      have HSO := Lib.hid (sortS_v ss (by have := HCS.out; omega) HNX.out.size HROW.out)
      have HMM : Hid (∀ y, y ∈ ss.mergeSort (fun x y => decide (x ≤ y)) ↔ (y ≠ [95] ∧ occL y l)) := fun y => by
        rw [List.mem_mergeSort, HC.out.2, hl0, HHAS.out, ← HM.out]
        simp
      have HLL : Hid ((ss.mergeSort (fun x y => decide (x ≤ y))).length ≤ 20000) := by unfold Hid; rw [List.length_mergeSort]; have := HCS.out; omega
      clear hrg hl0 hc0
      go_wp2_with (go_at_call 14; refine HSO.out.mono ?_; rintro e w9 ⟨rfl, ho9, hb9⟩; have HO9 := Lib.hid ho9; have HB9 := Lib.hid hb9; clear ho9 hb9)
      go_ret
      refine ⟨_, _, rfl, HMM.out, HLL.out, own_low9 HO9.out ?_, ?_⟩
      · have := HMB.out; omega
      · exact below_step HV2.out (HNX.out.trans HB9.out)
    · intro x c kl y ps w1 cnt1 hkey hlk hv hps hat hrg1 hlt hg1 hs1 hen
      obtain ⟨x', ex, rfl, _⟩ := Maps.keyOf_str Try.underlying9 hkey
      obtain rfl : x = x' := encStr_inj ex
      have hrow1 := HROW.out.kept hg1 (Or.inr (row_ne_iter HROW.out HRG.out).symm)
      have HROW1 := Lib.hid hrow1
      have HRG1 := Lib.hid hrg1
      have HLK := Lib.hid hlk
      have HAT := Lib.hid hat
      have HLT := Lib.hid hlt
      have HG1 := Lib.hid hg1
      have HS1 := Lib.hid hs1
      have hx1 : (encStr x).oneCell' = true := rfl
      clear hrow1 hrg1 hlk hat hlt hg1 hs1 hv hps hkey hrg ex
      have hq1 : ss.length + 1 ≤ maxLen := by unfold maxLen; have := HCS.out; omega
      have hq2 : (ss.length + 1) * 16 ≤ 140737488355328 := by have := HCS.out; omega
      have hq3 : V2.heap.size ≤ (w1.alloc (.cells #[encStr x] 9)).heap.size := by have := HNX.out.size; have := HS1.out; simp; omega
      go_wp2_with (first
        | (at_builtin; (refine wpList_app strT rfl (.tmp 15) (.tmp 17) rfl V2.heap.size _ _ _ rfl (HROW1.out.alloc _) (some ⟨w1.heap.size, 0, none⟩) 1 1 [encStr x] rfl rfl (cs_one_val _ _ _) (by intro u hu; rw [List.mem_singleton.1 hu]; rfl) hq1 hq2 hq3 ?_); intro v3 w3 ho3 hg3 hat3)
        | go_in)
      have hg4 : (w1.alloc (.cells #[encStr x] 9)).grownBy w3 u2.ownBlock := hg3
      have hrg3 := (HRG1.out.alloc (.cells #[encStr x] 9)).kept hg4 (row_ne_low HROW1.out hbl) (row_ne_iter HROW1.out HRG1.out)
      refine ⟨⟨_, cnt1, ss ++ [x], hrg3, by have := HCS.out; have := HLT.out; simp; omega, by simpa using ho3, HC.out.step HLK.out HAT.out, ?_⟩, ?_⟩
      · have hb1 := HNX.out.grown HG1.out HNX.out.size (fun j hj => by cases hj; exact Nat.le_refl _)
        exact (hb1.alloc hb1.size _).grown hg4 (by have := hb1.size; simp; omega) (fun j hj => (HROW1.out.lt j hj).1)
      · rw [hrg3.left_eq, HRG.out.left_eq]; exact HLT.out
end Go.Proofs.Ythhindnjnijglaa
