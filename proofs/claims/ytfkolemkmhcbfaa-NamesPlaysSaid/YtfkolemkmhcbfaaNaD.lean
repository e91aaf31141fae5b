/- Names (layer 19): the walk of All: the keys sorted by the library. -/
import Derived.Test.YtfkolemkmhcbfaaNaC
import Derived.Test.YtfkolemkmhcbfaaIter
namespace Go.Proofs.Ytfkolemkmhcbfaa
open Go.RowKit Go.Maps Go.WideMaps
set_option linter.unusedVariables false

def entC (q : List UInt8 × Int) : List Value := [.string ⟨q.1.toArray⟩, .int .i64 q.2]
def entsC : NL → List Value
  | [] => []
  | q :: r => entC q ++ entsC r
theorem entsC_append (a b : NL) : entsC (a ++ b) = entsC a ++ entsC b := by
  induction a with
  | nil => rfl
  | cons q r ih => simp [entsC, ih]
theorem entsC_len (a : NL) : (entsC a).length = a.length * 2 := by
  induction a with
  | nil => rfl
  | cons q r ih => simp [entsC, entC, ih]; omega
theorem entsC_at : ∀ (l : NL) (k i : Nat) (h : k < l.length), i < 2 → (entsC l)[k * 2 + i]? = (entC l[k])[i]?
  | q :: r, 0, i, _, hi => by
    simp only [entsC, Nat.zero_mul, Nat.zero_add, List.getElem_cons_zero]
    rw [List.getElem?_append_left (by simp [entC]; exact hi)]
  | q :: r, k + 1, i, h, hi => by
    simp only [entsC, List.getElem_cons_succ]
    rw [List.getElem?_append_right (by simp [entC]; omega)]
    simp only [entC, List.length_cons, List.length_nil]
    rw [show (k + 1) * 2 + i - 2 = k * 2 + i by omega]
    exact entsC_at r k i (by simpa using h) hi
  | [], _, _, h, _ => by simp at h
theorem entT : ElT Try.prog 25 33 (.agg #[.string ⟨#[]⟩, .int .i64 0]) 2 24 := ⟨Try.underlying25, by kernel_rfl, rfl, by decide⟩
/-- A row of entries of the call's own reads as them. -/
theorem rde_own {w : World} {base : Nat} {v : Value} {n : Nat} {l : NL} (h : w.ownsRow base 33 2 v n (entsC l)) (hn : l.length = n) : ∃ A c, v = .slice A n c ∧ RdE w A l := by
  rcases h.2 with ⟨rfl, hz⟩ | ⟨g, cap, cur, rfl, _, hg, hnc, _, _, htake⟩
  · exact ⟨none, 0, by rw [show n = 0 by omega], .inl (List.eq_nil_of_length_eq_zero (by omega))⟩
  · refine ⟨_, cap, rfl, .inr ⟨g, 0, rfl, fun j hj => ?_⟩⟩
    have hc : ∀ i, (hi : i < 2) → w.cell? ⟨g, 0 + j * 2 + i, none⟩ = (entC l[j])[i]? := fun i hi => by
      have := h.cells (g := g) rfl (j * 2 + i) ((entC l[j])[i]'(by simp [entC]; exact hi)) (by rw [entsC_at l j i hj hi, List.getElem?_eq_getElem])
      rw [Addr.add_lit] at this
      rw [show 0 + j * 2 + i = 0 + (j * 2 + i) by omega, this, List.getElem?_eq_getElem]
    exact ⟨hc 0 (by omega), hc 1 (by omega)⟩
/-- A row of strings of the call's own, cell by cell. -/
theorem own_cells1 {w : World} {base e : Nat} {v : Value} {n : Nat} {ss : List (List UInt8)} (h : w.ownsRow base e 1 v n (ss.map Go.Proofs.encStr)) : ∃ A c, v = .slice A n c ∧ ∀ j, (hj : j < ss.length) → ∃ g, A = some ⟨g, 0, none⟩ ∧ base ≤ g ∧ w.cell? ⟨g, j, none⟩ = some (.string ⟨(ss[j]).toArray⟩) := by
  have hl : ss.length = n := by have := h.1; simpa using this
  rcases h.2 with ⟨rfl, rfl⟩ | ⟨g, cap, cur, rfl, hb, hg, hnc, _, _, htake⟩
  · exact ⟨none, 0, rfl, fun j hj => by omega⟩
  · refine ⟨_, cap, rfl, fun j hj => ⟨g, rfl, hb, ?_⟩⟩
    have hc := h.cells (g := g) rfl j (Go.Proofs.encStr ss[j]) (by simp [hj])
    rw [Addr.add_lit, Nat.zero_add] at hc
    exact hc
theorem strKeys_dat1 (L : NL) : strKeys (dat1 L) = L.map (·.1) := by
  unfold strKeys dat1
  simp only [List.map_map]
  rfl
theorem sorted_keys {L : NL} {ss : List (List UInt8)} (hs : L.Pairwise (fun p q => p.1 < q.1)) (hp : ss.Perm (strKeys (dat1 L))) : ss.mergeSort (fun x y => decide (x ≤ y)) = L.map (·.1) := by
  rw [strKeys_dat1] at hp
  have h1 := mergeSort_of_perm hp
  have h2 : ss.mergeSort (fun x y => decide (x ≤ y)) = (L.map (·.1)).mergeSort (fun x y => decide (x ≤ y)) := h1
  rw [h2]
  refine List.mergeSort_of_pairwise ?_
  refine List.pairwise_map.2 (hs.imp fun hlt => ?_)
  simp only [decide_eq_true_eq]
  exact List.le_of_lt hlt
section
variable {W W' : World} {pn b1 b2 : Nat} {L : NL}
theorem mkeys_any (mb : Option Nat) (W : World) : Calls Try.prog 24 #[.map mb] W fun e w' => e = .returned (.func (.func 27) #[] #[.pointer (some ⟨W.heap.size, 0, none⟩)]) ∧ w' = W.alloc (.cells #[.map mb] 53) :=
  callsIn_wide.1 (Try.maps_Keys_24 mb W)
/-- The names, sorted, in new memory. -/
def KeyRow (B : Nat) (V : World) (A : Option Addr) (L : NL) : Prop := ∀ j, (hj : j < L.length) → ∃ g, A = some ⟨g, 0, none⟩ ∧ B ≤ g ∧ V.cell? ⟨g, j, none⟩ = some (.string ⟨(L[j]).1.toArray⟩)
theorem msorted_any (h : NmAt W pn b1 b2 L) (hl : L.length ≤ 1000000) :
    Calls Try.prog 23 #[.func (.func 27) #[] #[.pointer (some ⟨W.heap.size, 0, none⟩)]] (W.alloc (.cells #[.map (some b1)] 53)) fun e w' => ∃ A c, e = .returned (.slice A L.length c) ∧ KeyRow W.heap.size w' A L ∧ Below W.heap.size W w' := by
  obtain ⟨K, h1, h2, hok⟩ := h.all
  refine (callsIn_wide.1 (Try.slices_Sorted_keys_23_24 b1 L.length (dat1 L) _ W h1 (by rw [size_dat1]; unfold maxLen; omega) (by rw [size_dat1]; omega))).mono ?_
  rintro e w' ⟨v, ss, rfl, hp, hown, _, hb⟩
  have hs := sorted_keys hok.srt hp
  have hlen : ss.length = L.length := by
    have := hp.length_eq
    rw [strKeys_dat1] at this
    simpa using this
  rw [hs, hlen] at hown
  obtain ⟨A, c, rfl, hc⟩ := own_cells1 hown
  refine ⟨A, c, rfl, fun j hj => ?_, below_step (below_alloc _ _) hb⟩
  obtain ⟨g, hA, hg, hcell⟩ := hc j (by simpa using hj)
  refine ⟨g, hA, ?_, ?_⟩
  · have : (W.alloc (.cells #[.map (some b1)] 53)).heap.size = W.heap.size + 1 := by simp
    omega
  · simpa using hcell

theorem own_base {V : World} {B B' e z : Nat} {v : Value} {n : Nat} {xs : List Value} (h : V.ownsRow B' e z v n xs) (hB : B ≤ B') : V.ownsRow B e z v n xs := by
  refine ⟨h.1, ?_⟩
  rcases h.2 with h9 | ⟨g, cap, cur, hv, hb, r⟩
  · exact .inl h9
  · exact .inr ⟨g, cap, cur, hv, Nat.le_trans hB hb, r⟩
theorem cs_one2 {V : World} {g t : Nat} {u v : Value} (h : Blk V g t #[u, v]) : Cs V (some ⟨g, 0, none⟩) [u, v] := by
  refine .inr ⟨_, rfl, fun j w hj => ?_⟩
  rw [Addr.add_lit, Nat.zero_add, h.cell j]
  simpa using hj
theorem entC_one (q : List UInt8 × Int) : ∀ u ∈ entC q, u.oneCell' = true := by
  intro u hu
  simp only [entC, List.mem_cons, List.mem_nil_iff, or_false] at hu
  rcases hu with rfl | rfl <;> rfl

set_option maxRecDepth 100000 in
set_option maxHeartbeats 2000000 in
theorem nall_any (h : NmAt W pn b1 b2 L) (hl : L.length ≤ 1000000) :
    Calls Try.prog 22 #[.pointer (some ⟨pn, 0, none⟩)] W fun e w' => ∃ v, e = .returned v ∧ w'.ownsRow W.heap.size 33 2 v L.length (entsC L) ∧ Below W.heap.size W w' := by
  have HK := Lib.hid (mkeys_any (some b1) W)
  have HS := Lib.hid (msorted_any h hl)
  have HH := Lib.hid h
  have c0 := h.obj.cell 0
  obtain ⟨n, hn⟩ : ∃ n, L.length = n := ⟨_, rfl⟩
  rw [hn] at HS hl ⊢
  have HN := Lib.hid hn
  clear h hn
  go_enter Try.func22, Try.ntmps22
  go_upto_region 4 with (first
    | (go_at_call 24; refine HK.out.mono ?_; rintro e w1 ⟨rfl, rfl⟩)
    | (go_at_call 23; refine HS.out.mono ?_; rintro e w2 ⟨A, cA, rfl, hcells, hb⟩))
  have HC := Lib.hid hcells
  have HB := Lib.hid hb
  have hN2 := HH.out.keep hb
  have HH2 := Lib.hid hN2
  obtain ⟨W2, hW2⟩ : ∃ W2, W2 = w2 := ⟨_, rfl⟩
  rw [← hW2] at HC HB HH2 ⊢
  clear hcells HK HS hb hN2 hW2 c0
  go_loopw [2, 14] (fun u v wx => ∃ (i : Nat), i ≤ n ∧ v = .int .i64 (i : Int) ∧ wx.ownsRow W2.heap.size 33 2 u i (entsC (L.take i)) ∧ Below W2.heap.size W2 wx) (fun _ v _ => n - (intOf v).toNat)
  case atStart => exact ⟨0, Nat.zero_le _, rfl, World.ownsRow_nil _ _ _ _, Below.refl _ _⟩
  case round =>
    obtain ⟨i, hi, rfl, hown, hbx⟩ := hrel
    by_cases hlt : i < n
    · have hd8 : decide (i < n) = true := by simp; omega
      have hkl : i < L.length := by rw [HN.out]; exact hlt
      obtain ⟨g, rfl, hg, hc⟩ := HC.out i hkl
      have e0 := (hbx.cell (World.block_lt_of_cell? W2 _ hc)).trans hc
      have hNx := HH2.out.keep hbx
      have c1 := hNx.obj.cell 0
      obtain ⟨K, m1, m2, hok⟩ := hNx.all
      have hmem : L[i] ∈ L := List.getElem_mem hkl
      have hnm := (hok.nm _ hmem).2.1
      have hget := hok.get1_iff.2 (show (L[i].1, L[i].2) ∈ L from hmem)
      have hlk := look1' m1 (s := L[i].1) (by unfold maxLen; omega)
      rw [hget] at hlk
      simp only [Option.getD_some] at hlk
      have HT := Lib.hid (List.take_succ_eq_append_getElem hkl)
      generalize L[i] = x at *
      obtain ⟨s, p⟩ := x
      simp only at e0 hlk
      have HOW := Lib.hid hown
      have HBX := Lib.hid hbx
      have HSZ : Hid (W2.heap.size ≤ wr.heap.size) := hbx.size
      have HCS := Lib.hid (cs_one2 (Blk.new wr 33 #[.string ⟨s.toArray⟩, .int .i64 p]))
      clear hown hbx hNx m1 m2 hok hmem hnm hget hc hkl
      go_wp2_with (at_builtin; refine wpList_app entT rfl (.tmp 18) (.tmp 27) rfl W2.heap.size _ i (entsC (L.take i)) rfl (HOW.out.alloc _) (some ⟨wr.heap.size, 0, none⟩) 1 1 [.string ⟨s.toArray⟩, .int .i64 p] rfl rfl HCS.out (entC_one (s, p)) (by unfold maxLen; omega) (by omega) (Nat.le_trans HSZ.out (by simp)) ?_; intro v' w3 ho3 hg3 hat3)
      go_roundw
      case rel => exact ⟨i + 1, by omega, by go_num, by rw [HT.out, entsC_append]; exact ho3, (HBX.out.alloc (Below.size HBX.out) _).grown hg3 (Nat.le_trans (Below.size HBX.out) (by simp)) (fun k hk => (World.ownsRow.lt HOW.out k hk).1)⟩
      case measure => simp [intOf]; omega
    · have hd8 : decide (i < n) = false := by simp; omega
      have hin : i = n := by omega
      subst hin
      rw [show L.take i = L by rw [← HN.out, List.take_length]] at hown
      have HOW := Lib.hid hown
      have HBX := Lib.hid hbx
      clear hown hbx
      go_wp2
      go_ret
      exact ⟨_, rfl, own_base HOW.out (Below.size HB.out), below_step HB.out HBX.out⟩
end
end Go.Proofs.Ytfkolemkmhcbfaa
