/- Names (layer 19): the walk of New. -/
import Derived.Test.YtfkolemkmhcbfaaNaB
namespace Go.Proofs.Ytfkolemkmhcbfaa
open Go.RowKit Go.Maps Go.WideMaps
set_option linter.unusedVariables false

/-- A slice of entries. -/
def RdE (w : World) (A : Option Addr) (l : NL) : Prop :=
  l = [] ∨ ∃ b off, A = some ⟨b, off, none⟩ ∧ ∀ j, (h : j < l.length) → w.cell? ⟨b, off + j * 2, none⟩ = some (.string ⟨l[j].1.toArray⟩) ∧ w.cell? ⟨b, off + j * 2 + 1, none⟩ = some (.int .i64 l[j].2)
theorem RdE.below {w w' : World} {A : Option Addr} {l : NL} (h : RdE w A l) (hb : Below w.heap.size w w') : RdE w' A l := by
  rcases h with rfl | ⟨b, off, rfl, h⟩
  · exact .inl rfl
  · exact .inr ⟨b, off, rfl, fun j hj => ⟨(hb.cell (World.block_lt_of_cell? w _ (h j hj).1)).trans (h j hj).1, (hb.cell (World.block_lt_of_cell? w _ (h j hj).2)).trans (h j hj).2⟩⟩
theorem RdE.at_ {w : World} {A : Option Addr} {l : NL} (h : RdE w A l) {j : Nat} (hj : j < l.length) : ∃ b off, A = some ⟨b, off, none⟩ ∧ w.cell? ⟨b, off + j * 2, none⟩ = some (.string ⟨l[j].1.toArray⟩) ∧ w.cell? ⟨b, off + j * 2 + 1, none⟩ = some (.int .i64 l[j].2) := by
  rcases h with rfl | ⟨b, off, rfl, h⟩
  · simp at hj
  · exact ⟨b, off, rfl, (h j hj).1, (h j hj).2⟩
/-- What may be asked of an entry's name and pid. -/
def EOk (x : List UInt8 × Int) : Prop := x.1.length ≤ maxLen ∧ (Lit.int .i64 x.2).wf = true
def newP : NL → NL → Nat × NL
  | L, [] => (0, L)
  | L, x :: r => if (addP L x.1 x.2).1 = 0 then newP (addP L x.1 x.2).2 r else ((addP L x.1 x.2).1, L)
theorem newP_drop {L l : NL} {i : Nat} (h : i < l.length) : newP L (l.drop i) = if (addP L l[i].1 l[i].2).1 = 0 then newP (addP L l[i].1 l[i].2).2 (l.drop (i + 1)) else ((addP L l[i].1 l[i].2).1, L) := by
  rw [List.drop_eq_getElem_cons h]
  rfl
theorem addP_len (L : NL) (s : List UInt8) (p : Int) : (addP L s p).2.length ≤ L.length + 1 := by
  unfold addP
  repeat' split
  · simp
  · simp
  · simp [len_ins1]
theorem Nm_new (W : World) : NmAt (((W.alloc (.map #[] 0)).alloc (.map #[] 0)).alloc (.cells #[.map (some W.heap.size), .map (some (W.heap.size + 1))] 56)) (W.heap.size + 2) W.heap.size (W.heap.size + 1) [] := by
  have e1 : (W.alloc (.map #[] 0)).heap.size = W.heap.size + 1 := by simp
  have e2 : ((W.alloc (.map #[] 0)).alloc (.map #[] 0)).heap.size = W.heap.size + 2 := by simp
  refine ⟨?_, by omega, [], ?_, ?_, ⟨List.Pairwise.nil, List.Pairwise.nil, fun s p => by simp, fun q hq => by simp at hq⟩⟩
  · have := Blk.new ((W.alloc (.map #[] 0)).alloc (.map #[] 0)) 56 #[.map (some W.heap.size), .map (some (W.heap.size + 1))]
    rw [e2] at this
    exact this
  · exact ((World.ownsMap_made W Try.prog 9 (plainElem (H := Unit) Try.prog 2)).alloc _).alloc _
  · have := (World.ownsMap_made (W.alloc (.map #[] 0)) Try.prog 2 (plainElem (H := Unit) Try.prog 9)).alloc (.cells #[.map (some W.heap.size), .map (some (W.heap.size + 1))] 56)
    rw [e1] at this
    exact this
section
variable {W W' : World} {pn b1 b2 : Nat} {L : NL}
def NNewEnds (W : World) (l : NL) (e : Ending) (W' : World) : Prop :=
  Below W.heap.size W W' ∧ (((newP [] l).1 ≠ 0 ∧ e = .returned (.tuple #[.pointer none, .int .i64 ((newP [] l).1 : Nat)])) ∨
    ((newP [] l).1 = 0 ∧ ∃ pn b1 b2, e = .returned (.tuple #[.pointer (some ⟨pn, 0, none⟩), .int .i64 0]) ∧ NmAt W' pn b1 b2 (newP [] l).2 ∧ W.heap.size ≤ pn ∧ W.heap.size ≤ b1 ∧ W.heap.size ≤ b2))

set_option maxRecDepth 100000 in
set_option maxHeartbeats 2000000 in
theorem nnew_any (l : NL) (A : Option Addr) (n c : Nat) (W : World) (hn : l.length = n) (hn2 : n ≤ 100000) (hr : RdE W A l) (ho : ∀ x ∈ l, EOk x) :
    Calls Try.prog 10 #[.slice A n c] W (NNewEnds W l) := by
  have HN := Lib.hid hn
  have HO := Lib.hid ho
  have HR := Lib.hid hr
  have HNEW := Lib.hid (Nm_new W)
  have hmm := @run_makeMap Try.prog
  clear hn ho hr
  go_enter Try.func10, Try.ntmps10
  go_upto_region 3 with (fail)
  refine wp_world (fun V => NmAt V (W.heap.size + 2) W.heap.size (W.heap.size + 1) [] ∧ Below W.heap.size W V) ⟨HNEW.out, below_step (below_step (below_alloc _ _) (below_alloc _ _)) (below_alloc _ _)⟩ ?_
  rintro V1 ⟨hN1, hbel1⟩
  have HSZ : Hid (W.heap.size ≤ W.heap.size + 2 ∧ W.heap.size ≤ W.heap.size ∧ W.heap.size ≤ W.heap.size + 1) := ⟨by omega, by omega, by omega⟩
  clear hmm HNEW
  generalize hpn : W.heap.size + 2 = pn at *
  generalize hb2 : W.heap.size + 1 = b2 at *
  obtain ⟨b1, hb1⟩ : ∃ b1, W.heap.size = b1 := ⟨_, rfl⟩
  have HB1 := Lib.hid hb1
  rw [hb1] at hN1 ⊢
  have HLO : Hid (∀ k, (k = b1 ∨ k = b2) → W.heap.size ≤ k) := fun k hk => by rcases hk with rfl | rfl <;> omega
  clear hpn hb2 hb1
  go_loopw [14] (fun v wx => ∃ (i : Nat) (L' : NL), i ≤ n ∧ v = .int .i64 (i : Int) ∧ newP [] l = newP L' (l.drop i) ∧ NmAt wx pn b1 b2 L' ∧ Below W.heap.size W wx ∧ L'.length ≤ i) (fun v _ => n - (intOf v).toNat)
  case atStart => exact ⟨0, [], Nat.zero_le _, rfl, rfl, hN1, hbel1, Nat.le_refl _⟩
  case round =>
    obtain ⟨i, L', hi, rfl, hP, hN, hbel, hlen⟩ := hrel
    clear hN1 hbel1
    have HP := Lib.hid hP
    have HBEL := Lib.hid hbel
    clear hP
    by_cases hlt : i < n
    · have hd8 : decide (i < n) = true := by simp; omega
      have hkl : i < l.length := by rw [HN.out]; exact hlt
      obtain ⟨b, o, rfl, h0, h1⟩ := HR.out.at_ hkl
      have e0 := (hbel.cell (World.block_lt_of_cell? W _ h0)).trans h0
      have e1 := (hbel.cell (World.block_lt_of_cell? W _ h1)).trans h1
      have HD := Lib.hid (newP_drop (L := L') hkl)
      have hok := HO.out _ (List.getElem_mem hkl)
      generalize l[i] = x at *
      obtain ⟨s, p⟩ := x
      simp only at e0 e1 HD
      have HA := Lib.hid (fun V (hV : NmAt V pn b1 b2 L') => nadd_any hV s p hok.1 hok.2 (by omega))
      have HAL := Lib.hid (addP_len L' s p)
      obtain ⟨⟨er, L2⟩, hx⟩ : ∃ x, addP L' s p = x := ⟨_, rfl⟩
      rw [hx] at HA HD HAL
      simp only at HA HD HAL
      have hNk := hN.keep (below_alloc wr (.cells #[.string ⟨s.toArray⟩, .int .i64 p] 33))
      have HNK := Lib.hid hNk
      clear h0 h1 hok hN hNk hx hbel hkl
      by_cases her : er = 0
      · subst her
        go_wp2_with (go_at_call 12; refine (HA.out _ HNK.out).mono ?_; rintro e w' ⟨rfl, hN', hF⟩)
        go_roundw
        case rel => exact ⟨i + 1, L2, by omega, by go_num, by rw [HP.out, HD.out, if_pos trivial], hN', HBEL.out.trans ((below_alloc _ _).mono (Below.size HBEL.out) |>.trans (hF.below (Nat.le_trans (Below.size HBEL.out) (by simp)) HLO.out)), by have := HAL.out; omega⟩
        case measure => simp [intOf]; omega
      · have hne : ((er : Int) != 0) = true := by simp; omega
        go_wp2_with (go_at_call 12; refine (HA.out _ HNK.out).mono ?_; rintro e w' ⟨rfl, hN', hF⟩)
        have hE : newP [] l = (er, L') := by rw [HP.out, HD.out, if_neg her]
        exact bodyPost_ret (v := .tuple #[.pointer none, .int .i64 (er : Int)]) (by simp [results, Try.results10, go_sem]) rfl ⟨HBEL.out.trans ((below_alloc _ _).mono (Below.size HBEL.out) |>.trans (hF.below (Nat.le_trans (Below.size HBEL.out) (by simp)) HLO.out)), .inl ⟨by rw [hE]; exact her, by rw [hE]⟩⟩
    · have hd8 : decide (i < n) = false := by simp; omega
      have HNN := Lib.hid hN
      clear hN hbel
      have hin : i = n := by omega
      have hE : newP [] l = (0, L') := by
        rw [HP.out, hin, ← HN.out, List.drop_length]
        rfl
      have HE := Lib.hid hE
      clear hE hin
      go_wp2
      exact bodyPost_ret (v := .tuple #[.pointer (some ⟨pn, 0, none⟩), .int .i64 0]) (by simp [results, Try.results10, go_sem]) rfl ⟨HBEL.out, .inr ⟨by rw [HE.out], pn, b1, b2, rfl, by rw [HE.out]; exact HNN.out, HSZ.out.1, by rw [HB1.out]; exact Nat.le_refl _, HSZ.out.2.2⟩⟩
end
end Go.Proofs.Ytfkolemkmhcbfaa
