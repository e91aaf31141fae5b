/- The walk of the reference's Parts of layer 3. -/
import Derived.Test.YthdhinhedgcbcaaSRefA
import Derived.Lib.IndexBytes
import Derived.Lib.Strings
namespace Go.Proofs.Ythdhinhedgcbcaa
open Go.RowKit
set_option linter.unusedVariables false

/-- Bytes as a text's value. -/
def tv (l : List UInt8) : Value := .string ⟨l.toArray⟩
theorem tvs_one (l : List (List UInt8)) : ∀ u ∈ l.map tv, u.oneCell' = true := by
  intro u hu
  obtain ⟨c, _, rfl⟩ := List.mem_map.1 hu
  rfl
/-- A slice with the address A reads as these texts. -/
def RdS (w : World) (A : Option Addr) (ls : List (List UInt8)) : Prop := ls = [] ∨ ∃ b off, A = some ⟨b, off, none⟩ ∧ ∀ j, (h : j < ls.length) → w.cell? ⟨b, off + j, none⟩ = some (tv ls[j])
theorem RdS.below {w w' : World} {A : Option Addr} {ls : List (List UInt8)} (h : RdS w A ls) (hb : Below w.heap.size w w') : RdS w' A ls := by
  rcases h with rfl | ⟨b, off, rfl, h⟩
  · exact .inl rfl
  · exact .inr ⟨b, off, rfl, fun j hj => (hb.cell (World.block_lt_of_cell? w ⟨b, off + j, none⟩ (h j hj))).trans (h j hj)⟩
theorem RdS.at_ {w : World} {A : Option Addr} {ls : List (List UInt8)} (h : RdS w A ls) {k : Nat} (hk : k < ls.length) : ∃ b off, A = some ⟨b, off, none⟩ ∧ w.cell? ⟨b, off + k, none⟩ = some (tv ls[k]) := by
  rcases h with rfl | ⟨b, off, rfl, h⟩
  · simp at hk
  · exact ⟨b, off, rfl, h k hk⟩
theorem rds_of_own {W : World} {base m cv : Nat} {Av : Option Addr} {ls : List (List UInt8)} (ho : W.ownsRow base 9 1 (.slice Av m cv) m (ls.map tv)) (hl : ls.length = m) : RdS W Av ls := by
  rcases Nat.eq_zero_or_pos m with h0 | h0
  · exact .inl (List.eq_nil_of_length_eq_zero (by omega))
  · obtain ⟨g, cap, hv, _, _⟩ := ho.form h0
    obtain ⟨rfl, _, rfl⟩ := Value.slice.inj hv
    refine .inr ⟨g, 0, rfl, fun j hj => ?_⟩
    rw [Nat.zero_add, ho.cellAt j (by omega), List.getElem?_map, List.getElem?_eq_getElem hj]
    rfl
theorem textsT : ElT Try.prog 44 9 (.string ⟨#[]⟩) 1 16 := ⟨Try.underlying44, by kernel_rfl, rfl, by omega⟩
def RPartsEnds (w : World) (ls : List (List UInt8)) (e : Ending) (w' : World) : Prop :=
  ∃ A m c, e = .returned (.slice A m c) ∧ ls.length = m ∧ RdS w' A ls ∧ Below w.heap.size w w'
theorem tv_extract {ps : ByteArray} {l : List UInt8} {k : Nat} (h : ps.data.toList = l) : Value.string (ps.extract 0 k) = tv (l.take k) := by
  unfold tv
  congr 1
  apply ByteArray.ext
  apply Array.toList_inj.1
  rw [Lib.extract_data, h]
  simp
theorem drop_extract {ps : ByteArray} {l : List UInt8} {k : Nat} (h : ps.data.toList = l) : (ps.extract k ps.size).data.toList = l.drop k := by
  rw [Lib.extract_to_end, h]
theorem cs_one_val (w : World) (v : Value) (t : TypeId) : Cs (w.alloc (.cells #[v] t)) (some ⟨w.heap.size, 0, none⟩) [v] := .inr ⟨_, rfl, cell_one_new w v t⟩

set_option maxRecDepth 100000 in
set_option maxHeartbeats 2000000 in
theorem rparts_in (size : Int) (r : Nat) (l : List UInt8) (n : Nat) (w : World) (hrm : room size = (r : Int)) (hr1 : 1 ≤ r) (hr2 : r ≤ 100000) (hl : l.length = n) (hn : n ≤ 1000000) :
    Calls Try.prog 16 #[.int .i64 size, .string ⟨l.toArray⟩] w (RPartsEnds w (chunks r l)) := by
  have HRM := Lib.hid (fun W => rroom_any size W)
  rw [hrm] at HRM
  have hr0 : decide (0 < (r : Int)) = true := by simp; omega
  have HL := Lib.hid hl
  have hN := pieces_le (n := n) hr1
  clear hrm hl
  go_enter Try.func16, Try.ntmps16
  go_upto_region 3 with (go_at_call 18; refine (HRM.out _).mono ?_; rintro e w' ⟨rfl, rfl⟩)
  go_wp2
  go_loopw [1, 6] (fun p v wr => ∃ (i : Nat) (ps : ByteArray), i ≤ (n + r - 1) / r ∧ p = .string ps ∧ ps.data.toList = l.drop (i * r) ∧ wr.ownsRow w.heap.size 9 1 v i ((upto (fun j => (l.drop (j * r)).take r) i).map tv) ∧ Below w.heap.size w wr)
    (fun p _ _ => match p with | .string s => s.size | _ => 0)
  case atStart => exact ⟨0, ⟨l.toArray⟩, Nat.zero_le _, rfl, by simp, World.ownsRow_nil _ _ _ _, Below.refl _ _⟩
  case round =>
    obtain ⟨i, ps, hi, rfl, hps, hown, hb⟩ := hrel
    have hsz : ps.size = n - i * r := by
      have : ps.size = ps.data.toList.length := by rw [Array.length_toList]; rfl
      rw [this, hps, List.length_drop, HL.out]
    have HPS := Lib.hid hps
    have HSZ := Lib.hid hsz
    by_cases hlt : i < (n + r - 1) / r
    · have hlt2 := pieces_lt hr1 hlt
      have hp1 : 0 < ps.size := by omega
      have hp2 : ps.size ≤ 1000000 := by omega
      have hd2 : decide (0 < (ps.size : Int)) = true := by simp; omega
      have HOW := fun (x : Value) => hown.alloc (w := wr) (.cells #[x] 9)
      have HOWH := Lib.hid HOW
      have hbs : ∀ x : Value, w.heap.size ≤ (wr.alloc (.cells #[x] 9)).heap.size := fun x => by have := hb.size; simp; omega
      have HBS := Lib.hid hbs
      have HBB := Lib.hid (fun (x : Value) => below_step hb (below_alloc wr (.cells #[x] 9)))
      have hmx : i + 1 ≤ maxLen := by unfold maxLen; omega
      have hbx : (i + 1) * 16 ≤ 140737488355328 := by omega
      have hone := tvs_one [(l.drop (i * r)).take r]
      have HX := Lib.hid (show (upto (fun j => (l.drop (j * r)).take r) i).map tv ++ [(l.drop (i * r)).take r].map tv = (upto (fun j => (l.drop (j * r)).take r) (i + 1)).map tv by rw [upto_succ, List.map_append])
      have HIR := Lib.hid (Nat.succ_mul i r)
      clear hps hsz HOW hbs
      by_cases hmin : ps.size < r
      · have HV : Hid (Value.string ps = tv ((l.drop (i * r)).take r)) := by
          have h1 : (l.drop (i * r)).take r = l.drop (i * r) := List.take_of_length_le (by rw [← HPS.out, Array.length_toList]; exact Nat.le_of_lt hmin)
          have h2 := tv_extract (k := ps.size) HPS.out
          rw [h1, ← HPS.out]
          rfl
        have HCS := Lib.hid (cs_one_val wr (.string ps) 9)
        have HX1 := Lib.hid (show (upto (fun j => (l.drop (j * r)).take r) i).map tv ++ [Value.string ps] = (upto (fun j => (l.drop (j * r)).take r) (i + 1)).map tv by rw [HV.out]; exact HX.out)
        have hone1 : ∀ u ∈ [Value.string ps], u.oneCell' = true := fun u hu => by rw [List.mem_singleton.1 hu]; rfl
        go_wp2_with (at_builtin; refine wpList_app textsT rfl (.tmp 21) (.tmp 25) rfl w.heap.size _ i _ rfl (HOWH.out _) (some ⟨wr.heap.size, 0, none⟩) 1 1 [.string ps] rfl rfl HCS.out hone1 hmx hbx (HBS.out _) ?_; intro v2 w2 hown2 hgr2 _; rw [HX1.out] at hown2)
        have hb2 : Below w.heap.size w w2 := (HBB.out (.string ps)).grown hgr2 (HBS.out _) (fun k hk => (World.ownsRow.lt hown k hk).1)
        have hle : n ≤ (i + 1) * r := by rw [HIR.out]; have := HSZ.out; omega
        refine ⟨⟨i + 1, _, hlt, rfl, ?_, hown2, hb2⟩, ?_⟩
        · rw [List.drop_eq_nil_of_le (by rw [HL.out]; exact hle)]
          rfl
        · show ByteArray.empty.size < ps.size
          exact hp1
      · have HV := Lib.hid (tv_extract (k := r) HPS.out)
        have HCS := Lib.hid (cs_one_val wr (.string (ps.extract 0 r)) 9)
        have HX1 := Lib.hid (show (upto (fun j => (l.drop (j * r)).take r) i).map tv ++ [Value.string (ps.extract 0 r)] = (upto (fun j => (l.drop (j * r)).take r) (i + 1)).map tv by rw [HV.out]; exact HX.out)
        have hone1 : ∀ u ∈ [Value.string (ps.extract 0 r)], u.oneCell' = true := fun u hu => by rw [List.mem_singleton.1 hu]; rfl
        go_wp2_with (at_builtin; refine wpList_app textsT rfl (.tmp 21) (.tmp 25) rfl w.heap.size _ i _ rfl (HOWH.out _) (some ⟨wr.heap.size, 0, none⟩) 1 1 [.string (ps.extract 0 r)] rfl rfl HCS.out hone1 hmx hbx (HBS.out _) ?_; intro v2 w2 hown2 hgr2 _; rw [HX1.out] at hown2)
        have hb2 : Below w.heap.size w w2 := (HBB.out (.string (ps.extract 0 r))).grown hgr2 (HBS.out _) (fun k hk => (World.ownsRow.lt hown k hk).1)
        refine ⟨⟨i + 1, _, hlt, rfl, ?_, hown2, hb2⟩, ?_⟩
        · rw [drop_extract HPS.out, List.drop_drop, HIR.out]
        · show (ps.extract r ps.size).size < ps.size
          have h9 : (ps.extract r ps.size).size = (ps.extract r ps.size).data.toList.length := by rw [Array.length_toList]; rfl
          have h8 : ps.size = ps.data.toList.length := by rw [Array.length_toList]; rfl
          rw [h9, Lib.extract_to_end, List.length_drop, ← h8]
          omega
    · obtain rfl : i = (n + r - 1) / r := by omega
      have hge := pieces_ge (n := n) hr1
      have hp1 : ps.size = 0 := by omega
      have hd2 : decide (0 < (ps.size : Int)) = false := by rw [hp1]; rfl
      clear hps hsz
      go_wp2
      go_ret
      have hc : upto (fun j => (l.drop (j * r)).take r) ((n + r - 1) / r) = chunks r l := by unfold chunks; rw [HL.out]
      rw [hc] at hown
      obtain ⟨Av, cv, hv⟩ := own_slice hown
      subst hv
      have hcl : (chunks r l).length = (n + r - 1) / r := by rw [chunks_len, HL.out]
      exact ⟨Av, _, cv, rfl, hcl, rds_of_own hown hcl, hb⟩

set_option maxHeartbeats 1000000 in
theorem rparts_no (size : Int) (s : ByteArray) (w : World) (hrm : room size = 0) : Calls Try.prog 16 #[.int .i64 size, .string s] w (RPartsEnds w []) := by
  have HRM := Lib.hid (fun W => rroom_any size W)
  rw [hrm] at HRM
  clear hrm
  go_enter Try.func16, Try.ntmps16
  go_upto_region 3 with (go_at_call 18; refine (HRM.out _).mono ?_; rintro e w' ⟨rfl, rfl⟩)
  go_wp2
  refine wp_loop_rounds 1 ?_
  rw [rounds_succ]
  go_wp2
  go_ret
  exact ⟨none, 0, 0, rfl, rfl, .inl rfl, Below.refl _ _⟩
theorem rparts_any (size : Int) (l : List UInt8) (n : Nat) (w : World) (hl : l.length = n) (hn : n ≤ 1000000) : Calls Try.prog 16 #[.int .i64 size, .string ⟨l.toArray⟩] w (RPartsEnds w (partsP size l)) := by
  have hb := room_bd size
  by_cases h : room size = 0
  · rw [show partsP size l = [] by unfold partsP; rw [if_pos h]]
    exact rparts_no size _ w h
  · rw [show partsP size l = chunks (room size).toNat l by unfold partsP; rw [if_neg h]]
    exact rparts_in size (room size).toNat l n w (by omega) (by omega) (by omega) hl hn
end Go.Proofs.Ythdhinhedgcbcaa
