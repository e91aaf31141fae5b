/- The walk of the reference's Lay of layer 8. -/
import Derived.Test.YtommadcjemljcaaEncN
namespace Go.Proofs.Ytommadcjemljcaa
open Go.RowKit
set_option linter.unusedVariables false

section
variable {base : Nat} {W V V' : World} {v0 v v' : Value} {l m : List UInt8} {cs : List Value}
theorem LS.grow (h : LS base W V v0 v l cs) (ho : V'.ownsRow base 5 1 v' (l ++ m).length ((l ++ m).map bv)) (hg : Grow V V' v v') : LS base W V' v0 v' (l ++ m) cs :=
  ⟨ho, h.gr.trans hg, h.box.grown hg.gr (Ne.symm (own_ntag h.own h.box (by decide))), h.base_⟩
theorem LS.size (h : LS base W V v0 v l cs) : base ≤ V.heap.size := by have := h.gr.gr.size; have := h.base_; omega
theorem qls_num (h : LS base W V v0 v l cs) (n : Nat) (hn : n < 18446744073709551616) (hl : l.length + 18 ≤ 140737488355328) :
    Calls Try.prog 21 #[v, .int .u64 n] V (LayOut base W v0 (l ++ laidB n 0) cs) :=
  (rUint_own v l n V base h.own h.size hn (by omega)).mono fun r w' ⟨v', hr, ho, hg⟩ => lay_out (h.grow ho hg) hr
theorem qls_int (h : LS base W V v0 v l cs) (z : Int) (h1 : -9223372036854775808 ≤ z) (h2 : z ≤ 9223372036854775807) (hl : l.length + 18 ≤ 140737488355328) :
    Calls Try.prog 45 #[v, .int .i64 z] V (LayOut base W v0 (l ++ laidI z) cs) :=
  (rInt_own v l z V base h.own h.size h1 h2 (by omega)).mono fun r w' ⟨v', hr, ho, hg⟩ => lay_out (h.grow ho hg) hr
theorem qls_str (h : LS base W V v0 v l cs) (s : List UInt8) (hs : s.length ≤ 255) (hl : l.length + 300 ≤ 140737488355328) :
    Calls Try.prog 46 #[v, .string ⟨s.toArray⟩] V (LayOut base W v0 (l ++ laidS s) cs) :=
  (rText_own v l s V base h.own h.size (by omega)).mono fun r w' ⟨v', hr, ho, hg⟩ => lay_out (h.grow ho hg) hr
end

/-- What is asked of the items. -/
def QLayItem (w0 : World) (l : List TV) : Prop := ∀ (k : Nat) (h : k < l.length) (A' : Option Addr) (c' : Nat) (v : Value) (bl : List UInt8) (W : World), Below w0.heap.size w0 W → RdM w0 A' c' l[k].items → W.ownsRow w0.heap.size 5 1 v bl.length (bl.map bv) → bl.length + 300 * l[k].parts ≤ 100000000 →
  Calls Try.prog 22 #[v, .agg #[.int .i64 l[k].kind, .int .i64 l[k].int, .string ⟨l[k].name.toArray⟩, .slice A' l[k].items.length c']] W (LayEnds w0 W v (bl ++ layT l[k]))

set_option maxRecDepth 100000 in
set_option maxHeartbeats 2000000 in
theorem qlay_k1 (n : Int) (hn1 : -576460752303423488 ≤ n) (hn2 : n ≤ 576460752303423487) (l : List TV) (A : Option Addr) (len c : Nat) (v : Value) (bl : List UInt8) (w0 W : World) (hlen : l.length = len) (hl0 : l = []) (hlc : len ≤ 10000) (hL : TV.isL l = true) (hW : Below w0.heap.size w0 W) (hR : RdM w0 A c l) (ho : W.ownsRow w0.heap.size 5 1 v bl.length (bl.map bv)) (hsz : bl.length + 300 * (TV.partsL l + 1) ≤ 100000000) (hit : QLayItem w0 l) :
    Calls Try.prog 22 #[v, .agg #[.int .i64 1, .int .i64 n, .string ⟨#[]⟩, .slice A len c]] W (LayEnds w0 W v (bl ++ (1 :: laidI n) ++ layTs l)) := by
  have HLEN := Lib.hid hlen
  have HIT := Lib.hid hit
  have HL := Lib.hid hL
  have hbase := hW.size
  have hlen9 := layTs_len l hL
  obtain ⟨Av, cv, rfl, -⟩ := own_rd ho
  have HO := Lib.hid ho
  have HST := Lib.hid (LS.start ho hbase [.int .i64 1, .int .i64 n, .string ⟨#[]⟩, .slice A len c])
  clear hlen hit hL ho
  obtain ⟨bn, hbn⟩ : ∃ bn, bl.length = bn := ⟨_, rfl⟩
  rw [hbn] at hsz HO HST ⊢
  have HBN := Lib.hid hbn
  clear hbn
  go_enter Try.func22, Try.ntmps22
  go_upto_region 1 with (fail)
  refine wp_world (fun V => LS w0.heap.size W V (.slice Av bn cv) (.slice Av bn cv) bl [.int .i64 1, .int .i64 n, .string ⟨#[]⟩, .slice A len c]) HST.out ?_
  clear HST
  intro V1 h1
  have x0 : V1.cell? ⟨W.heap.size, 0, none⟩ = some (.int .i64 1) := h1.box.cell 0
  have HA := Lib.hid (h1.keep (below_alloc V1 (.cells #[.int .u8 1] 5)))
  have hb9 : w0.heap.size ≤ V1.heap.size + 1 := by have := h1.gr.gr.size; omega
  have h63 : bn + 1 ≤ maxLen := by unfold maxLen; omega
  have hby : (bn + 1) * 1 ≤ 140737488355328 := by omega
  have HO1 := HA.out.own
  rw [HBN.out] at HO1
  have HO2 := Lib.hid HO1
  clear HO1
  go_upto_region 2 with (at_builtin; refine wpList_app bytesT rfl (.tmp 6) (.tmp 10) rfl w0.heap.size (.slice Av bn cv) bn (bl.map bv) rfl HO2.out (some ⟨V1.heap.size, 0, none⟩) 1 1 (([1] : List UInt8).map bv) rfl rfl (cs_one_byte V1 1 1 rfl) (bvs_one _) h63 hby (by simpa using hb9) ?_; intro v2 V2 ho2 hg2 hw2)
  have h2 : LS w0.heap.size W V2 (.slice Av bn cv) v2 (bl ++ [1]) [.int .i64 1, .int .i64 n, .string ⟨#[]⟩, .slice A len c] := HA.out.app (by rw [← List.map_append] at ho2; rw [List.length_append, HBN.out]; exact ho2) hg2 hw2
  obtain ⟨B1, hB1⟩ : ∃ B1, bl ++ [1] = B1 := ⟨_, rfl⟩
  rw [hB1] at h2
  have hbl1 : B1.length ≤ bn + 1 := by rw [← hB1, List.length_append, HBN.out]; exact Nat.le_refl _
  have HB1 := Lib.hid hB1
  clear hB1
  obtain ⟨A2, c2, rfl, -⟩ := h2.form
  refine wp_world (fun V => LS w0.heap.size W V (.slice Av bn cv) (.slice A2 B1.length c2) B1 [.int .i64 1, .int .i64 n, .string ⟨#[]⟩, .slice A len c]) h2 ?_
  clear h2 ho2 hg2 hw2 HO2 HA x0 h1 hb9 h63 hby
  intro V3 h3
  have x0 : V3.cell? ⟨W.heap.size, 0, none⟩ = some (.int .i64 1) := h3.box.cell 0
  have x1 : V3.cell? ⟨W.heap.size, 1, none⟩ = some (.int .i64 n) := h3.box.cell 1
  have x2 : V3.cell? ⟨W.heap.size, 2, none⟩ = some (.string ⟨#[]⟩) := h3.box.cell 2
  have x3 : V3.cell? ⟨W.heap.size, 3, none⟩ = some (.slice A len c) := h3.box.cell 3
  have HC := Lib.hid (qls_int h3 n (by omega) (by omega) (by omega))
  obtain ⟨b1, hb1⟩ : ∃ b1, B1.length = b1 := ⟨_, rfl⟩
  rw [hb1] at HC hbl1 ⊢
  have HB1L := Lib.hid hb1
  clear hb1
  have HB4 := Lib.hid (show B1 ++ (laidI n) = bl ++ (1 :: laidI n) by rw [← HB1.out, List.append_assoc]; rfl)
  obtain ⟨B4, hB4⟩ : ∃ B4, B1 ++ (laidI n) = B4 := ⟨_, rfl⟩
  rw [hB4] at HC HB4
  clear hB4
  have HEN : Hid (bl ++ (1 :: laidI n) ++ layTs l = B4) := by rw [hl0]; simp only [layTs, List.append_nil]; exact HB4.out.symm
  go_wp2_with (go_at_call 45; refine HC.out.mono ?_; rintro r V4 ⟨A4, c4, rfl, h4⟩)
  go_ret
  exact ⟨A4, c4, by rw [HEN.out]; rfl, by rw [HEN.out]; exact h4.own, by rw [HEN.out]; exact h4.gr⟩

set_option maxRecDepth 100000 in
set_option maxHeartbeats 2000000 in
theorem qlay_k2 (n : Int) (s : List UInt8) (hs : s.length ≤ 255) (l : List TV) (A : Option Addr) (len c : Nat) (v : Value) (bl : List UInt8) (w0 W : World) (hlen : l.length = len) (hl0 : l = []) (hlc : len ≤ 10000) (hL : TV.isL l = true) (hW : Below w0.heap.size w0 W) (hR : RdM w0 A c l) (ho : W.ownsRow w0.heap.size 5 1 v bl.length (bl.map bv)) (hsz : bl.length + 300 * (TV.partsL l + 1) ≤ 100000000) (hit : QLayItem w0 l) :
    Calls Try.prog 22 #[v, .agg #[.int .i64 2, .int .i64 n, .string ⟨s.toArray⟩, .slice A len c]] W (LayEnds w0 W v (bl ++ (2 :: laidS s) ++ layTs l)) := by
  have HLEN := Lib.hid hlen
  have HIT := Lib.hid hit
  have HL := Lib.hid hL
  have hbase := hW.size
  have hlen9 := layTs_len l hL
  obtain ⟨Av, cv, rfl, -⟩ := own_rd ho
  have HO := Lib.hid ho
  have HST := Lib.hid (LS.start ho hbase [.int .i64 2, .int .i64 n, .string ⟨s.toArray⟩, .slice A len c])
  clear hlen hit hL ho
  obtain ⟨bn, hbn⟩ : ∃ bn, bl.length = bn := ⟨_, rfl⟩
  rw [hbn] at hsz HO HST ⊢
  have HBN := Lib.hid hbn
  clear hbn
  go_enter Try.func22, Try.ntmps22
  go_upto_region 1 with (fail)
  refine wp_world (fun V => LS w0.heap.size W V (.slice Av bn cv) (.slice Av bn cv) bl [.int .i64 2, .int .i64 n, .string ⟨s.toArray⟩, .slice A len c]) HST.out ?_
  clear HST
  intro V1 h1
  have x0 : V1.cell? ⟨W.heap.size, 0, none⟩ = some (.int .i64 2) := h1.box.cell 0
  have HA := Lib.hid (h1.keep (below_alloc V1 (.cells #[.int .u8 2] 5)))
  have hb9 : w0.heap.size ≤ V1.heap.size + 1 := by have := h1.gr.gr.size; omega
  have h63 : bn + 1 ≤ maxLen := by unfold maxLen; omega
  have hby : (bn + 1) * 1 ≤ 140737488355328 := by omega
  have HO1 := HA.out.own
  rw [HBN.out] at HO1
  have HO2 := Lib.hid HO1
  clear HO1
  go_upto_region 2 with (at_builtin; refine wpList_app bytesT rfl (.tmp 6) (.tmp 10) rfl w0.heap.size (.slice Av bn cv) bn (bl.map bv) rfl HO2.out (some ⟨V1.heap.size, 0, none⟩) 1 1 (([2] : List UInt8).map bv) rfl rfl (cs_one_byte V1 2 2 rfl) (bvs_one _) h63 hby (by simpa using hb9) ?_; intro v2 V2 ho2 hg2 hw2)
  have h2 : LS w0.heap.size W V2 (.slice Av bn cv) v2 (bl ++ [2]) [.int .i64 2, .int .i64 n, .string ⟨s.toArray⟩, .slice A len c] := HA.out.app (by rw [← List.map_append] at ho2; rw [List.length_append, HBN.out]; exact ho2) hg2 hw2
  obtain ⟨B1, hB1⟩ : ∃ B1, bl ++ [2] = B1 := ⟨_, rfl⟩
  rw [hB1] at h2
  have hbl1 : B1.length ≤ bn + 1 := by rw [← hB1, List.length_append, HBN.out]; exact Nat.le_refl _
  have HB1 := Lib.hid hB1
  clear hB1
  obtain ⟨A2, c2, rfl, -⟩ := h2.form
  refine wp_world (fun V => LS w0.heap.size W V (.slice Av bn cv) (.slice A2 B1.length c2) B1 [.int .i64 2, .int .i64 n, .string ⟨s.toArray⟩, .slice A len c]) h2 ?_
  clear h2 ho2 hg2 hw2 HO2 HA x0 h1 hb9 h63 hby
  intro V3 h3
  have x0 : V3.cell? ⟨W.heap.size, 0, none⟩ = some (.int .i64 2) := h3.box.cell 0
  have x1 : V3.cell? ⟨W.heap.size, 1, none⟩ = some (.int .i64 n) := h3.box.cell 1
  have x2 : V3.cell? ⟨W.heap.size, 2, none⟩ = some (.string ⟨s.toArray⟩) := h3.box.cell 2
  have x3 : V3.cell? ⟨W.heap.size, 3, none⟩ = some (.slice A len c) := h3.box.cell 3
  have HC := Lib.hid (qls_str h3 s (by omega) (by omega))
  obtain ⟨b1, hb1⟩ : ∃ b1, B1.length = b1 := ⟨_, rfl⟩
  rw [hb1] at HC hbl1 ⊢
  have HB1L := Lib.hid hb1
  clear hb1
  have HB4 := Lib.hid (show B1 ++ (laidS s) = bl ++ (2 :: laidS s) by rw [← HB1.out, List.append_assoc]; rfl)
  obtain ⟨B4, hB4⟩ : ∃ B4, B1 ++ (laidS s) = B4 := ⟨_, rfl⟩
  rw [hB4] at HC HB4
  clear hB4
  have HEN : Hid (bl ++ (2 :: laidS s) ++ layTs l = B4) := by rw [hl0]; simp only [layTs, List.append_nil]; exact HB4.out.symm
  go_wp2_with (go_at_call 46; refine HC.out.mono ?_; rintro r V4 ⟨A4, c4, rfl, h4⟩)
  go_ret
  exact ⟨A4, c4, by rw [HEN.out]; rfl, by rw [HEN.out]; exact h4.own, by rw [HEN.out]; exact h4.gr⟩

set_option maxRecDepth 100000 in
set_option maxHeartbeats 2000000 in
theorem qlay_k3 (m : Nat) (hm : m ≤ 576460752303423487) (l : List TV) (A : Option Addr) (len c : Nat) (v : Value) (bl : List UInt8) (w0 W : World) (hlen : l.length = len) (hl0 : l = []) (hlc : len ≤ 10000) (hL : TV.isL l = true) (hW : Below w0.heap.size w0 W) (hR : RdM w0 A c l) (ho : W.ownsRow w0.heap.size 5 1 v bl.length (bl.map bv)) (hsz : bl.length + 300 * (TV.partsL l + 1) ≤ 100000000) (hit : QLayItem w0 l) :
    Calls Try.prog 22 #[v, .agg #[.int .i64 3, .int .i64 (m : Int), .string ⟨#[]⟩, .slice A len c]] W (LayEnds w0 W v (bl ++ (3 :: laidB m 0) ++ layTs l)) := by
  have HLEN := Lib.hid hlen
  have HIT := Lib.hid hit
  have HL := Lib.hid hL
  have hbase := hW.size
  have hlen9 := layTs_len l hL
  obtain ⟨Av, cv, rfl, -⟩ := own_rd ho
  have HO := Lib.hid ho
  have HST := Lib.hid (LS.start ho hbase [.int .i64 3, .int .i64 (m : Int), .string ⟨#[]⟩, .slice A len c])
  clear hlen hit hL ho
  obtain ⟨bn, hbn⟩ : ∃ bn, bl.length = bn := ⟨_, rfl⟩
  rw [hbn] at hsz HO HST ⊢
  have HBN := Lib.hid hbn
  clear hbn
  go_enter Try.func22, Try.ntmps22
  go_upto_region 1 with (fail)
  refine wp_world (fun V => LS w0.heap.size W V (.slice Av bn cv) (.slice Av bn cv) bl [.int .i64 3, .int .i64 (m : Int), .string ⟨#[]⟩, .slice A len c]) HST.out ?_
  clear HST
  intro V1 h1
  have x0 : V1.cell? ⟨W.heap.size, 0, none⟩ = some (.int .i64 3) := h1.box.cell 0
  have HA := Lib.hid (h1.keep (below_alloc V1 (.cells #[.int .u8 3] 5)))
  have hb9 : w0.heap.size ≤ V1.heap.size + 1 := by have := h1.gr.gr.size; omega
  have h63 : bn + 1 ≤ maxLen := by unfold maxLen; omega
  have hby : (bn + 1) * 1 ≤ 140737488355328 := by omega
  have HO1 := HA.out.own
  rw [HBN.out] at HO1
  have HO2 := Lib.hid HO1
  clear HO1
  go_upto_region 2 with (at_builtin; refine wpList_app bytesT rfl (.tmp 6) (.tmp 10) rfl w0.heap.size (.slice Av bn cv) bn (bl.map bv) rfl HO2.out (some ⟨V1.heap.size, 0, none⟩) 1 1 (([3] : List UInt8).map bv) rfl rfl (cs_one_byte V1 3 3 rfl) (bvs_one _) h63 hby (by simpa using hb9) ?_; intro v2 V2 ho2 hg2 hw2)
  have h2 : LS w0.heap.size W V2 (.slice Av bn cv) v2 (bl ++ [3]) [.int .i64 3, .int .i64 (m : Int), .string ⟨#[]⟩, .slice A len c] := HA.out.app (by rw [← List.map_append] at ho2; rw [List.length_append, HBN.out]; exact ho2) hg2 hw2
  obtain ⟨B1, hB1⟩ : ∃ B1, bl ++ [3] = B1 := ⟨_, rfl⟩
  rw [hB1] at h2
  have hbl1 : B1.length ≤ bn + 1 := by rw [← hB1, List.length_append, HBN.out]; exact Nat.le_refl _
  have HB1 := Lib.hid hB1
  clear hB1
  obtain ⟨A2, c2, rfl, -⟩ := h2.form
  refine wp_world (fun V => LS w0.heap.size W V (.slice Av bn cv) (.slice A2 B1.length c2) B1 [.int .i64 3, .int .i64 (m : Int), .string ⟨#[]⟩, .slice A len c]) h2 ?_
  clear h2 ho2 hg2 hw2 HO2 HA x0 h1 hb9 h63 hby
  intro V3 h3
  have x0 : V3.cell? ⟨W.heap.size, 0, none⟩ = some (.int .i64 3) := h3.box.cell 0
  have x1 : V3.cell? ⟨W.heap.size, 1, none⟩ = some (.int .i64 (m : Int)) := h3.box.cell 1
  have x2 : V3.cell? ⟨W.heap.size, 2, none⟩ = some (.string ⟨#[]⟩) := h3.box.cell 2
  have x3 : V3.cell? ⟨W.heap.size, 3, none⟩ = some (.slice A len c) := h3.box.cell 3
  have HC := Lib.hid (qls_num h3 m (by omega) (by omega))
  obtain ⟨b1, hb1⟩ : ∃ b1, B1.length = b1 := ⟨_, rfl⟩
  rw [hb1] at HC hbl1 ⊢
  have HB1L := Lib.hid hb1
  clear hb1
  have HB4 := Lib.hid (show B1 ++ (laidB m 0) = bl ++ (3 :: laidB m 0) by rw [← HB1.out, List.append_assoc]; rfl)
  obtain ⟨B4, hB4⟩ : ∃ B4, B1 ++ (laidB m 0) = B4 := ⟨_, rfl⟩
  rw [hB4] at HC HB4
  clear hB4
  have HEN : Hid (bl ++ (3 :: laidB m 0) ++ layTs l = B4) := by rw [hl0]; simp only [layTs, List.append_nil]; exact HB4.out.symm
  go_wp2_with (go_at_call 21; refine HC.out.mono ?_; rintro r V4 ⟨A4, c4, rfl, h4⟩)
  go_ret
  exact ⟨A4, c4, by rw [HEN.out]; rfl, by rw [HEN.out]; exact h4.own, by rw [HEN.out]; exact h4.gr⟩

set_option maxRecDepth 100000 in
set_option maxHeartbeats 2000000 in
theorem qlay_k5 (m : Nat) (hm : m ≤ 576460752303423487) (l : List TV) (A : Option Addr) (len c : Nat) (v : Value) (bl : List UInt8) (w0 W : World) (hlen : l.length = len) (hl0 : l = []) (hlc : len ≤ 10000) (hL : TV.isL l = true) (hW : Below w0.heap.size w0 W) (hR : RdM w0 A c l) (ho : W.ownsRow w0.heap.size 5 1 v bl.length (bl.map bv)) (hsz : bl.length + 300 * (TV.partsL l + 1) ≤ 100000000) (hit : QLayItem w0 l) :
    Calls Try.prog 22 #[v, .agg #[.int .i64 5, .int .i64 (m : Int), .string ⟨#[]⟩, .slice A len c]] W (LayEnds w0 W v (bl ++ (5 :: laidB m 0) ++ layTs l)) := by
  have HLEN := Lib.hid hlen
  have HIT := Lib.hid hit
  have HL := Lib.hid hL
  have hbase := hW.size
  have hlen9 := layTs_len l hL
  obtain ⟨Av, cv, rfl, -⟩ := own_rd ho
  have HO := Lib.hid ho
  have HST := Lib.hid (LS.start ho hbase [.int .i64 5, .int .i64 (m : Int), .string ⟨#[]⟩, .slice A len c])
  clear hlen hit hL ho
  obtain ⟨bn, hbn⟩ : ∃ bn, bl.length = bn := ⟨_, rfl⟩
  rw [hbn] at hsz HO HST ⊢
  have HBN := Lib.hid hbn
  clear hbn
  go_enter Try.func22, Try.ntmps22
  go_upto_region 1 with (fail)
  refine wp_world (fun V => LS w0.heap.size W V (.slice Av bn cv) (.slice Av bn cv) bl [.int .i64 5, .int .i64 (m : Int), .string ⟨#[]⟩, .slice A len c]) HST.out ?_
  clear HST
  intro V1 h1
  have x0 : V1.cell? ⟨W.heap.size, 0, none⟩ = some (.int .i64 5) := h1.box.cell 0
  have HA := Lib.hid (h1.keep (below_alloc V1 (.cells #[.int .u8 5] 5)))
  have hb9 : w0.heap.size ≤ V1.heap.size + 1 := by have := h1.gr.gr.size; omega
  have h63 : bn + 1 ≤ maxLen := by unfold maxLen; omega
  have hby : (bn + 1) * 1 ≤ 140737488355328 := by omega
  have HO1 := HA.out.own
  rw [HBN.out] at HO1
  have HO2 := Lib.hid HO1
  clear HO1
  go_upto_region 2 with (at_builtin; refine wpList_app bytesT rfl (.tmp 6) (.tmp 10) rfl w0.heap.size (.slice Av bn cv) bn (bl.map bv) rfl HO2.out (some ⟨V1.heap.size, 0, none⟩) 1 1 (([5] : List UInt8).map bv) rfl rfl (cs_one_byte V1 5 5 rfl) (bvs_one _) h63 hby (by simpa using hb9) ?_; intro v2 V2 ho2 hg2 hw2)
  have h2 : LS w0.heap.size W V2 (.slice Av bn cv) v2 (bl ++ [5]) [.int .i64 5, .int .i64 (m : Int), .string ⟨#[]⟩, .slice A len c] := HA.out.app (by rw [← List.map_append] at ho2; rw [List.length_append, HBN.out]; exact ho2) hg2 hw2
  obtain ⟨B1, hB1⟩ : ∃ B1, bl ++ [5] = B1 := ⟨_, rfl⟩
  rw [hB1] at h2
  have hbl1 : B1.length ≤ bn + 1 := by rw [← hB1, List.length_append, HBN.out]; exact Nat.le_refl _
  have HB1 := Lib.hid hB1
  clear hB1
  obtain ⟨A2, c2, rfl, -⟩ := h2.form
  refine wp_world (fun V => LS w0.heap.size W V (.slice Av bn cv) (.slice A2 B1.length c2) B1 [.int .i64 5, .int .i64 (m : Int), .string ⟨#[]⟩, .slice A len c]) h2 ?_
  clear h2 ho2 hg2 hw2 HO2 HA x0 h1 hb9 h63 hby
  intro V3 h3
  have x0 : V3.cell? ⟨W.heap.size, 0, none⟩ = some (.int .i64 5) := h3.box.cell 0
  have x1 : V3.cell? ⟨W.heap.size, 1, none⟩ = some (.int .i64 (m : Int)) := h3.box.cell 1
  have x2 : V3.cell? ⟨W.heap.size, 2, none⟩ = some (.string ⟨#[]⟩) := h3.box.cell 2
  have x3 : V3.cell? ⟨W.heap.size, 3, none⟩ = some (.slice A len c) := h3.box.cell 3
  have HC := Lib.hid (qls_num h3 m (by omega) (by omega))
  obtain ⟨b1, hb1⟩ : ∃ b1, B1.length = b1 := ⟨_, rfl⟩
  rw [hb1] at HC hbl1 ⊢
  have HB1L := Lib.hid hb1
  clear hb1
  have HB4 := Lib.hid (show B1 ++ (laidB m 0) = bl ++ (5 :: laidB m 0) by rw [← HB1.out, List.append_assoc]; rfl)
  obtain ⟨B4, hB4⟩ : ∃ B4, B1 ++ (laidB m 0) = B4 := ⟨_, rfl⟩
  rw [hB4] at HC HB4
  clear hB4
  have HEN : Hid (bl ++ (5 :: laidB m 0) ++ layTs l = B4) := by rw [hl0]; simp only [layTs, List.append_nil]; exact HB4.out.symm
  go_wp2_with (go_at_call 21; refine HC.out.mono ?_; rintro r V4 ⟨A4, c4, rfl, h4⟩)
  go_ret
  exact ⟨A4, c4, by rw [HEN.out]; rfl, by rw [HEN.out]; exact h4.own, by rw [HEN.out]; exact h4.gr⟩

set_option maxRecDepth 100000 in
set_option maxHeartbeats 2000000 in
theorem qlay_k6 (n : Int) (l : List TV) (A : Option Addr) (len c : Nat) (v : Value) (bl : List UInt8) (w0 W : World) (hlen : l.length = len) (hlc : len ≤ 10000) (hL : TV.isL l = true) (hW : Below w0.heap.size w0 W) (hR : RdM w0 A c l) (ho : W.ownsRow w0.heap.size 5 1 v bl.length (bl.map bv)) (hsz : bl.length + 300 * (TV.partsL l + 1) ≤ 100000000) (hit : QLayItem w0 l) :
    Calls Try.prog 22 #[v, .agg #[.int .i64 6, .int .i64 n, .string ⟨#[]⟩, .slice A len c]] W (LayEnds w0 W v (bl ++ (6 :: laidB len 0) ++ layTs l)) := by
  have HLEN := Lib.hid hlen
  have HIT := Lib.hid hit
  have HL := Lib.hid hL
  have hbase := hW.size
  have hlen9 := layTs_len l hL
  obtain ⟨Av, cv, rfl, -⟩ := own_rd ho
  have HO := Lib.hid ho
  have HST := Lib.hid (LS.start ho hbase [.int .i64 6, .int .i64 n, .string ⟨#[]⟩, .slice A len c])
  clear hlen hit hL ho
  obtain ⟨bn, hbn⟩ : ∃ bn, bl.length = bn := ⟨_, rfl⟩
  rw [hbn] at hsz HO HST ⊢
  have HBN := Lib.hid hbn
  clear hbn
  go_enter Try.func22, Try.ntmps22
  go_upto_region 1 with (fail)
  refine wp_world (fun V => LS w0.heap.size W V (.slice Av bn cv) (.slice Av bn cv) bl [.int .i64 6, .int .i64 n, .string ⟨#[]⟩, .slice A len c]) HST.out ?_
  clear HST
  intro V1 h1
  have x0 : V1.cell? ⟨W.heap.size, 0, none⟩ = some (.int .i64 6) := h1.box.cell 0
  have HA := Lib.hid (h1.keep (below_alloc V1 (.cells #[.int .u8 6] 5)))
  have hb9 : w0.heap.size ≤ V1.heap.size + 1 := by have := h1.gr.gr.size; omega
  have h63 : bn + 1 ≤ maxLen := by unfold maxLen; omega
  have hby : (bn + 1) * 1 ≤ 140737488355328 := by omega
  have HO1 := HA.out.own
  rw [HBN.out] at HO1
  have HO2 := Lib.hid HO1
  clear HO1
  go_upto_region 2 with (at_builtin; refine wpList_app bytesT rfl (.tmp 6) (.tmp 10) rfl w0.heap.size (.slice Av bn cv) bn (bl.map bv) rfl HO2.out (some ⟨V1.heap.size, 0, none⟩) 1 1 (([6] : List UInt8).map bv) rfl rfl (cs_one_byte V1 6 6 rfl) (bvs_one _) h63 hby (by simpa using hb9) ?_; intro v2 V2 ho2 hg2 hw2)
  have h2 : LS w0.heap.size W V2 (.slice Av bn cv) v2 (bl ++ [6]) [.int .i64 6, .int .i64 n, .string ⟨#[]⟩, .slice A len c] := HA.out.app (by rw [← List.map_append] at ho2; rw [List.length_append, HBN.out]; exact ho2) hg2 hw2
  obtain ⟨B1, hB1⟩ : ∃ B1, bl ++ [6] = B1 := ⟨_, rfl⟩
  rw [hB1] at h2
  have hbl1 : B1.length ≤ bn + 1 := by rw [← hB1, List.length_append, HBN.out]; exact Nat.le_refl _
  have HB1 := Lib.hid hB1
  clear hB1
  obtain ⟨A2, c2, rfl, -⟩ := h2.form
  refine wp_world (fun V => LS w0.heap.size W V (.slice Av bn cv) (.slice A2 B1.length c2) B1 [.int .i64 6, .int .i64 n, .string ⟨#[]⟩, .slice A len c]) h2 ?_
  clear h2 ho2 hg2 hw2 HO2 HA x0 h1 hb9 h63 hby
  intro V3 h3
  have x0 : V3.cell? ⟨W.heap.size, 0, none⟩ = some (.int .i64 6) := h3.box.cell 0
  have x1 : V3.cell? ⟨W.heap.size, 1, none⟩ = some (.int .i64 n) := h3.box.cell 1
  have x2 : V3.cell? ⟨W.heap.size, 2, none⟩ = some (.string ⟨#[]⟩) := h3.box.cell 2
  have x3 : V3.cell? ⟨W.heap.size, 3, none⟩ = some (.slice A len c) := h3.box.cell 3
  have HC := Lib.hid (qls_num h3 len (by omega) (by omega))
  obtain ⟨b1, hb1⟩ : ∃ b1, B1.length = b1 := ⟨_, rfl⟩
  rw [hb1] at HC hbl1 ⊢
  have HB1L := Lib.hid hb1
  clear hb1
  have HB4 := Lib.hid (show B1 ++ (laidB len 0) = bl ++ (6 :: laidB len 0) by rw [← HB1.out, List.append_assoc]; rfl)
  obtain ⟨B4, hB4⟩ : ∃ B4, B1 ++ (laidB len 0) = B4 := ⟨_, rfl⟩
  rw [hB4] at HC HB4
  clear hB4
  go_upto_region 14 with (go_at_call 21; refine HC.out.mono ?_; rintro r V4 ⟨A4, c4, rfl, h4⟩)
  clear HC x0 x1 x2 x3 h3
  have hbl4 : B4.length ≤ bn + 300 := by rw [HB4.out, List.length_append, HBN.out]; have : (6 :: laidB len 0 : List UInt8).length ≤ 300 := (by have := wid_le len; simp [laidB_len]; omega); omega
  obtain ⟨b4, hb4⟩ : ∃ b4, B4.length = b4 := ⟨_, rfl⟩
  have H4 := Lib.hid h4
  rw [hb4] at hbl4 ⊢
  clear hbl1 h4
  have HB4N := Lib.hid hb4
  clear hb4
  go_wp2
  go_loopw [0, 5] (fun u i wr => ∃ (k : Nat) (Ak : Option Addr) (ck : Nat), k ≤ len ∧ i = .int .i64 k ∧ u = .slice Ak (B4 ++ layTs (l.take k)).length ck ∧ LS w0.heap.size W wr (.slice Av bn cv) (.slice Ak (B4 ++ layTs (l.take k)).length ck) (B4 ++ layTs (l.take k)) [.int .i64 6, .int .i64 n, .string ⟨#[]⟩, .slice A len c]) (fun _ i _ => len - (intOf i).toNat)
  case atStart =>
    refine ⟨0, A4, c4, Nat.zero_le _, rfl, ?_, ?_⟩
    · simp [layTs, HB4N.out]
    · have h9 := H4.out
      rw [show B4 ++ layTs (l.take 0) = B4 by simp [layTs]]
      exact h9
  case round =>
    obtain ⟨k, Ak, ck, hk, rfl, rfl, hLk⟩ := hrel
    have hgk := hLk.gr
    have hok := hLk.own
    have x3 : wr.cell? ⟨W.heap.size, 3, none⟩ = some (.slice A len c) := hLk.box.cell 3
    have hbk : Below w0.heap.size w0 wr := hW.trans (hgk.below hbase HO.out)
    by_cases hlt : k < len
    · have hd1 : decide (k < len) = true := by simp; omega
      have hkl : k < l.length := by rw [HLEN.out]; exact hlt
      obtain ⟨b, o, A', c', rfl, e0', e1', e2', e3', hR'⟩ := hR.item hkl
      have e0 := (hbk.cell (World.block_lt_of_cell? w0 _ e0')).trans e0'
      have e1 := (hbk.cell (World.block_lt_of_cell? w0 _ e1')).trans e1'
      have e2 := (hbk.cell (World.block_lt_of_cell? w0 _ e2')).trans e2'
      have e3 := (hbk.cell (World.block_lt_of_cell? w0 _ e3')).trans e3'
      have htk := layTs_take l k hkl
      have hpt := partsL_take l k hkl
      have hpl := partsL_take_le l (k + 1)
      have hlt1 := layTs_len (l.take k) (by
        have := HL.out
        rw [← List.take_append_drop k l, isL_append, Bool.and_eq_true] at this
        exact this.1)
      have hlk : (B4 ++ layTs (l.take k)).length ≤ b4 + 300 * TV.partsL (l.take k) := by rw [List.length_append, HB4N.out]; omega
      have HTK := Lib.hid (show B4 ++ layTs (l.take (k + 1)) = B4 ++ layTs (l.take k) ++ layT l[k] by rw [htk, List.append_assoc])
      have HC := Lib.hid (HIT.out k hkl A' c' (.slice Ak (B4 ++ layTs (l.take k)).length ck) (B4 ++ layTs (l.take k)) wr hbk hR' hok (by omega))
      have HLK := Lib.hid hLk
      obtain ⟨Bk, hBk⟩ : ∃ Bk, B4 ++ layTs (l.take k) = Bk := ⟨_, rfl⟩
      rw [hBk] at HC HTK HLK
      obtain ⟨nk, hnk⟩ : ∃ nk, Bk.length = nk := ⟨_, rfl⟩
      rw [hBk, hnk]
      rw [hnk] at HC HLK
      have HNK := Lib.hid hnk
      have HGR : Hid (∀ V v', V.ownsRow w0.heap.size 5 1 v' (Bk ++ layT l[k]).length ((Bk ++ layT l[k]).map bv) → Grow wr V (.slice Ak nk ck) v' → LS w0.heap.size W V (.slice Av bn cv) v' (Bk ++ layT l[k]) [.int .i64 6, .int .i64 n, .string ⟨#[]⟩, .slice (some ⟨b, o, none⟩) len c]) := fun V v' ho hg => HLK.out.grow ho hg
      obtain ⟨Bq, hBq⟩ : ∃ Bq, Bk ++ layT l[k] = Bq := ⟨_, rfl⟩
      rw [hBq] at HC HTK HGR
      have hq1 : (0 : Int) ≤ (k : Int) := by omega
      have hq2 : (k : Int) < (len : Int) := by omega
      clear e0' e1' e2' e3' htk hpt hpl hlt1 hlk hBk hnk hBq hgk hok hR' hLk HLK
      generalize l[k] = ti at *
      clear hkl
      go_wp2_with (go_at_call 22; refine HC.out.mono ?_; rintro r V5 ⟨A5, c5, rfl, ho5, hg5⟩)
      go_roundw
      case rel =>
        refine ⟨k + 1, A5, c5, by omega, by go_num, by rw [HTK.out], ?_⟩
        rw [HTK.out]
        exact HGR.out _ _ ho5 hg5
      case measure => simp [intOf]; omega
    · obtain rfl : len = k := by omega
      have hd1 : decide (len < len) = false := by simp
      have HE := Lib.hid (show B4 ++ layTs (l.take len) = bl ++ (6 :: laidB len 0) ++ layTs l by rw [List.take_of_length_le (by rw [HLEN.out]; exact Nat.le_refl _), HB4.out])
      rw [HE.out] at hok hgk ⊢
      obtain ⟨BZ, hBZ⟩ : ∃ BZ, bl ++ (6 :: laidB len 0) ++ layTs l = BZ := ⟨_, rfl⟩
      rw [hBZ] at hok hgk ⊢
      have HOK := Lib.hid (And.intro hok hgk)
      have HBZ := Lib.hid hBZ
      clear hok hgk hBZ HE hLk
      go_wp2
      go_ret
      exact ⟨Ak, ck, by rw [HBZ.out]; rfl, by rw [HBZ.out]; exact HOK.out.1, by rw [HBZ.out]; exact HOK.out.2⟩

set_option maxRecDepth 100000 in
set_option maxHeartbeats 2000000 in
theorem qlay_k7 (n : Int) (l : List TV) (A : Option Addr) (len c : Nat) (v : Value) (bl : List UInt8) (w0 W : World) (hlen : l.length = len) (hlc : len ≤ 10000) (hL : TV.isL l = true) (hW : Below w0.heap.size w0 W) (hR : RdM w0 A c l) (ho : W.ownsRow w0.heap.size 5 1 v bl.length (bl.map bv)) (hsz : bl.length + 300 * (TV.partsL l + 1) ≤ 100000000) (hit : QLayItem w0 l) :
    Calls Try.prog 22 #[v, .agg #[.int .i64 7, .int .i64 n, .string ⟨#[]⟩, .slice A len c]] W (LayEnds w0 W v (bl ++ ([7]) ++ layTs l)) := by
  have HLEN := Lib.hid hlen
  have HIT := Lib.hid hit
  have HL := Lib.hid hL
  have hbase := hW.size
  have hlen9 := layTs_len l hL
  obtain ⟨Av, cv, rfl, -⟩ := own_rd ho
  have HO := Lib.hid ho
  have HST := Lib.hid (LS.start ho hbase [.int .i64 7, .int .i64 n, .string ⟨#[]⟩, .slice A len c])
  clear hlen hit hL ho
  obtain ⟨bn, hbn⟩ : ∃ bn, bl.length = bn := ⟨_, rfl⟩
  rw [hbn] at hsz HO HST ⊢
  have HBN := Lib.hid hbn
  clear hbn
  go_enter Try.func22, Try.ntmps22
  go_upto_region 1 with (fail)
  refine wp_world (fun V => LS w0.heap.size W V (.slice Av bn cv) (.slice Av bn cv) bl [.int .i64 7, .int .i64 n, .string ⟨#[]⟩, .slice A len c]) HST.out ?_
  clear HST
  intro V1 h1
  have x0 : V1.cell? ⟨W.heap.size, 0, none⟩ = some (.int .i64 7) := h1.box.cell 0
  have HA := Lib.hid (h1.keep (below_alloc V1 (.cells #[.int .u8 7] 5)))
  have hb9 : w0.heap.size ≤ V1.heap.size + 1 := by have := h1.gr.gr.size; omega
  have h63 : bn + 1 ≤ maxLen := by unfold maxLen; omega
  have hby : (bn + 1) * 1 ≤ 140737488355328 := by omega
  have HO1 := HA.out.own
  rw [HBN.out] at HO1
  have HO2 := Lib.hid HO1
  clear HO1
  go_upto_region 2 with (at_builtin; refine wpList_app bytesT rfl (.tmp 6) (.tmp 10) rfl w0.heap.size (.slice Av bn cv) bn (bl.map bv) rfl HO2.out (some ⟨V1.heap.size, 0, none⟩) 1 1 (([7] : List UInt8).map bv) rfl rfl (cs_one_byte V1 7 7 rfl) (bvs_one _) h63 hby (by simpa using hb9) ?_; intro v2 V2 ho2 hg2 hw2)
  have h2 : LS w0.heap.size W V2 (.slice Av bn cv) v2 (bl ++ [7]) [.int .i64 7, .int .i64 n, .string ⟨#[]⟩, .slice A len c] := HA.out.app (by rw [← List.map_append] at ho2; rw [List.length_append, HBN.out]; exact ho2) hg2 hw2
  obtain ⟨B1, hB1⟩ : ∃ B1, bl ++ [7] = B1 := ⟨_, rfl⟩
  rw [hB1] at h2
  have hbl1 : B1.length ≤ bn + 1 := by rw [← hB1, List.length_append, HBN.out]; exact Nat.le_refl _
  have HB1 := Lib.hid hB1
  clear hB1
  obtain ⟨A2, c2, rfl, -⟩ := h2.form
  refine wp_world (fun V => LS w0.heap.size W V (.slice Av bn cv) (.slice A2 B1.length c2) B1 [.int .i64 7, .int .i64 n, .string ⟨#[]⟩, .slice A len c]) h2 ?_
  clear h2 ho2 hg2 hw2 HO2 HA x0 h1 hb9 h63 hby
  intro V3 h3
  have x0 : V3.cell? ⟨W.heap.size, 0, none⟩ = some (.int .i64 7) := h3.box.cell 0
  have x1 : V3.cell? ⟨W.heap.size, 1, none⟩ = some (.int .i64 n) := h3.box.cell 1
  have x2 : V3.cell? ⟨W.heap.size, 2, none⟩ = some (.string ⟨#[]⟩) := h3.box.cell 2
  have x3 : V3.cell? ⟨W.heap.size, 3, none⟩ = some (.slice A len c) := h3.box.cell 3
  go_upto_region 14 with (fail)
  have h4 := h3
  have HB4 := Lib.hid (show B1 = bl ++ ([7]) from HB1.out.symm)
  clear x0 x1 x2 x3 h3
  obtain ⟨V4, hV4⟩ : ∃ V4, V4 = V3 := ⟨_, rfl⟩
  obtain ⟨B4, hB4⟩ : ∃ B4, B4 = B1 := ⟨_, rfl⟩
  rw [← hV4, ← hB4] at h4
  rw [← hB4] at HB4
  rw [← hV4, ← hB4]
  clear hV4 hB4
  generalize A2 = A4 at *
  generalize c2 = c4 at *
  have hbl4 : B4.length ≤ bn + 300 := by rw [HB4.out, List.length_append, HBN.out]; have : ([7] : List UInt8).length ≤ 300 := (by simp); omega
  obtain ⟨b4, hb4⟩ : ∃ b4, B4.length = b4 := ⟨_, rfl⟩
  have H4 := Lib.hid h4
  rw [hb4] at hbl4 ⊢
  clear hbl1 h4
  have HB4N := Lib.hid hb4
  clear hb4
  go_wp2
  go_loopw [0, 5] (fun u i wr => ∃ (k : Nat) (Ak : Option Addr) (ck : Nat), k ≤ len ∧ i = .int .i64 k ∧ u = .slice Ak (B4 ++ layTs (l.take k)).length ck ∧ LS w0.heap.size W wr (.slice Av bn cv) (.slice Ak (B4 ++ layTs (l.take k)).length ck) (B4 ++ layTs (l.take k)) [.int .i64 7, .int .i64 n, .string ⟨#[]⟩, .slice A len c]) (fun _ i _ => len - (intOf i).toNat)
  case atStart =>
    refine ⟨0, A4, c4, Nat.zero_le _, rfl, ?_, ?_⟩
    · simp [layTs, HB4N.out]
    · have h9 := H4.out
      rw [show B4 ++ layTs (l.take 0) = B4 by simp [layTs]]
      exact h9
  case round =>
    obtain ⟨k, Ak, ck, hk, rfl, rfl, hLk⟩ := hrel
    have hgk := hLk.gr
    have hok := hLk.own
    have x3 : wr.cell? ⟨W.heap.size, 3, none⟩ = some (.slice A len c) := hLk.box.cell 3
    have hbk : Below w0.heap.size w0 wr := hW.trans (hgk.below hbase HO.out)
    by_cases hlt : k < len
    · have hd1 : decide (k < len) = true := by simp; omega
      have hkl : k < l.length := by rw [HLEN.out]; exact hlt
      obtain ⟨b, o, A', c', rfl, e0', e1', e2', e3', hR'⟩ := hR.item hkl
      have e0 := (hbk.cell (World.block_lt_of_cell? w0 _ e0')).trans e0'
      have e1 := (hbk.cell (World.block_lt_of_cell? w0 _ e1')).trans e1'
      have e2 := (hbk.cell (World.block_lt_of_cell? w0 _ e2')).trans e2'
      have e3 := (hbk.cell (World.block_lt_of_cell? w0 _ e3')).trans e3'
      have htk := layTs_take l k hkl
      have hpt := partsL_take l k hkl
      have hpl := partsL_take_le l (k + 1)
      have hlt1 := layTs_len (l.take k) (by
        have := HL.out
        rw [← List.take_append_drop k l, isL_append, Bool.and_eq_true] at this
        exact this.1)
      have hlk : (B4 ++ layTs (l.take k)).length ≤ b4 + 300 * TV.partsL (l.take k) := by rw [List.length_append, HB4N.out]; omega
      have HTK := Lib.hid (show B4 ++ layTs (l.take (k + 1)) = B4 ++ layTs (l.take k) ++ layT l[k] by rw [htk, List.append_assoc])
      have HC := Lib.hid (HIT.out k hkl A' c' (.slice Ak (B4 ++ layTs (l.take k)).length ck) (B4 ++ layTs (l.take k)) wr hbk hR' hok (by omega))
      have HLK := Lib.hid hLk
      obtain ⟨Bk, hBk⟩ : ∃ Bk, B4 ++ layTs (l.take k) = Bk := ⟨_, rfl⟩
      rw [hBk] at HC HTK HLK
      obtain ⟨nk, hnk⟩ : ∃ nk, Bk.length = nk := ⟨_, rfl⟩
      rw [hBk, hnk]
      rw [hnk] at HC HLK
      have HNK := Lib.hid hnk
      have HGR : Hid (∀ V v', V.ownsRow w0.heap.size 5 1 v' (Bk ++ layT l[k]).length ((Bk ++ layT l[k]).map bv) → Grow wr V (.slice Ak nk ck) v' → LS w0.heap.size W V (.slice Av bn cv) v' (Bk ++ layT l[k]) [.int .i64 7, .int .i64 n, .string ⟨#[]⟩, .slice (some ⟨b, o, none⟩) len c]) := fun V v' ho hg => HLK.out.grow ho hg
      obtain ⟨Bq, hBq⟩ : ∃ Bq, Bk ++ layT l[k] = Bq := ⟨_, rfl⟩
      rw [hBq] at HC HTK HGR
      have hq1 : (0 : Int) ≤ (k : Int) := by omega
      have hq2 : (k : Int) < (len : Int) := by omega
      clear e0' e1' e2' e3' htk hpt hpl hlt1 hlk hBk hnk hBq hgk hok hR' hLk HLK
      generalize l[k] = ti at *
      clear hkl
      go_wp2_with (go_at_call 22; refine HC.out.mono ?_; rintro r V5 ⟨A5, c5, rfl, ho5, hg5⟩)
      go_roundw
      case rel =>
        refine ⟨k + 1, A5, c5, by omega, by go_num, by rw [HTK.out], ?_⟩
        rw [HTK.out]
        exact HGR.out _ _ ho5 hg5
      case measure => simp [intOf]; omega
    · obtain rfl : len = k := by omega
      have hd1 : decide (len < len) = false := by simp
      have HE := Lib.hid (show B4 ++ layTs (l.take len) = bl ++ ([7]) ++ layTs l by rw [List.take_of_length_le (by rw [HLEN.out]; exact Nat.le_refl _), HB4.out])
      rw [HE.out] at hok hgk ⊢
      obtain ⟨BZ, hBZ⟩ : ∃ BZ, bl ++ ([7]) ++ layTs l = BZ := ⟨_, rfl⟩
      rw [hBZ] at hok hgk ⊢
      have HOK := Lib.hid (And.intro hok hgk)
      have HBZ := Lib.hid hBZ
      clear hok hgk hBZ HE hLk
      go_wp2
      go_ret
      exact ⟨Ak, ck, by rw [HBZ.out]; rfl, by rw [HBZ.out]; exact HOK.out.1, by rw [HBZ.out]; exact HOK.out.2⟩

set_option maxRecDepth 100000 in
set_option maxHeartbeats 2000000 in
theorem qlay_k8 (n : Int) (l : List TV) (A : Option Addr) (len c : Nat) (v : Value) (bl : List UInt8) (w0 W : World) (hlen : l.length = len) (hlc : len ≤ 10000) (hL : TV.isL l = true) (hW : Below w0.heap.size w0 W) (hR : RdM w0 A c l) (ho : W.ownsRow w0.heap.size 5 1 v bl.length (bl.map bv)) (hsz : bl.length + 300 * (TV.partsL l + 1) ≤ 100000000) (hit : QLayItem w0 l) :
    Calls Try.prog 22 #[v, .agg #[.int .i64 8, .int .i64 n, .string ⟨#[]⟩, .slice A len c]] W (LayEnds w0 W v (bl ++ ([8]) ++ layTs l)) := by
  have HLEN := Lib.hid hlen
  have HIT := Lib.hid hit
  have HL := Lib.hid hL
  have hbase := hW.size
  have hlen9 := layTs_len l hL
  obtain ⟨Av, cv, rfl, -⟩ := own_rd ho
  have HO := Lib.hid ho
  have HST := Lib.hid (LS.start ho hbase [.int .i64 8, .int .i64 n, .string ⟨#[]⟩, .slice A len c])
  clear hlen hit hL ho
  obtain ⟨bn, hbn⟩ : ∃ bn, bl.length = bn := ⟨_, rfl⟩
  rw [hbn] at hsz HO HST ⊢
  have HBN := Lib.hid hbn
  clear hbn
  go_enter Try.func22, Try.ntmps22
  go_upto_region 1 with (fail)
  refine wp_world (fun V => LS w0.heap.size W V (.slice Av bn cv) (.slice Av bn cv) bl [.int .i64 8, .int .i64 n, .string ⟨#[]⟩, .slice A len c]) HST.out ?_
  clear HST
  intro V1 h1
  have x0 : V1.cell? ⟨W.heap.size, 0, none⟩ = some (.int .i64 8) := h1.box.cell 0
  have HA := Lib.hid (h1.keep (below_alloc V1 (.cells #[.int .u8 8] 5)))
  have hb9 : w0.heap.size ≤ V1.heap.size + 1 := by have := h1.gr.gr.size; omega
  have h63 : bn + 1 ≤ maxLen := by unfold maxLen; omega
  have hby : (bn + 1) * 1 ≤ 140737488355328 := by omega
  have HO1 := HA.out.own
  rw [HBN.out] at HO1
  have HO2 := Lib.hid HO1
  clear HO1
  go_upto_region 2 with (at_builtin; refine wpList_app bytesT rfl (.tmp 6) (.tmp 10) rfl w0.heap.size (.slice Av bn cv) bn (bl.map bv) rfl HO2.out (some ⟨V1.heap.size, 0, none⟩) 1 1 (([8] : List UInt8).map bv) rfl rfl (cs_one_byte V1 8 8 rfl) (bvs_one _) h63 hby (by simpa using hb9) ?_; intro v2 V2 ho2 hg2 hw2)
  have h2 : LS w0.heap.size W V2 (.slice Av bn cv) v2 (bl ++ [8]) [.int .i64 8, .int .i64 n, .string ⟨#[]⟩, .slice A len c] := HA.out.app (by rw [← List.map_append] at ho2; rw [List.length_append, HBN.out]; exact ho2) hg2 hw2
  obtain ⟨B1, hB1⟩ : ∃ B1, bl ++ [8] = B1 := ⟨_, rfl⟩
  rw [hB1] at h2
  have hbl1 : B1.length ≤ bn + 1 := by rw [← hB1, List.length_append, HBN.out]; exact Nat.le_refl _
  have HB1 := Lib.hid hB1
  clear hB1
  obtain ⟨A2, c2, rfl, -⟩ := h2.form
  refine wp_world (fun V => LS w0.heap.size W V (.slice Av bn cv) (.slice A2 B1.length c2) B1 [.int .i64 8, .int .i64 n, .string ⟨#[]⟩, .slice A len c]) h2 ?_
  clear h2 ho2 hg2 hw2 HO2 HA x0 h1 hb9 h63 hby
  intro V3 h3
  have x0 : V3.cell? ⟨W.heap.size, 0, none⟩ = some (.int .i64 8) := h3.box.cell 0
  have x1 : V3.cell? ⟨W.heap.size, 1, none⟩ = some (.int .i64 n) := h3.box.cell 1
  have x2 : V3.cell? ⟨W.heap.size, 2, none⟩ = some (.string ⟨#[]⟩) := h3.box.cell 2
  have x3 : V3.cell? ⟨W.heap.size, 3, none⟩ = some (.slice A len c) := h3.box.cell 3
  go_upto_region 14 with (fail)
  have h4 := h3
  have HB4 := Lib.hid (show B1 = bl ++ ([8]) from HB1.out.symm)
  clear x0 x1 x2 x3 h3
  obtain ⟨V4, hV4⟩ : ∃ V4, V4 = V3 := ⟨_, rfl⟩
  obtain ⟨B4, hB4⟩ : ∃ B4, B4 = B1 := ⟨_, rfl⟩
  rw [← hV4, ← hB4] at h4
  rw [← hB4] at HB4
  rw [← hV4, ← hB4]
  clear hV4 hB4
  generalize A2 = A4 at *
  generalize c2 = c4 at *
  have hbl4 : B4.length ≤ bn + 300 := by rw [HB4.out, List.length_append, HBN.out]; have : ([8] : List UInt8).length ≤ 300 := (by simp); omega
  obtain ⟨b4, hb4⟩ : ∃ b4, B4.length = b4 := ⟨_, rfl⟩
  have H4 := Lib.hid h4
  rw [hb4] at hbl4 ⊢
  clear hbl1 h4
  have HB4N := Lib.hid hb4
  clear hb4
  go_wp2
  go_loopw [0, 5] (fun u i wr => ∃ (k : Nat) (Ak : Option Addr) (ck : Nat), k ≤ len ∧ i = .int .i64 k ∧ u = .slice Ak (B4 ++ layTs (l.take k)).length ck ∧ LS w0.heap.size W wr (.slice Av bn cv) (.slice Ak (B4 ++ layTs (l.take k)).length ck) (B4 ++ layTs (l.take k)) [.int .i64 8, .int .i64 n, .string ⟨#[]⟩, .slice A len c]) (fun _ i _ => len - (intOf i).toNat)
  case atStart =>
    refine ⟨0, A4, c4, Nat.zero_le _, rfl, ?_, ?_⟩
    · simp [layTs, HB4N.out]
    · have h9 := H4.out
      rw [show B4 ++ layTs (l.take 0) = B4 by simp [layTs]]
      exact h9
  case round =>
    obtain ⟨k, Ak, ck, hk, rfl, rfl, hLk⟩ := hrel
    have hgk := hLk.gr
    have hok := hLk.own
    have x3 : wr.cell? ⟨W.heap.size, 3, none⟩ = some (.slice A len c) := hLk.box.cell 3
    have hbk : Below w0.heap.size w0 wr := hW.trans (hgk.below hbase HO.out)
    by_cases hlt : k < len
    · have hd1 : decide (k < len) = true := by simp; omega
      have hkl : k < l.length := by rw [HLEN.out]; exact hlt
      obtain ⟨b, o, A', c', rfl, e0', e1', e2', e3', hR'⟩ := hR.item hkl
      have e0 := (hbk.cell (World.block_lt_of_cell? w0 _ e0')).trans e0'
      have e1 := (hbk.cell (World.block_lt_of_cell? w0 _ e1')).trans e1'
      have e2 := (hbk.cell (World.block_lt_of_cell? w0 _ e2')).trans e2'
      have e3 := (hbk.cell (World.block_lt_of_cell? w0 _ e3')).trans e3'
      have htk := layTs_take l k hkl
      have hpt := partsL_take l k hkl
      have hpl := partsL_take_le l (k + 1)
      have hlt1 := layTs_len (l.take k) (by
        have := HL.out
        rw [← List.take_append_drop k l, isL_append, Bool.and_eq_true] at this
        exact this.1)
      have hlk : (B4 ++ layTs (l.take k)).length ≤ b4 + 300 * TV.partsL (l.take k) := by rw [List.length_append, HB4N.out]; omega
      have HTK := Lib.hid (show B4 ++ layTs (l.take (k + 1)) = B4 ++ layTs (l.take k) ++ layT l[k] by rw [htk, List.append_assoc])
      have HC := Lib.hid (HIT.out k hkl A' c' (.slice Ak (B4 ++ layTs (l.take k)).length ck) (B4 ++ layTs (l.take k)) wr hbk hR' hok (by omega))
      have HLK := Lib.hid hLk
      obtain ⟨Bk, hBk⟩ : ∃ Bk, B4 ++ layTs (l.take k) = Bk := ⟨_, rfl⟩
      rw [hBk] at HC HTK HLK
      obtain ⟨nk, hnk⟩ : ∃ nk, Bk.length = nk := ⟨_, rfl⟩
      rw [hBk, hnk]
      rw [hnk] at HC HLK
      have HNK := Lib.hid hnk
      have HGR : Hid (∀ V v', V.ownsRow w0.heap.size 5 1 v' (Bk ++ layT l[k]).length ((Bk ++ layT l[k]).map bv) → Grow wr V (.slice Ak nk ck) v' → LS w0.heap.size W V (.slice Av bn cv) v' (Bk ++ layT l[k]) [.int .i64 8, .int .i64 n, .string ⟨#[]⟩, .slice (some ⟨b, o, none⟩) len c]) := fun V v' ho hg => HLK.out.grow ho hg
      obtain ⟨Bq, hBq⟩ : ∃ Bq, Bk ++ layT l[k] = Bq := ⟨_, rfl⟩
      rw [hBq] at HC HTK HGR
      have hq1 : (0 : Int) ≤ (k : Int) := by omega
      have hq2 : (k : Int) < (len : Int) := by omega
      clear e0' e1' e2' e3' htk hpt hpl hlt1 hlk hBk hnk hBq hgk hok hR' hLk HLK
      generalize l[k] = ti at *
      clear hkl
      go_wp2_with (go_at_call 22; refine HC.out.mono ?_; rintro r V5 ⟨A5, c5, rfl, ho5, hg5⟩)
      go_roundw
      case rel =>
        refine ⟨k + 1, A5, c5, by omega, by go_num, by rw [HTK.out], ?_⟩
        rw [HTK.out]
        exact HGR.out _ _ ho5 hg5
      case measure => simp [intOf]; omega
    · obtain rfl : len = k := by omega
      have hd1 : decide (len < len) = false := by simp
      have HE := Lib.hid (show B4 ++ layTs (l.take len) = bl ++ ([8]) ++ layTs l by rw [List.take_of_length_le (by rw [HLEN.out]; exact Nat.le_refl _), HB4.out])
      rw [HE.out] at hok hgk ⊢
      obtain ⟨BZ, hBZ⟩ : ∃ BZ, bl ++ ([8]) ++ layTs l = BZ := ⟨_, rfl⟩
      rw [hBZ] at hok hgk ⊢
      have HOK := Lib.hid (And.intro hok hgk)
      have HBZ := Lib.hid hBZ
      clear hok hgk hBZ HE hLk
      go_wp2
      go_ret
      exact ⟨Ak, ck, by rw [HBZ.out]; rfl, by rw [HBZ.out]; exact HOK.out.1, by rw [HBZ.out]; exact HOK.out.2⟩

end Go.Proofs.Ytommadcjemljcaa
