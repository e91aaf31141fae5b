/- The walk of live of the statements of layer 6. -/
import Derived.Test.YtcnhfbckaacalaaJouU
import Derived.Test.YtcnhfbckaacalaaJouN
namespace Go.Proofs.Ytcnhfbckaacalaa
open Go.RowKit
set_option linter.unusedVariables false

set_option maxHeartbeats 400000 in
theorem num_any (e : Int) (w : World) : Calls Try.prog 11 #[.int .i64 e] w fun r w' => r = .returned (.int .i64 e) ∧ w = w' := by
  go_enter Try.func11, Try.ntmps11
  go_wp2
  go_ret
  exact ⟨rfl, rfl⟩
theorem laid_zeros (n : Nat) (h : n = 60 ∨ n = 37) : (laidS (List.replicate n 0)).length = n + 2 := by
  unfold laidS
  rw [List.length_append, laidB_len, List.length_replicate]
  have : wid n = 1 := by rcases h with rfl | rfl <;> decide
  omega
/-- The rest of what live does. -/
theorem live_law2 {J1 : JV} {D1 : DS} (h : JOn 3 2 1 1 8 D1 J1 [List.replicate 60 0] 0) (hj : JOk J1 D1) (ok : D1.Ok) (hl : J1.stream.length = 62) (hg : D1.log.length ≤ 2) : ∃ J2 D2, J1.flush D1 = (0, J2, D2) ∧ JOn 3 2 1 1 8 D2 J2 [List.replicate 60 0] 1 ∧ J2.app D2 (List.replicate 37 0) = (60, J2, D2) ∧ D2.log.length ≤ 3 := by
  obtain ⟨J2, D2, h1, h2, h3, h4, h5⟩ := h.flush hj ok (by omega)
  refine ⟨J2, D2, h1, h2, ?_, by omega⟩
  have hz := laid_zeros 37 (.inr rfl)
  have h6 : J2.left D2 = 36 := by rw [h2.left_, h4, hl]
  unfold JV.app
  rw [if_neg (by rw [h2.brk]; simp), if_pos (by rw [h6, hz]; omega)]
def Yes (w : World) (e : Ending) (w' : World) : Prop := e = .returned (.bool true) ∧ Below w.heap.size w w'
theorem zeros_rd (W : World) (n : Nat) : Rd (W.alloc (.cells (zerosB n) 5)) (some ⟨W.heap.size, 0, none⟩) (List.replicate n 0) := by
  have h2 := (Blk.new W 5 (zerosB n)).rd0 (l := List.replicate n 0) n
  rwa [List.take_of_length_le (by simp)] at h2
/-- What the acts of live do. -/
theorem live_law {D0 : DS} (hs : JOn 3 2 1 1 8 D0 ⟨3, 2, 1, 1, [], 0, 0, false⟩ [] 0) (hj : JOk ⟨3, 2, 1, 1, [], 0, 0, false⟩ D0) (ok : D0.Ok) (hlg : D0.log.length = 0) : ∃ J1 D1, (⟨3, 2, 1, 1, [], 0, 0, false⟩ : JV).app D0 (List.replicate 60 0) = (0, J1, D1) ∧ JOn 3 2 1 1 8 D1 J1 [List.replicate 60 0] 0 ∧ J1.safe = 49 ∧ J1.stream.length = 62 ∧ D1.log.length ≤ 2 := by
  have hz := laid_zeros 60 (.inl rfl)
  have hl : (⟨3, 2, 1, 1, [], 0, 0, false⟩ : JV).left D0 = 98 := by rw [hs.left_]; rfl
  rcases hs.app hj ok (p := List.replicate 60 0) (by simp) (by omega) with ⟨h1, _⟩ | ⟨h1, J1, D1, h2, h3, h4, h5, h6⟩
  · rw [hl, hz] at h1; omega
  refine ⟨J1, D1, h2, h3, ?_, ?_, by omega⟩
  · have h7 : J1.stream.length = 62 := by rw [h4, List.length_append, hz]; rfl
    rw [hz] at h6
    have h8 : J1.safe ≤ 49 := h6
    rcases h3.set with h9 | h9
    · rw [h3.size, h7] at h9
      have : J1.safe / 49 = 1 := h9
      omega
    · rw [h3.brk] at h9; cases h9
  · rw [h4, List.length_append, hz]; rfl
set_option maxRecDepth 100000 in
set_option maxHeartbeats 2000000 in
theorem live_any (w : World) : Calls Try.prog 9 #[] w (Yes w) := by
  have HN := Lib.hid (new_ok 8 64 w (by omega) (by omega) (by omega) (by omega))
  obtain ⟨r0, r1, h0⟩ := jon_fresh 3 2 1 8 (by omega) (by omega)
  have HD0 := Lib.hid (DS.fresh_ok (nb := 8) (size := 64) (by omega) (by omega) (by omega) (by omega))
  obtain ⟨D0, hD0⟩ : ∃ D0, DS.fresh 8 64 = D0 := ⟨_, rfl⟩
  rw [hD0] at HN r0 h0 HD0
  have HR0 := Lib.hid r0
  have HR1 := Lib.hid r1
  have H0 := Lib.hid h0
  have HLG := Lib.hid (show D0.log.length = 0 by rw [← hD0]; rfl)
  clear hD0 r0 r1 h0
  have hmk60 : ∀ W : World, (Instr.makeSlice 23 (.int .i64 60) (.int .i64 60)).run Try.prog W = .ok (.slice (some ⟨W.heap.size, 0, none⟩) 60 60) (W.alloc (.cells (zerosB 60) 5)) := fun W => run_make_bytes (P := Try.prog) bytesT 60 (by omega) W
  have hmk37 : ∀ W : World, (Instr.makeSlice 23 (.int .i64 37) (.int .i64 37)).run Try.prog W = .ok (.slice (some ⟨W.heap.size, 0, none⟩) 37 37) (W.alloc (.cells (zerosB 37) 5)) := fun W => run_make_bytes (P := Try.prog) bytesT 37 (by omega) W
  go_enter Try.func9, Try.ntmps9
  go_upto_region 4 with (first
    | (go_at_call 10; refine HN.out.mono ?_; rintro e w1 ⟨pd, p, rfl, hD1, hb1, hF1⟩)
    | (go_at_call 11; refine (num_any _ _).mono ?_; rintro e w' ⟨rfl, rfl⟩))
  have HOP := Lib.hid (jopened_any (w0 := bas w) hD1 HD0.out (Fr.of_below hb1 _) (fun k hk => .inl (hF1 k hk)) 3 2 1 (by rw [H0.out.nb_]; omega) (by omega) (by omega) (by omega) H0.out.off HR0.out (by omega) HR1.out)
  clear hD1 hb1 hF1 HN
  go_upto_region 5 with (go_at_call 12; refine HOP.out.mono ?_; rintro e w2 ⟨hb2, pj, v, A, cA, vals, rfl, hpj, hJ2, hRc2⟩)
  refine wp_world (fun V => JD w pj v ⟨3, 2, 1, 1, [], 0, 0, false⟩ pd p D0 V) hJ2 ?_
  clear HOP hb2 hpj hJ2 hRc2
  intro w3 hJ3
  have HL : Hid (Calls Try.prog 13 #[.pointer (some ⟨pj, 0, none⟩)] w3 fun e w' => e = .returned (.int .i64 98) ∧ ∃ q, w' = w3.drewN q) := by
    have h9 := jleft_any hJ3
    rw [H0.out.left_] at h9
    exact h9
  obtain ⟨J1, D1, hA, hO1, hs1, hl1, hg1⟩ := live_law H0.out hJ3.jok HD0.out HLG.out
  have HAP : Hid (∀ V, Below w3.heap.size w3 V → ∀ A c, Rd V A (List.replicate 60 0) → Calls Try.prog 17 #[.pointer (some ⟨pj, 0, none⟩), .slice A 60 c] V fun r w' => r = .returned (.int .i64 0) ∧ ∃ v' p', JD w pj v' J1 pd p' D1 w') := fun V hV A c hr => by
    have h9 := jappend_any (hJ3.keep hV) (List.replicate 60 0) A 60 c (by simp) (by omega) hr (by rw [HLG.out]; show 0 + 2 + 1 ≤ _; omega)
    rw [hA] at h9
    exact h9
  have HO1 := Lib.hid hO1
  clear hA hJ3 hO1
  go_upto_region 7 with (first
    | (go_at_call 11; refine (num_any _ _).mono ?_; rintro e w' ⟨rfl, rfl⟩)
    | (go_at_call 13; refine HL.out.mono ?_; rintro e w' ⟨rfl, q4, rfl⟩)
    | (go_at_call 17; refine (HAP.out _ (below_step (below_drewN (Below.refl _ _) q4) (below_alloc _ _)) _ _ (zeros_rd _ _)).mono ?_; rintro e w5 ⟨rfl, v5, p5, hJ5⟩; clear HAP; (obtain ⟨J2, D2, hF, hO2, hA2, hg2⟩ := live_law2 HO1.out hJ5.jok hJ5.ok hl1 hg1); (have HSF := Lib.hid (jsafe_any hJ5)); rw [hs1] at HSF; (have HFL := Lib.hid (jflush_any hJ5 (by omega))); rw [hF] at HFL; (have HO2 := Lib.hid (And.intro hO2 hA2)); clear hF hO2 hA2 hJ5)
    | (go_at_call 18; refine HSF.out.mono ?_; rintro e w6 ⟨rfl, rfl⟩)
    | (go_at_call 19; refine HFL.out.mono ?_; rintro e w7 ⟨rfl, v7, p7, hJ7'⟩; (have hJ7 : JD w pj v7 J2 pd p7 D2 w7 := hJ7'); clear HFL HSF hJ7'; (have HAP2 := Lib.hid (jappend_any (hJ7.keep (below_alloc w7 (.cells (zerosB 37) 5))) (List.replicate 37 0) (some ⟨w7.heap.size, 0, none⟩) 37 37 (by simp) (by omega) (zeros_rd w7 37) (by rw [HO2.out.1.len_]; omega))); rw [HO2.out.2] at HAP2)
    | (go_at_call 17; refine HAP2.out.mono ?_; rintro e w8 ⟨rfl, v8, p8, hJ8⟩; clear HAP2))
  obtain ⟨RS, lf, k, o1, o2, o3, o4, o5, o6⟩ := HO2.out.1.opened hJ8.jok
  obtain rfl : k = 1 := by simp only [List.length_cons, List.length_nil] at o5; omega
  have hsf : (laidSs ([List.replicate 60 0].take 1)).length = 62 := by
    show (laidSs [List.replicate 60 0]).length = 62
    unfold laidSs
    rw [List.flatMap_cons, List.flatMap_nil, List.append_nil, laid_zeros 60 (.inl rfl)]
  have htk : [List.replicate 60 (0 : UInt8)].take 1 = [List.replicate 60 0] := rfl
  have hRSl : (RS.take 62).length = 62 := by
    have h9 := o6.st.strm
    rw [hsf] at h9
    have h8 : (RS.take 62) = laidSs ([List.replicate 60 0].take 1) := h9
    rw [h8, hsf]
  rw [hsf, htk] at o3
  have HOP := Lib.hid (jopened_any hJ8.disk hJ8.ok hJ8.belx hJ8.loD 3 2 1 (by rw [HO2.out.1.nb_]; omega) (by omega) (by omega) (by omega) HO2.out.1.off o1 (by omega) o3)
  clear hJ8 hJ7 o1 o2 o3 o4 o5 o6 hsf htk
  go_upto_region 8 with (go_at_call 12; refine HOP.out.mono ?_; rintro e w9 ⟨hb9, pk, v9, A9, c9, vals9, rfl, hpk, hJ9, hRc9⟩)
  obtain ⟨g, B, cB, rfl, hcell, hrd⟩ := hRc9.at_ 0 (by simp)
  have hcell : w9.cell? ⟨g, 0, none⟩ = some (.slice B 60 cB) := by
    have h9 : ([List.replicate 60 (0 : UInt8)][0]).length = 60 := by simp
    rw [h9] at hcell
    exact hcell
  refine wp_world (fun V => JD w pk v9 ⟨3, 2, 1, lf + 1, RS.take 62, 62, 1, false⟩ pd p8 D2 V ∧ V.cell? ⟨g, 0, none⟩ = some (.slice B 60 cB)) ⟨hJ9, hcell⟩ ?_
  clear HOP hb9 hpk hJ9 hRc9 hcell hrd
  rintro w10 ⟨hJ10, hcell⟩
  have HUS : Hid (Calls Try.prog 15 #[.pointer (some ⟨pk, 0, none⟩)] w10 fun e w' => e = .returned (.int .i64 62) ∧ w10 = w') := by
    have h9 := jused_any hJ10
    rw [show (⟨3, 2, 1, lf + 1, RS.take 62, 62, 1, false⟩ : JV).stream.length = 62 from hRSl] at h9
    exact h9
  have HRE : Hid (Calls Try.prog 20 #[.pointer (some ⟨pk, 0, none⟩)] w10 fun e w' => e = .returned (.int .i64 1) ∧ w10 = w') := jrecords_any hJ10
  have HNU : Hid (Calls Try.prog 26 #[.int .i64 1, .int .i64 1, .int .i64 2] w10 fun r w' => r = .returned (.int .u64 1099512676354) ∧ w10 = w') := jnumber_any 1 1 2 w10 (by omega) (by omega) (by omega)
  have HBEL := Lib.hid hJ10.bel
  clear hJ10 hRSl
  go_wp2_with (first
    | (go_at_call 11; refine (num_any _ _).mono ?_; rintro e w' ⟨rfl, rfl⟩)
    | (go_at_call 15; refine HUS.out.mono ?_; rintro e w6 ⟨rfl, rfl⟩)
    | (go_at_call 20; refine HRE.out.mono ?_; rintro e w6 ⟨rfl, rfl⟩)
    | (go_at_call 26; refine HNU.out.mono ?_; rintro e w6 ⟨rfl, rfl⟩))
  go_ret
  exact ⟨rfl, HBEL.out⟩
end Go.Proofs.Ytcnhfbckaacalaa
