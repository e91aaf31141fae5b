/- Heap (layer 9): Put. Written by hpgenq.py. -/
import Derived.Test.YtefnjplfemgibaaHpN
namespace Go.Proofs.Ytefnjplfemgibaa
open Go.RowKit
set_option linter.unusedVariables false

theorem Ga.form {w : World} {base : Nat} {v : Value} {l : List UInt8} (h : Ga w base v l) (hl : l.length ≤ 140737488355328) : ∃ A c, v = .slice A l.length c ∧ Rd w A l ∧ l.length ≤ c ∧ c ≤ 9223372036854775807 := by
  rcases h with h | ⟨A, hv, hr⟩
  · obtain ⟨A, c, hv, hr, _, hc⟩ := own_rd h
    refine ⟨A, c, hv, hr, hc, ?_⟩
    rcases h.2 with ⟨hv2, _⟩ | ⟨g, cap, cur, hv2, _, _, _, h10, _⟩
    · rw [hv] at hv2
      have := (Value.slice.inj hv2).2.2; omega
    · rw [hv] at hv2
      have := (Value.slice.inj hv2).2.2; unfold maxLen at h10; omega
  · exact ⟨A, _, hv, hr, Nat.le_refl _, by omega⟩
/-- A heap's bytes. -/
def putP (ws : List Nat) (nm : List (List UInt8)) (rs : List Nat) : List UInt8 := laidL [ws.length] ++ laidL ws ++ laidL [nm.length] ++ laidSs nm ++ laidL [rs.length] ++ laidL rs
section
variable {W W' V : World} {A Aw Aa Ar : Option Addr} {lw cw la ca lr cr : Nat} {ws rs : List Nat} {nm : List (List UInt8)}
theorem RdC.rdt {l : List (List UInt8)} (h : RdC W A (l.map hv)) : RdT W A l := by
  rcases h with h0 | ⟨b, off, rfl, h⟩
  · exact .inl (List.map_eq_nil_iff.1 h0)
  · refine .inr ⟨b, off, rfl, fun j hj => ?_⟩
    rw [h j (hv (l[j]'hj)) (by simp [hj])]
    simp [hv]
theorem rdk_one (V : World) (n : Nat) (t : TypeId) : RdK .u64 (V.alloc (.cells #[.int .u64 (n : Int)] t)) (some ⟨V.heap.size, 0, none⟩) ([n].map (fun (x : Nat) => (x : Int))) := by
  refine .inr ⟨_, _, rfl, fun j hj => ?_⟩
  rw [Nat.zero_add, (Blk.new V t _).cell]
  simp at hj
  simp [hj]
/-- Num of one number that has just been laid in new memory. -/
theorem num_one {A : Option Addr} {l : List UInt8} {n c : Nat} (k : Nat) (hl : l.length = n) (hnc : n ≤ c) (hc : c ≤ 9223372036854775807) (hr : Rd V A l) (hk : k ≤ 1000000) (hsz : n ≤ 100000000000000) {P : List UInt8} {np : Nat} (hP : l ++ laidL [k] = P) (hnp : P.length = np) :
    Calls Try.prog 39 #[.slice A n c, .slice (some ⟨V.heap.size, 0, none⟩) 1 1] (V.alloc (.cells #[.int .u64 (k : Int)] 34)) fun e w' => ∃ A' c', e = .returned (.slice A' np c') ∧ Rd w' A' P ∧ (np ≤ c' ∧ c' ≤ 9223372036854775807) ∧ Below V.heap.size V w' := by
  subst hP hnp
  refine (num_lay A _ l [k] n c 1 1 _ hl rfl hnc hc (hr.below (below_alloc _ _)) (rdk_one V k _) (by simp; omega) (by omega)).mono ?_
  rintro e w' ⟨v, rfl, hg, hb⟩
  have h9 := laidL_len [k]
  obtain ⟨A', c', rfl, h1, h2, h3⟩ := hg.form (by rw [List.length_append]; simp at h9; omega)
  exact ⟨A', c', rfl, h1, ⟨h2, h3⟩, below_step (below_alloc _ _) hb⟩
/-- Num of a row. -/
theorem num_row {A B : Option Addr} {l : List UInt8} {n c m c' : Nat} {ns : List Nat} (hl : l.length = n) (hnc : n ≤ c) (hc : c ≤ 9223372036854775807) (hr : Rd V A l) (hm : ns.length = m) (hk : RdC V B (ns.map nv)) (h64 : W64 ns) (hm9 : m ≤ 1000000) (hsz : n ≤ 100000000000000) {P : List UInt8} {np : Nat} (hP : l ++ laidL ns = P) (hnp : P.length = np) :
    Calls Try.prog 39 #[.slice A n c, .slice B m c'] V fun e w' => ∃ A' c', e = .returned (.slice A' np c') ∧ Rd w' A' P ∧ (np ≤ c' ∧ c' ≤ 9223372036854775807) ∧ Below V.heap.size V w' := by
  subst hP hnp
  refine (num_lay A B l ns n c m c' _ hl hm hnc hc hr hk.rdk h64 (by omega)).mono ?_
  rintro e w' ⟨v, rfl, hg, hb⟩
  have h9 := laidL_len ns
  obtain ⟨A', c', rfl, h1, h2, h3⟩ := hg.form (by rw [List.length_append]; omega)
  exact ⟨A', c', rfl, h1, ⟨h2, h3⟩, hb⟩
/-- Str of a row. -/
theorem str_row {A B : Option Addr} {l : List UInt8} {n c m c' : Nat} {ns : List (List UInt8)} (hl : l.length = n) (hnc : n ≤ c) (hc : c ≤ 9223372036854775807) (hr : Rd V A l) (hm : ns.length = m) (hk : RdC V B (ns.map hv)) (hm9 : m ≤ 1000000) (ht : textSum ns ≤ 1000000000) (hsz : n ≤ 100000000000000) {P : List UInt8} {np : Nat} (hP : l ++ laidSs ns = P) (hnp : P.length = np) :
    Calls Try.prog 40 #[.slice A n c, .slice B m c'] V fun e w' => ∃ A' c', e = .returned (.slice A' np c') ∧ Rd w' A' P ∧ (np ≤ c' ∧ c' ≤ 9223372036854775807) ∧ Below V.heap.size V w' := by
  subst hP hnp
  refine (str_lay A B l ns n c m c' _ hl hm hnc hc hr hk.rdt (by omega)).mono ?_
  rintro e w' ⟨v, rfl, hg, hb⟩
  have h9 := laidSs_len ns
  obtain ⟨A', c', rfl, h1, h2, h3⟩ := hg.form (by rw [List.length_append]; omega)
  exact ⟨A', c', rfl, h1, ⟨h2, h3⟩, hb⟩
set_option maxRecDepth 100000 in
set_option maxHeartbeats 4000000 in
theorem hput_v (W : World) (h : HRd W Aw lw cw Aa la ca Ar lr cr ws nm rs) (hb : lw ≤ 1000000 ∧ la ≤ 1000000 ∧ lr ≤ 1000000) (ht : textSum nm ≤ 1000000000) :
    Calls Try.prog 22 #[.agg #[.slice Aw lw cw, .slice Aa la ca, .slice Ar lr cr]] W fun e W' => ∃ A c, e = .returned (.slice A (putP ws nm rs).length c) ∧ Rd W' A (putP ws nm rs) ∧ ((putP ws nm rs).length ≤ c ∧ c ≤ 9223372036854775807) ∧ Below W.heap.size W W' := by
  obtain ⟨hw9, ha9, hr9⟩ := hb
  obtain ⟨PF, hPF⟩ : ∃ P, putP ws nm rs = P := ⟨_, rfl⟩
  obtain ⟨nf, hnf⟩ : ∃ n, PF.length = n := ⟨_, rfl⟩
  obtain ⟨Q0, hQ0⟩ : ∃ P, ([] : List UInt8) ++ laidL [lw] = P := ⟨_, rfl⟩
  obtain ⟨P1, hP1⟩ : ∃ P, Q0 ++ laidL ws = P := ⟨_, rfl⟩
  obtain ⟨Q1, hQ1⟩ : ∃ P, P1 ++ laidL [la] = P := ⟨_, rfl⟩
  obtain ⟨P2, hP2⟩ : ∃ P, Q1 ++ laidSs nm = P := ⟨_, rfl⟩
  obtain ⟨Q2, hQ2⟩ : ∃ P, P2 ++ laidL [lr] = P := ⟨_, rfl⟩
  have hP3 : Q2 ++ laidL rs = PF := by rw [← hPF, ← hQ2, ← hP2, ← hQ1, ← hP1, ← hQ0, ← h.hlw, ← h.hla, ← h.hlr]; rfl
  have b0 : Q0.length ≤ 9 := by rw [← hQ0]; have h1 := laidL_len [lw]; simp only [List.length_append, List.length_nil, List.length_cons] at *; omega
  have b1 : P1.length ≤ 10000000 := by rw [← hP1]; have h1 := laidL_len ws; have := h.hlw; simp only [List.length_append] at *; omega
  have b2 : Q1.length ≤ 10000009 := by rw [← hQ1]; have h1 := laidL_len [la]; simp only [List.length_append, List.length_nil, List.length_cons] at *; omega
  have b3 : P2.length ≤ 1100000000 := by rw [← hP2]; have h1 := laidSs_len nm; have := h.hla; simp only [List.length_append] at *; omega
  have b4 : Q2.length ≤ 1100000009 := by rw [← hQ2]; have h1 := laidL_len [lr]; simp only [List.length_append, List.length_nil, List.length_cons] at *; omega
  obtain ⟨m0, hm0⟩ : ∃ n, Q0.length = n := ⟨_, rfl⟩
  obtain ⟨n1, hn1⟩ : ∃ n, P1.length = n := ⟨_, rfl⟩
  obtain ⟨m1, hm1⟩ : ∃ n, Q1.length = n := ⟨_, rfl⟩
  obtain ⟨n2, hn2⟩ : ∃ n, P2.length = n := ⟨_, rfl⟩
  obtain ⟨m2, hm2⟩ : ∃ n, Q2.length = n := ⟨_, rfl⟩
  rw [hm0] at b0
  rw [hn1] at b1
  rw [hm1] at b2
  rw [hn2] at b3
  rw [hm2] at b4
  have HE0 : Hid (([] : List UInt8) ++ laidL [lw] = Q0 ∧ Q0.length = m0 ∧ m0 ≤ 100000000000000 ∧ Q0 ++ laidL ws = P1 ∧ P1.length = n1 ∧ True) := Lib.hid ⟨hQ0, hm0, by omega, hP1, hn1, trivial⟩
  have HE1 : Hid (P1 ++ laidL [la] = Q1 ∧ Q1.length = m1 ∧ m1 ≤ 100000000000000 ∧ Q1 ++ laidSs nm = P2 ∧ P2.length = n2 ∧ P1.length = n1 ∧ n1 ≤ 100000000000000) := Lib.hid ⟨hQ1, hm1, by omega, hP2, hn2, hn1, by omega⟩
  have HE2 : Hid (P2 ++ laidL [lr] = Q2 ∧ Q2.length = m2 ∧ m2 ≤ 100000000000000 ∧ Q2 ++ laidL rs = PF ∧ PF.length = nf ∧ P2.length = n2 ∧ n2 ≤ 100000000000000) := Lib.hid ⟨hQ2, hm2, by omega, hP3, hnf, hn2, by omega⟩
  rw [hPF, hnf]
  clear hPF hnf hQ0 hP1 hQ1 hP2 hQ2 hP3 b0 b1 b2 b3 b4 hm0 hn1 hm1 hn2 hm2
  have HH := Lib.hid h
  have HT := Lib.hid ht
  clear h ht
  obtain ⟨g, hg⟩ : ∃ g, W.heap.size = g := ⟨_, rfl⟩
  have HG := Lib.hid hg
  go_enter Try.func22, Try.ntmps22
  go_upto_region 1 with (fail)
  refine wp_world (fun V => Below W.heap.size W V ∧ Blk V g 29 #[.slice Aw lw cw, .slice Aa la ca, .slice Ar lr cr]) ⟨below_alloc _ _, by rw [← HG.out]; exact Blk.new _ _ _⟩ ?_
  rintro V0 ⟨hb, hk⟩
  have HB0 := Lib.hid hb
  have HK0 := Lib.hid hk
  clear hb hk hg
  refine wp_region_W 9 (fun V => Below V0.heap.size V0 V) (by kernel_rfl) ?_ (fun hS0 => ?_)
  · exact (Below.refl _ _).drew
  (refine wpAnyW_take (i := 0) (v := ?_) rfl (by kernel_rfl) (by kernel_rfl) (by kernel_rfl) (by kernel_rfl) (fun _ _ _ h => h) (Or.inl ⟨by kernel_rfl, ?_⟩) (by assumption) ?_; rotate_left; focus (intro V9 hS9; go_simp; (try (with_reducible rfl)); done))
  try simp only [Act.put, List.getElem_toArray, List.getElem_cons_zero, List.setIfInBounds_toArray, List.set_cons_succ, List.set_cons_zero]
  (refine wpAnyW_take (i := 1) (v := ?_) rfl (by kernel_rfl) (by kernel_rfl) (by kernel_rfl) (by kernel_rfl) (fun _ _ _ h => h) (Or.inl ⟨by kernel_rfl, ?_⟩) (by assumption) ?_; rotate_left; focus (intro V9 hS9; have g0 := (HK0.out.keep hS9).cell 0; have g1 := (HK0.out.keep hS9).cell 1; have g2 := (HK0.out.keep hS9).cell 2; go_simp; (try (with_reducible rfl)); done))
  try simp only [Act.put, List.getElem_toArray, List.getElem_cons_succ, List.getElem_cons_zero, List.setIfInBounds_toArray, List.set_cons_succ, List.set_cons_zero]
  (refine wpAnyW_take (i := 2) (v := ?_) rfl (by kernel_rfl) (by kernel_rfl) (by kernel_rfl) (by kernel_rfl) (fun _ _ _ h => h) (Or.inl ⟨by kernel_rfl, ?_⟩) (by assumption) ?_; rotate_left; focus (intro V9 hS9; go_simp; (try (with_reducible rfl)); done))
  try simp only [Act.put, List.getElem_toArray, List.getElem_cons_succ, List.getElem_cons_zero, List.setIfInBounds_toArray, List.set_cons_succ, List.set_cons_zero]
  (refine wpAnyW_take (i := 3) (v := ?_) rfl (by kernel_rfl) (by kernel_rfl) (by kernel_rfl) (by kernel_rfl) (fun _ _ _ h => h) (Or.inl ⟨by kernel_rfl, ?_⟩) (by assumption) ?_; rotate_left; focus (intro V9 hS9; go_simp; (try (with_reducible rfl)); done))
  try simp only [Act.put, List.getElem_toArray, List.getElem_cons_succ, List.getElem_cons_zero, List.setIfInBounds_toArray, List.set_cons_succ, List.set_cons_zero]
  (refine wpAnyW_take (i := 6) (v := ?_) rfl (by kernel_rfl) (by kernel_rfl) (by kernel_rfl) (by kernel_rfl) (fun _ _ _ h => h) (Or.inl ⟨by kernel_rfl, ?_⟩) (by assumption) ?_; rotate_left; focus (intro V9 hS9; go_simp; (try (with_reducible rfl)); done))
  try simp only [Act.put, List.getElem_toArray, List.getElem_cons_succ, List.getElem_cons_zero, List.setIfInBounds_toArray, List.set_cons_succ, List.set_cons_zero]
  (refine wpAnyW_take (i := 7) (v := ?_) rfl (by kernel_rfl) (by kernel_rfl) (by kernel_rfl) (by kernel_rfl) (fun _ _ _ h => h) (Or.inl ⟨by kernel_rfl, ?_⟩) (by assumption) ?_; rotate_left; focus (intro V9 hS9; have g0 := (HK0.out.keep hS9).cell 0; have g1 := (HK0.out.keep hS9).cell 1; have g2 := (HK0.out.keep hS9).cell 2; go_simp; (try (with_reducible rfl)); done))
  try simp only [Act.put, List.getElem_toArray, List.getElem_cons_succ, List.getElem_cons_zero, List.setIfInBounds_toArray, List.set_cons_succ, List.set_cons_zero]
  refine wpAnyW_ready (rs := [4]) (by kernel_rfl) (by simp) ?_
  refine AllReadyW.cons rfl (fun K hK => ?_) AllReadyW.nil
  go_simp
  try rw [show IntKind.u64.wrap (lw : Int) = (lw : Int) from by unfold IntKind.wrap; simp [IntKind.bits, IntKind.signed]; omega]
  refine hK.out _ _ (below_step (Below.refl _ _).drew (below_alloc _ _)) (fun _ => ?_)
  clear hK K
  try simp only [Act.put, List.getElem_toArray, List.getElem_cons_succ, List.getElem_cons_zero, List.setIfInBounds_toArray, List.set_cons_succ, List.set_cons_zero]
  refine wpAnyW_ready (rs := [5]) (by kernel_rfl) (by simp) ?_
  refine AllReadyW.cons rfl (fun K hK => ?_) AllReadyW.nil
  go_simp
  refine (num_one (V := V0.drew) (l := ([] : List UInt8)) lw rfl (Nat.le_refl _) (by decide) (.inl rfl) (by omega) (by decide) HE0.out.1 HE0.out.2.1).mono ?_
  rintro e w1 ⟨Ax, cx, rfl, hrx, hcx, hbx⟩
  refine hK.out _ _ (below_step (Below.refl _ _).drew hbx) (fun _ => ?_)
  clear hK K
  try simp only [Act.put, List.getElem_toArray, List.getElem_cons_succ, List.getElem_cons_zero, List.setIfInBounds_toArray, List.set_cons_succ, List.set_cons_zero]
  have HBX := Lib.hid (show Below V0.heap.size V0 w1 from below_step (Below.refl _ _).drew hbx)
  refine wpAnyW_ready (rs := [8]) (by kernel_rfl) (by simp) ?_
  refine AllReadyW.cons rfl (fun K hK => ?_) AllReadyW.nil
  go_simp
  refine (num_row (V := w1) (l := Q0) HE0.out.2.1 hcx.1 hcx.2 hrx HH.out.hlw ((HH.out.w.below HB0.out).below HBX.out) HH.out.w64 (by omega) HE0.out.2.2.1 HE0.out.2.2.2.1 HE0.out.2.2.2.2.1).mono ?_
  rintro e w2 ⟨Ay, cy, rfl, hry, hcy, hby⟩
  refine hK.out _ _ (below_step HBX.out hby) (fun _ => ?_)
  clear hK K
  try simp only [Act.put, List.getElem_toArray, List.getElem_cons_succ, List.getElem_cons_zero, List.setIfInBounds_toArray, List.set_cons_succ, List.set_cons_zero]
  refine wpAnyW_ready (rs := [9]) (by kernel_rfl) (by simp) ?_
  refine AllReadyW.consE rfl (by kernel_rfl) (fun K hK => ?_) AllReadyW.nil
  go_simp
  refine hK.out _ _ ?_
  clear hK K
  refine wpAnyW_done (by kernel_rfl) ?_ _
  go_upto_region 2 with (fail)
  refine wp_world (fun V => Below W.heap.size W V ∧ Blk V g 29 #[.slice Aw lw cw, .slice Aa la ca, .slice Ar lr cr] ∧ Rd V Ay P1) ⟨below_step HB0.out (below_step HBX.out hby), HK0.out.keep (below_step HBX.out hby), hry⟩ ?_
  generalize Ay = A1 at *
  generalize cy = c1 at *
  have HC1 := Lib.hid hcy
  clear hrx hcx hbx HBX hry hcy hby HB0 HK0 hS0
  rintro V1 ⟨hb, hk, hr⟩
  have HB1 := Lib.hid hb
  have HK1 := Lib.hid hk
  have HR1 := Lib.hid hr
  clear hb hk hr
  refine wp_region_W 10 (fun V => Below V1.heap.size V1 V) (by kernel_rfl) ?_ (fun hS0 => ?_)
  · exact (Below.refl _ _).drew
  (refine wpAnyW_take (i := 0) (v := ?_) rfl (by kernel_rfl) (by kernel_rfl) (by kernel_rfl) (by kernel_rfl) (fun _ _ _ h => h) (Or.inl ⟨by kernel_rfl, ?_⟩) (by assumption) ?_; rotate_left; focus (intro V9 hS9; go_simp; (try (with_reducible rfl)); done))
  try simp only [Act.put, List.getElem_toArray, List.getElem_cons_zero, List.setIfInBounds_toArray, List.set_cons_succ, List.set_cons_zero]
  (refine wpAnyW_take (i := 1) (v := ?_) rfl (by kernel_rfl) (by kernel_rfl) (by kernel_rfl) (by kernel_rfl) (fun _ _ _ h => h) (Or.inl ⟨by kernel_rfl, ?_⟩) (by assumption) ?_; rotate_left; focus (intro V9 hS9; go_simp; (try (with_reducible rfl)); done))
  try simp only [Act.put, List.getElem_toArray, List.getElem_cons_succ, List.getElem_cons_zero, List.setIfInBounds_toArray, List.set_cons_succ, List.set_cons_zero]
  (refine wpAnyW_take (i := 2) (v := ?_) rfl (by kernel_rfl) (by kernel_rfl) (by kernel_rfl) (by kernel_rfl) (fun _ _ _ h => h) (Or.inl ⟨by kernel_rfl, ?_⟩) (by assumption) ?_; rotate_left; focus (intro V9 hS9; have g0 := (HK1.out.keep hS9).cell 0; have g1 := (HK1.out.keep hS9).cell 1; have g2 := (HK1.out.keep hS9).cell 2; go_simp; (try (with_reducible rfl)); done))
  try simp only [Act.put, List.getElem_toArray, List.getElem_cons_succ, List.getElem_cons_zero, List.setIfInBounds_toArray, List.set_cons_succ, List.set_cons_zero]
  (refine wpAnyW_take (i := 3) (v := ?_) rfl (by kernel_rfl) (by kernel_rfl) (by kernel_rfl) (by kernel_rfl) (fun _ _ _ h => h) (Or.inl ⟨by kernel_rfl, ?_⟩) (by assumption) ?_; rotate_left; focus (intro V9 hS9; go_simp; (try (with_reducible rfl)); done))
  try simp only [Act.put, List.getElem_toArray, List.getElem_cons_succ, List.getElem_cons_zero, List.setIfInBounds_toArray, List.set_cons_succ, List.set_cons_zero]
  (refine wpAnyW_take (i := 4) (v := ?_) rfl (by kernel_rfl) (by kernel_rfl) (by kernel_rfl) (by kernel_rfl) (fun _ _ _ h => h) (Or.inl ⟨by kernel_rfl, ?_⟩) (by assumption) ?_; rotate_left; focus (intro V9 hS9; go_simp; (try (with_reducible rfl)); done))
  try simp only [Act.put, List.getElem_toArray, List.getElem_cons_succ, List.getElem_cons_zero, List.setIfInBounds_toArray, List.set_cons_succ, List.set_cons_zero]
  (refine wpAnyW_take (i := 7) (v := ?_) rfl (by kernel_rfl) (by kernel_rfl) (by kernel_rfl) (by kernel_rfl) (fun _ _ _ h => h) (Or.inl ⟨by kernel_rfl, ?_⟩) (by assumption) ?_; rotate_left; focus (intro V9 hS9; go_simp; (try (with_reducible rfl)); done))
  try simp only [Act.put, List.getElem_toArray, List.getElem_cons_succ, List.getElem_cons_zero, List.setIfInBounds_toArray, List.set_cons_succ, List.set_cons_zero]
  (refine wpAnyW_take (i := 8) (v := ?_) rfl (by kernel_rfl) (by kernel_rfl) (by kernel_rfl) (by kernel_rfl) (fun _ _ _ h => h) (Or.inl ⟨by kernel_rfl, ?_⟩) (by assumption) ?_; rotate_left; focus (intro V9 hS9; have g0 := (HK1.out.keep hS9).cell 0; have g1 := (HK1.out.keep hS9).cell 1; have g2 := (HK1.out.keep hS9).cell 2; go_simp; (try (with_reducible rfl)); done))
  try simp only [Act.put, List.getElem_toArray, List.getElem_cons_succ, List.getElem_cons_zero, List.setIfInBounds_toArray, List.set_cons_succ, List.set_cons_zero]
  refine wpAnyW_ready (rs := [5]) (by kernel_rfl) (by simp) ?_
  refine AllReadyW.cons rfl (fun K hK => ?_) AllReadyW.nil
  go_simp
  try rw [show IntKind.u64.wrap (la : Int) = (la : Int) from by unfold IntKind.wrap; simp [IntKind.bits, IntKind.signed]; omega]
  refine hK.out _ _ (below_step (Below.refl _ _).drew (below_alloc _ _)) (fun _ => ?_)
  clear hK K
  try simp only [Act.put, List.getElem_toArray, List.getElem_cons_succ, List.getElem_cons_zero, List.setIfInBounds_toArray, List.set_cons_succ, List.set_cons_zero]
  refine wpAnyW_ready (rs := [6]) (by kernel_rfl) (by simp) ?_
  refine AllReadyW.cons rfl (fun K hK => ?_) AllReadyW.nil
  go_simp
  refine (num_one (V := V1.drew) (l := P1) la HE1.out.2.2.2.2.2.1 HC1.out.1 HC1.out.2 (HR1.out.below (Below.refl _ _).drew) (by omega) HE1.out.2.2.2.2.2.2 HE1.out.1 HE1.out.2.1).mono ?_
  rintro e w1 ⟨Ax, cx, rfl, hrx, hcx, hbx⟩
  refine hK.out _ _ (below_step (Below.refl _ _).drew hbx) (fun _ => ?_)
  clear hK K
  try simp only [Act.put, List.getElem_toArray, List.getElem_cons_succ, List.getElem_cons_zero, List.setIfInBounds_toArray, List.set_cons_succ, List.set_cons_zero]
  have HBX := Lib.hid (show Below V1.heap.size V1 w1 from below_step (Below.refl _ _).drew hbx)
  refine wpAnyW_ready (rs := [9]) (by kernel_rfl) (by simp) ?_
  refine AllReadyW.cons rfl (fun K hK => ?_) AllReadyW.nil
  go_simp
  refine (str_row (V := w1) (l := Q1) HE1.out.2.1 hcx.1 hcx.2 hrx HH.out.hla ((HH.out.a.below HB1.out).below HBX.out) (by omega) HT.out HE1.out.2.2.1 HE1.out.2.2.2.1 HE1.out.2.2.2.2.1).mono ?_
  rintro e w2 ⟨Ay, cy, rfl, hry, hcy, hby⟩
  refine hK.out _ _ (below_step HBX.out hby) (fun _ => ?_)
  clear hK K
  try simp only [Act.put, List.getElem_toArray, List.getElem_cons_succ, List.getElem_cons_zero, List.setIfInBounds_toArray, List.set_cons_succ, List.set_cons_zero]
  refine wpAnyW_ready (rs := [10]) (by kernel_rfl) (by simp) ?_
  refine AllReadyW.consE rfl (by kernel_rfl) (fun K hK => ?_) AllReadyW.nil
  go_simp
  refine hK.out _ _ ?_
  clear hK K
  refine wpAnyW_done (by kernel_rfl) ?_ _
  go_upto_region 3 with (fail)
  refine wp_world (fun V => Below W.heap.size W V ∧ Blk V g 29 #[.slice Aw lw cw, .slice Aa la ca, .slice Ar lr cr] ∧ Rd V Ay P2) ⟨below_step HB1.out (below_step HBX.out hby), HK1.out.keep (below_step HBX.out hby), hry⟩ ?_
  generalize Ay = A2 at *
  generalize cy = c2 at *
  have HC2 := Lib.hid hcy
  clear hrx hcx hbx HBX hry hcy hby HB1 HK1 HR1 hS0 HC1
  rintro V2 ⟨hb, hk, hr⟩
  have HB2 := Lib.hid hb
  have HK2 := Lib.hid hk
  have HR2 := Lib.hid hr
  clear hb hk hr
  refine wp_region_W 10 (fun V => Below V2.heap.size V2 V) (by kernel_rfl) ?_ (fun hS0 => ?_)
  · exact (Below.refl _ _).drew
  (refine wpAnyW_take (i := 0) (v := ?_) rfl (by kernel_rfl) (by kernel_rfl) (by kernel_rfl) (by kernel_rfl) (fun _ _ _ h => h) (Or.inl ⟨by kernel_rfl, ?_⟩) (by assumption) ?_; rotate_left; focus (intro V9 hS9; go_simp; (try (with_reducible rfl)); done))
  try simp only [Act.put, List.getElem_toArray, List.getElem_cons_zero, List.setIfInBounds_toArray, List.set_cons_succ, List.set_cons_zero]
  (refine wpAnyW_take (i := 1) (v := ?_) rfl (by kernel_rfl) (by kernel_rfl) (by kernel_rfl) (by kernel_rfl) (fun _ _ _ h => h) (Or.inl ⟨by kernel_rfl, ?_⟩) (by assumption) ?_; rotate_left; focus (intro V9 hS9; go_simp; (try (with_reducible rfl)); done))
  try simp only [Act.put, List.getElem_toArray, List.getElem_cons_succ, List.getElem_cons_zero, List.setIfInBounds_toArray, List.set_cons_succ, List.set_cons_zero]
  (refine wpAnyW_take (i := 2) (v := ?_) rfl (by kernel_rfl) (by kernel_rfl) (by kernel_rfl) (by kernel_rfl) (fun _ _ _ h => h) (Or.inl ⟨by kernel_rfl, ?_⟩) (by assumption) ?_; rotate_left; focus (intro V9 hS9; have g0 := (HK2.out.keep hS9).cell 0; have g1 := (HK2.out.keep hS9).cell 1; have g2 := (HK2.out.keep hS9).cell 2; go_simp; (try (with_reducible rfl)); done))
  try simp only [Act.put, List.getElem_toArray, List.getElem_cons_succ, List.getElem_cons_zero, List.setIfInBounds_toArray, List.set_cons_succ, List.set_cons_zero]
  (refine wpAnyW_take (i := 3) (v := ?_) rfl (by kernel_rfl) (by kernel_rfl) (by kernel_rfl) (by kernel_rfl) (fun _ _ _ h => h) (Or.inl ⟨by kernel_rfl, ?_⟩) (by assumption) ?_; rotate_left; focus (intro V9 hS9; go_simp; (try (with_reducible rfl)); done))
  try simp only [Act.put, List.getElem_toArray, List.getElem_cons_succ, List.getElem_cons_zero, List.setIfInBounds_toArray, List.set_cons_succ, List.set_cons_zero]
  (refine wpAnyW_take (i := 4) (v := ?_) rfl (by kernel_rfl) (by kernel_rfl) (by kernel_rfl) (by kernel_rfl) (fun _ _ _ h => h) (Or.inl ⟨by kernel_rfl, ?_⟩) (by assumption) ?_; rotate_left; focus (intro V9 hS9; go_simp; (try (with_reducible rfl)); done))
  try simp only [Act.put, List.getElem_toArray, List.getElem_cons_succ, List.getElem_cons_zero, List.setIfInBounds_toArray, List.set_cons_succ, List.set_cons_zero]
  (refine wpAnyW_take (i := 7) (v := ?_) rfl (by kernel_rfl) (by kernel_rfl) (by kernel_rfl) (by kernel_rfl) (fun _ _ _ h => h) (Or.inl ⟨by kernel_rfl, ?_⟩) (by assumption) ?_; rotate_left; focus (intro V9 hS9; go_simp; (try (with_reducible rfl)); done))
  try simp only [Act.put, List.getElem_toArray, List.getElem_cons_succ, List.getElem_cons_zero, List.setIfInBounds_toArray, List.set_cons_succ, List.set_cons_zero]
  (refine wpAnyW_take (i := 8) (v := ?_) rfl (by kernel_rfl) (by kernel_rfl) (by kernel_rfl) (by kernel_rfl) (fun _ _ _ h => h) (Or.inl ⟨by kernel_rfl, ?_⟩) (by assumption) ?_; rotate_left; focus (intro V9 hS9; have g0 := (HK2.out.keep hS9).cell 0; have g1 := (HK2.out.keep hS9).cell 1; have g2 := (HK2.out.keep hS9).cell 2; go_simp; (try (with_reducible rfl)); done))
  try simp only [Act.put, List.getElem_toArray, List.getElem_cons_succ, List.getElem_cons_zero, List.setIfInBounds_toArray, List.set_cons_succ, List.set_cons_zero]
  refine wpAnyW_ready (rs := [5]) (by kernel_rfl) (by simp) ?_
  refine AllReadyW.cons rfl (fun K hK => ?_) AllReadyW.nil
  go_simp
  try rw [show IntKind.u64.wrap (lr : Int) = (lr : Int) from by unfold IntKind.wrap; simp [IntKind.bits, IntKind.signed]; omega]
  refine hK.out _ _ (below_step (Below.refl _ _).drew (below_alloc _ _)) (fun _ => ?_)
  clear hK K
  try simp only [Act.put, List.getElem_toArray, List.getElem_cons_succ, List.getElem_cons_zero, List.setIfInBounds_toArray, List.set_cons_succ, List.set_cons_zero]
  refine wpAnyW_ready (rs := [6]) (by kernel_rfl) (by simp) ?_
  refine AllReadyW.cons rfl (fun K hK => ?_) AllReadyW.nil
  go_simp
  refine (num_one (V := V2.drew) (l := P2) lr HE2.out.2.2.2.2.2.1 HC2.out.1 HC2.out.2 (HR2.out.below (Below.refl _ _).drew) (by omega) HE2.out.2.2.2.2.2.2 HE2.out.1 HE2.out.2.1).mono ?_
  rintro e w1 ⟨Ax, cx, rfl, hrx, hcx, hbx⟩
  refine hK.out _ _ (below_step (Below.refl _ _).drew hbx) (fun _ => ?_)
  clear hK K
  try simp only [Act.put, List.getElem_toArray, List.getElem_cons_succ, List.getElem_cons_zero, List.setIfInBounds_toArray, List.set_cons_succ, List.set_cons_zero]
  have HBX := Lib.hid (show Below V2.heap.size V2 w1 from below_step (Below.refl _ _).drew hbx)
  refine wpAnyW_ready (rs := [9]) (by kernel_rfl) (by simp) ?_
  refine AllReadyW.cons rfl (fun K hK => ?_) AllReadyW.nil
  go_simp
  refine (num_row (V := w1) (l := Q2) HE2.out.2.1 hcx.1 hcx.2 hrx HH.out.hlr ((HH.out.r.below HB2.out).below HBX.out) HH.out.r64 (by omega) HE2.out.2.2.1 HE2.out.2.2.2.1 HE2.out.2.2.2.2.1).mono ?_
  rintro e w2 ⟨Ay, cy, rfl, hry, hcy, hby⟩
  refine hK.out _ _ (below_step HBX.out hby) (fun _ => ?_)
  clear hK K
  try simp only [Act.put, List.getElem_toArray, List.getElem_cons_succ, List.getElem_cons_zero, List.setIfInBounds_toArray, List.set_cons_succ, List.set_cons_zero]
  refine wpAnyW_ready (rs := [10]) (by kernel_rfl) (by simp) ?_
  refine AllReadyW.consE rfl (by kernel_rfl) (fun K hK => ?_) AllReadyW.nil
  go_simp
  refine hK.out _ _ ?_
  clear hK K
  refine wpAnyW_done (by kernel_rfl) ?_ _
  have hbe := below_step HB2.out (below_step HBX.out hby)
  have HEND := Lib.hid (And.intro hry (And.intro hcy hbe))
  clear hrx hcx hbx HBX hby hS0 hry hcy hbe
  go_wp2
  go_ret
  exact ⟨_, _, rfl, HEND.out.1, HEND.out.2.1, HEND.out.2.2⟩
end
end Go.Proofs.Ytefnjplfemgibaa
