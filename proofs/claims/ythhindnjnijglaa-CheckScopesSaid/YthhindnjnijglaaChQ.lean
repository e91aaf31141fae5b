/- Layer 11: the walk of the document's Parse at a text that is a program of one clause. -/
import Derived.Test.YthhindnjnijglaaChP
namespace Go.Proofs.Ythhindnjnijglaa
open Go.RowKit
set_option linter.unusedVariables false

theorem funT : ElT Try.prog 47 65 (.agg #[.slice none 0 0]) 1 24 := ⟨Try.underlying47, by kernel_rfl, rfl, by omega⟩
abbrev NoQ : Nat → Prop := fun _ => False
/-- A program of one clause, in memory. -/
structure PRd (W : World) (g k : Nat) (B : Option Addr) (d : Nat) (cd : CD) : Prop where
  fn : W.cell? ⟨g, 0, none⟩ = some (.slice B 1 d)
  cl : RdC NoQ W B d [cd]
  lo : 1 ≤ k
  hi : k ≤ 9223372036854775807
theorem PRd.keep {W W' : World} {g k : Nat} {B : Option Addr} {d : Nat} {cd : CD} (h : PRd W g k B d cd) (hb : Below W.heap.size W W') : PRd W' g k B d cd :=
  ⟨(hb.cell (World.block_lt_of_cell? W _ h.fn)).trans h.fn, h.cl.move (.of_below hb (fun _ _ h => h)), h.lo, h.hi⟩
/-- How Parse ends. -/
def PEnd (W : World) (cd : CD) (e : Ending) (w' : World) : Prop :=
  ∃ g k B d, e = .returned (.tuple #[.slice (some ⟨g, 0, none⟩) 1 k, .int .i64 0, .int .i64 0]) ∧ PRd w' g k B d cd ∧ Below W.heap.size W w'
theorem one_sl (A : Option Addr) (n c : Nat) : ∀ u ∈ [Value.slice A n c], u.oneCell' = true := by
  intro u hu
  rw [List.mem_singleton.1 hu]
  rfl
/-- The function's box, the parser. -/
structure PB7 (pb : Nat) (A : Option Addr) (c : Nat) (T : List Tok) (fin : Nat) (W : World) (b7 : Nat) (v : Value) (s : PS) (V : World) : Prop where
  box : Blk V b7 65 #[v]
  p : PAt pb A c T fin s V
  bel : Below W.heap.size W V
  ne : pb < b7
  lo : W.heap.size ≤ pb
section
variable {pb : Nat} {A : Option Addr} {c : Nat} {T : List Tok} {fin : Nat} {W V V' : World} {b7 : Nat} {v : Value} {s s' : PS}
theorem PB7.act (h : PB7 pb A c T fin W b7 v s V) (hp : PAt pb A c T fin s' V') (hf : Fr (fun k => k = pb) V V') : PB7 pb A c T fin W b7 v s' V' :=
  ⟨hf.blk h.box (by have := h.ne; omega), hp, h.bel.trans (hf.below h.bel.size (fun k hk => by have := h.lo; omega)), h.ne, h.lo⟩
theorem PB7.keep (h : PB7 pb A c T fin W b7 v s V) (hb : Below V.heap.size V V') : PB7 pb A c T fin W b7 v s V' := ⟨h.box.keep hb, h.p.keep hb, below_step h.bel hb, h.ne, h.lo⟩
theorem rdc_fr {B : Option Addr} {d : Nat} {l : List CD} (h : RdC (fun k => k = pb) V B d l) (hf : Fr (fun k => k = pb) V V') : RdC (fun k => k = pb) V' B d l := h.move (.of_fr hf (fun _ h => h) (fun _ _ h => h))
end
set_option maxRecDepth 100000 in
set_option maxHeartbeats 8000000 in
theorem parse_any (X : List UInt8) (T : List Tok) (cd : CD) (hX : scanP X = ⟨T, 0, 0⟩) (h1 : One T X.length cd) (W : World) :
    Calls Try.prog 15 #[.string ⟨X.toArray⟩] W (PEnd W cd) := by
  obtain ⟨t0, n, s1, ht, hk, hn, hr, he, hse, hdo, hie⟩ := h1.ex
  have HBG : Hid (∀ V, Calls Try.prog 9 #[.string ⟨X.toArray⟩] V fun e w' => ∃ pb A c, e = .returned (.pointer (some ⟨pb, 0, none⟩)) ∧ V.heap.size ≤ pb ∧ PAt pb A c T X.length ⟨0, 0, 0⟩ w' ∧ Below V.heap.size V w') := fun V => by
    have := begin_any V X
    rw [hX] at this
    exact this
  obtain ⟨fin, hfin⟩ : ∃ fin, X.length = fin := ⟨_, rfl⟩
  rw [hfin] at HBG hr
  have HCL : Hid (∀ pb A c V, PAt pb A c T fin ⟨0, 0, 0⟩ V → Calls Try.prog 25 #[.pointer (some ⟨pb, 0, none⟩)] V (CEnd pb A c T fin V (cd, s1))) := fun pb A c V hV => clause_any hV ht hk hn hr
  have HTK : Hid (∀ pb A c V, PAt pb A c T fin s1 V → Calls Try.prog 21 #[.pointer (some ⟨pb, 0, none⟩), .string ⟨#[59]⟩] V fun r w' => r = .returned (.bool false) ∧ PAt pb A c T fin s1 w' ∧ Fr (fun k => k = pb) V w') := fun pb A c V hV => by
    have := take_any hV sSemi
    rw [hse, if_neg (by simp)] at this
    exact this
  have HMU : Hid (∀ pb A c V, PAt pb A c T fin s1 V → Calls Try.prog 26 #[.pointer (some ⟨pb, 0, none⟩), .string ⟨#[46]⟩] V fun r w' => r = .returned (.tuple #[]) ∧ PAt pb A c T fin (nextP s1) w' ∧ Fr (fun k => k = pb) V w') := fun pb A c V hV => by
    have := must_any hV sDot
    rw [show mustP T fin sDot s1 = nextP s1 by unfold mustP; rw [if_pos hdo]] at this
    exact this
  have HE1 := Lib.hid he
  have HI1 := Lib.hid hie
  clear hX h1 ht hk hn hr he hse hdo hie hfin
  go_enter Try.func15, Try.ntmps15
  go_upto_region 3 with (go_at_call 9; refine (HBG.out _).mono ?_; rintro e V1 ⟨pb, A, c, rfl, hpb, hp1, hb1⟩)
  have HP1 := Lib.hid hp1
  have HB1 := Lib.hid hb1
  have HPB := Lib.hid hpb
  clear hp1 hb1 hpb HBG
  go_loopw [6] (fun o wr => (o = .slice none 0 0 ∧ Hid (PAt pb A c T fin ⟨0, 0, 0⟩ wr ∧ Below W.heap.size W wr)) ∨ (∃ g k B d, o = .slice (some ⟨g, 0, none⟩) 1 k ∧ Hid (PAt pb A c T fin (nextP s1) wr ∧ PRd wr g k B d cd ∧ Below W.heap.size W wr))) (fun o _ => match o with | .slice none _ _ => 1 | _ => 0)
  case atStart => exact .inl ⟨rfl, HP1.out, HB1.out⟩
  case round =>
    rcases hrel with ⟨rfl, HQ⟩ | ⟨g, k, B, d, rfl, HQ⟩
    · obtain ⟨hp, hb⟩ := HQ.out
      obtain ⟨k0, k1, k2, k3, k4⟩ := hp.cells
      clear hp hb
      simp only at k3
      go_wp2
      go_quiet (fail)
      refine cex_world (fun V => Below wr.heap.size wr V) (below_drewN (Below.refl _ _) _) ?_
      intro V2 hb2
      have HQ2 : Hid (PAt pb A c T fin ⟨0, 0, 0⟩ V2 ∧ Below W.heap.size W V2) := ⟨HQ.out.1.keep hb2, below_step HQ.out.2 hb2⟩
      clear HQ hb2 k0 k1 k2 k3 k4
      go_upto_region 5 with (fail)
      obtain ⟨b7, hb7⟩ : ∃ b7, V2.heap.size = b7 := ⟨_, rfl⟩
      rw [hb7]
      refine wp_world (fun V => PB7 pb A c T fin W b7 (.slice none 0 0) ⟨0, 0, 0⟩ V) ⟨by rw [← hb7]; exact Blk.new _ _ _, HQ2.out.1.keep (below_alloc _ _), below_step HQ2.out.2 (below_alloc _ _), by have := HQ2.out.1.obj.lt; omega, HPB.out⟩ ?_
      clear HQ2 hb7
      intro V3 h3
      have H3 := Lib.hid h3
      clear h3
      go_loopw [] (fun wr => Hid (PB7 pb A c T fin W b7 (.slice none 0 0) ⟨0, 0, 0⟩ wr)) (fun _ => 0)
      case atStart => exact H3.out
      case round =>
        have HR := hrel
        clear hrel H3
        obtain ⟨k0, k1, k2, k3, k4⟩ := HR.out.p.cells
        simp only at k3
        go_upto_region 6 with (fail)
        clear k0 k1 k2 k3 k4
        have hlo := HR.out.lo
        have hne := HR.out.ne
        have hbw := HR.out.bel
        have hwr := hbw.size
        have HBX := Lib.hid HR.out.box
        clear hbw
        refine wp_region_W 7 (fun V => Fr (fun k => k = pb) wr V) (by kernel_rfl) ?_ (fun hS0 => ?_)
        · exact (Fr.refl _ _).drew
        (refine wpAnyW_take (i := 0) (v := ?_) rfl (by kernel_rfl) (by kernel_rfl) (by kernel_rfl) (by kernel_rfl) (fun _ _ _ h => h) (Or.inl ⟨by kernel_rfl, ?_⟩) (by assumption) ?_; rotate_left; focus (intro V9 hS9; go_simp; (try (with_reducible rfl)); done))
        try simp only [Act.put, List.getElem_toArray, List.getElem_cons_zero, List.setIfInBounds_toArray, List.set_cons_succ, List.set_cons_zero]
        (refine wpAnyW_take (i := 2) (v := ?_) rfl (by kernel_rfl) (by kernel_rfl) (by kernel_rfl) (by kernel_rfl) (fun _ _ _ h => h) (Or.inl ⟨by kernel_rfl, ?_⟩) (by assumption) ?_; rotate_left; focus (intro V9 hS9; go_simp; (try (with_reducible rfl)); done))
        try simp only [Act.put, List.getElem_toArray, List.getElem_cons_succ, List.getElem_cons_zero, List.setIfInBounds_toArray, List.set_cons_succ, List.set_cons_zero]
        (refine wpAnyW_take (i := 1) (v := ?_) rfl (by kernel_rfl) (by kernel_rfl) (by kernel_rfl) (by kernel_rfl) (fun _ _ _ h => h) (Or.inl ⟨by kernel_rfl, ?_⟩) (by assumption) ?_; rotate_left; focus (intro V9 hS9; (have g0 : V9.cell? ⟨b7, 0, none⟩ = some (.slice none 0 0) := (hS9.blk HBX.out (by omega)).cell 0); go_simp; (try (with_reducible rfl)); done))
        try simp only [Act.put, List.getElem_toArray, List.getElem_cons_succ, List.getElem_cons_zero, List.setIfInBounds_toArray, List.set_cons_succ, List.set_cons_zero]
        refine wpAnyW_ready (rs := [3]) (by kernel_rfl) (by simp) ?_
        refine AllReadyW.cons rfl (fun K hK => ?_) AllReadyW.nil
        go_simp
        refine (HCL.out _ _ _ _ (HR.out.p.keep (Below.refl _ _).drew)).mono ?_
        rintro e V5 ⟨x, hx, rfl, hok, hp5, hf5⟩
        have HX := Lib.hid hx
        have hs5 := hf5.size
        have hf45 : Fr (fun k => k = pb) wr V5 := (Fr.refl (fun k => k = pb) wr).drew.same hf5
        refine hK.out _ _ hf45 (fun _ => ?_)
        clear hK K hx
        try simp only [Act.put, List.getElem_toArray, List.getElem_cons_succ, List.getElem_cons_zero, List.setIfInBounds_toArray, List.set_cons_succ, List.set_cons_zero]
        refine wpAnyW_ready (rs := [4]) (by kernel_rfl) (by simp) ?_
        refine AllReadyW.cons rfl (fun K hK => ?_) AllReadyW.nil
        go_simp
        refine hK.out _ _ (hf45.same (Fr.alloc _ _ _)) (fun _ => ?_)
        clear hK K
        try simp only [Act.put, List.getElem_toArray, List.getElem_cons_succ, List.getElem_cons_zero, List.setIfInBounds_toArray, List.set_cons_succ, List.set_cons_zero]
        refine wpAnyW_world (fun V => Below V5.heap.size V5 V ∧ Blk V V5.heap.size 67 x.cells.toArray) ⟨below_alloc _ _, Blk.new _ _ _⟩ ?_
        rintro VA ⟨hbA, hkA⟩
        have hsA := hbA.size
        refine wpAnyW_ready (rs := [5]) (by kernel_rfl) (by simp) ?_
        refine AllReadyW.cons rfl (fun K hK => ?_) AllReadyW.nil
        refine step_appO clauseT (by kernel_rfl) (.tmp 39) (.tmp 42) rfl (wr.heap.size) 0 [] (.slice none 0 0) (World.ownsRow_nil _ _ _ _) _ 1 1 x.cells (by rfl) (by rfl) rfl (blk_cs hkA) (EC.cells_one x) (by unfold maxLen; omega) (by omega) (show wr.heap.size ≤ VA.heap.size by have : wr.heap.size ≤ V5.heap.size := hs5; omega) ?_
        intro v1 VB hoB hgB hatB
        obtain ⟨A1, c1, rfl⟩ := own_form hoB
        have hbB : Below VA.heap.size VA VB := below_of_grown hgB (fun k e => by cases e)
        refine hK.out _ _ ((hf45.same (Fr.of_below hbA _)).same (Fr.of_below hbB _)) (fun _ => ?_)
        clear hK K
        try simp only [Act.put, List.getElem_toArray, List.getElem_cons_succ, List.getElem_cons_zero, List.setIfInBounds_toArray, List.set_cons_succ, List.set_cons_zero]
        have hfB : Fr (fun k => k = pb) wr VB := (hf45.same (Fr.of_below hbA _)).same (Fr.of_below hbB _)
        have hb9 := hfB.blk HBX.out (show ¬ b7 = pb by omega)
        have g0 := hb9.cell 0
        have g1 := hb9.frozen 0
        (refine wpAnyW_take (i := 6) (v := ?_) rfl (by kernel_rfl) (by kernel_rfl) (by kernel_rfl) (by kernel_rfl) (fun _ _ _ h => h) (Or.inl ⟨by kernel_rfl, ?_⟩) (by assumption) ?_; rotate_left; focus (intro V9 hS9; go_simp; (try (with_reducible rfl)); done))
        try simp only [Act.put, List.getElem_toArray, List.getElem_cons_succ, List.getElem_cons_zero, List.setIfInBounds_toArray, List.set_cons_succ, List.set_cons_zero]
        refine wpAnyW_ready (rs := [7]) (by kernel_rfl) (by simp) ?_
        refine AllReadyW.consE rfl (by kernel_rfl) (fun K hK => ?_) AllReadyW.nil
        go_simp
        refine hK.out _ _ ?_
        clear hK K
        refine wpAnyW_done (by kernel_rfl) ?_ _
        have hf7 : Fr (fun k => k = b7) VB (VB.setCell ⟨b7, 0, none⟩ (.slice A1 1 c1)) := Fr.setCell (fun k => k = b7) VB (p := ⟨b7, 0, none⟩) (fun _ => rfl) _
        have hb7l := HBX.out.lt
        refine cex_world (fun V => PB7 pb A c T fin W b7 (.slice A1 1 c1) s1 V ∧ RdC (fun k => k = pb) V A1 c1 [cd]) ?_ ?_
        · have hpA : PAt pb A c T fin s1 VB := (hp5.keep hbA).keep hbB
          have hpl := hp5.obj.lt
          refine ⟨⟨hb9.set_ 0 _, hpA.far hf7 (by omega) (fun b' o' e => by have := hpA.apart b' o' e; omega), ?_, hne, hlo⟩, ?_⟩
          · have h3 := HR.out.bel.trans (hfB.below HR.out.bel.size (fun k hk => by omega))
            exact h3.trans (hf7.below h3.size (fun k hk => by omega))
          · have h3 := rdc_of_own (S := fun k => k = pb ∨ k = b7) (xs := [x]) hoB rfl (fun g hg e => by
              have h4 := hoB.lt g hg
              rcases e with e | e
              · omega
              · have h5 : wr.heap.size ≤ g := h4.1
                omega) (fun y hy => by
              obtain rfl : y = x := by simpa using hy
              exact hok.move (.of_fr ((Fr.of_below hbA (fun _ => False)).same (Fr.of_below hbB _)) (fun _ h => h.elim) (fun k hk e => by
                have h5 : b7 < wr.heap.size := hb7l
                have h6 : pb < wr.heap.size := by omega
                show k < (wr.drew).heap.size
                have h7 : (wr.drew).heap.size = wr.heap.size := rfl
                rcases e with e | e <;> omega)))
            rw [List.map_singleton, HX.out] at h3
            exact h3.move (.of_fr hf7 (fun k hk => .inr hk) (fun k _ hk => .inl hk))
        rintro V6 ⟨h6, hr6⟩
        have H6 := Lib.hid h6
        have HR6 := Lib.hid hr6
        clear h6 hr6 hf7 hfB hb9 g0 g1 hbB hbA hf45 hoB hgB hatB hkA hp5 hf5 hok HBX HR HCL
        go_upto_region 8 with (go_at_call 21; refine (HTK.out _ _ _ _ H6.out.p).mono ?_; rintro e V7 ⟨rfl, hp7, hf7⟩)
        have H7 := Lib.hid (H6.out.act hp7 hf7)
        have HR7 := Lib.hid (rdc_fr HR6.out hf7)
        clear hp7 hf7 H6 HR6 HTK
        go_upto_region 9 with (go_at_call 26; refine (HMU.out _ _ _ _ H7.out.p).mono ?_; rintro e V8 ⟨rfl, hp8, hf8⟩)
        have H8 := Lib.hid (H7.out.act hp8 hf8)
        have HR8 := Lib.hid (rdc_fr HR7.out hf8)
        have b0 := H8.out.box.cell 0
        clear hp8 hf8 H7 HR7 HMU
        have hone := one_sl A1 1 c1
        have hlen1 : 0 + 1 ≤ maxLen := by unfold maxLen; omega
        have hby1 : (0 + 1) * 24 ≤ 140737488355328 := by omega
        have hsz1 : W.heap.size ≤ (V8.alloc (.cells #[.slice A1 1 c1] 65)).heap.size := Nat.le_trans H8.out.bel.size (below_alloc _ _).size
        go_wp2_with (at_builtin; go_loud (refine wpList_app funT rfl (.tmp 50) (.tmp 52) rfl W.heap.size (.slice none 0 0) 0 [] rfl (World.ownsRow_nil _ _ _ _) (some ⟨V8.heap.size, 0, none⟩) 1 1 [.slice A1 1 c1] rfl rfl (blk_cs (Blk.new _ _ _)) hone hlen1 hby1 hsz1 ?_); intro v9 w9 ho9 hg9 hw9)
        obtain ⟨g, k, rfl, hk1, hk2, hcell⟩ : ∃ g k, v9 = .slice (some ⟨g, 0, none⟩) 1 k ∧ 1 ≤ k ∧ k ≤ 9223372036854775807 ∧ w9.cell? ⟨g, 0, none⟩ = some (.slice A1 1 c1) := by
          rcases ho9.2 with ⟨_, hz⟩ | ⟨g, k, cur, hv, _, _, hnc, hcm, _⟩
          · omega
          · subst hv
            have h9 := ho9.cells (g := g) rfl 0 _ rfl
            rw [Addr.add_lit] at h9
            exact ⟨g, k, rfl, hnc, by unfold maxLen at hcm; omega, h9⟩
        have hbw9 : Below V8.heap.size V8 w9 := below_step (below_alloc _ _) (below_of_grown hg9 (fun k e => by cases e))
        refine ⟨.inr ⟨g, k, A1, c1, rfl, H8.out.p.keep hbw9, ⟨hcell, HR8.out.move (.of_below hbw9 (fun _ _ h => h.elim)), hk1, hk2⟩, below_step H8.out.bel hbw9⟩, ?_⟩
        exact Nat.zero_lt_one
    · obtain ⟨hp, hr, hb⟩ := HQ.out
      obtain ⟨k0, k1, k2, k3, k4⟩ := hp.cells
      have e3 : (nextP s1).e = 0 := HE1.out
      rw [e3] at k3
      obtain ⟨tl, htl⟩ : ∃ tl, T.length = tl := ⟨_, rfl⟩
      have hI : (nextP s1).i = tl := by rw [← htl]; exact HI1.out
      rw [hI] at k1
      rw [htl] at k0
      have hlen : tl ≤ 16384 := by rw [← htl]; exact hp.len
      have d1 : decide (tl < tl) = false := by simp
      clear hp hr hb e3 htl hI
      go_wp2
      go_quiet (fail)
      refine cex_world (fun V => Below wr.heap.size wr V) (below_drewN (Below.refl _ _) _) ?_
      intro V2 hb2
      have HQ2 := Lib.hid (show PRd V2 g k B d cd ∧ Below W.heap.size W V2 from ⟨HQ.out.2.1.keep hb2, below_step HQ.out.2.2 hb2⟩)
      have k3 := ((HQ.out.1.keep hb2).cells).2.2.2.1
      have e3 : (nextP s1).e = 0 := HE1.out
      rw [e3] at k3
      clear HQ hb2 e3 d1
      go_wp2
      refine bodyPost_ret (v := .tuple #[.slice (some ⟨g, 0, none⟩) 1 k, .int .i64 0, .int .i64 0]) (by simp [results, Try.results15, go_sem]) rfl ?_
      exact ⟨g, k, B, d, rfl, HQ2.out.1, HQ2.out.2⟩
end Go.Proofs.Ythhindnjnijglaa
