/- Layer 13: the walk of the document's match at tuples, and at every pattern. Written by magenu.py. Layer 13: the document's match, at every pattern. Written by magenv.py. -/
import Derived.Test.YtmpknhdfglbocaaGreatMaT
namespace Go.Proofs.YtmpknhdfglbocaaGreat
section
open Go.RowKit
set_option linter.unusedVariables false
section
variable {W V : World} {K : List (List UInt8)} {E : List (BG (TE W))} {A : Option Addr} {c : Nat}

set_option maxRecDepth 100000 in
set_option maxHeartbeats 4000000 in
theorem rm_t4a (t : TE W) (hE : RdB W A c E) (hL : LimN K ((vE E).map (·.1))) (n : Int) (s : List UInt8) (a : Int) (l : List ND) (lA : Option Addr) (lc : Nat) (v5 v6 : Value) (hk : (t.t.kind == 6) = false) :
    Calls Tryz.prog 32 #[.agg #[.int .i64 4, .int .i64 n, .string ⟨s.toArray⟩, .int .i64 a, .slice lA l.length lc, v5, v6], .agg #[.int .i64 t.t.kind, .int .i64 t.t.int, .string ⟨t.t.name.toArray⟩, .slice t.A t.t.items.length t.c], .slice A E.length c] W (RMEnd K W (vE E, false)) := by
  obtain ⟨ne, hne⟩ : ∃ ne, E.length = ne := ⟨_, rfl⟩
  have HEN := Lib.hid (fun V (hb : Below W.heap.size W V) => RMEnd.same hb hE hL hne false (R := (vE E, false)) rfl)
  rw [hne]
  have d1 : (t.t.kind != 6) = true := by simpa using hk
  clear hE hL hne
  generalize t.t.items.length = tl at *
  generalize t.t.kind = tk at *
  generalize l.length = m at *
  generalize t.t.int = ti at *
  generalize t.t.name = tn at *
  generalize t.A = tA at *
  generalize t.c = tc at *
  go_enter Tryz.func32, Tryz.ntmps32
  go_upto_region 1 with (fail)
  refine wp_world (fun V => Blk V W.heap.size 29 #[.int .i64 4, .int .i64 n, .string ⟨s.toArray⟩, .int .i64 a, .slice lA m lc, v5, v6] ∧ Blk V (W.heap.size + 1) 35 #[.int .i64 tk, .int .i64 ti, .string ⟨tn.toArray⟩, .slice tA tl tc] ∧ Below W.heap.size W V) (two_box W _ _) ?_
  rintro V ⟨h7, h4, hb⟩
  have H7 := Lib.hid h7
  have H4 := Lib.hid h4
  have HB := Lib.hid hb
  have x0 := h7.cell 0
  have x4 := h7.cell 4
  have y0 := h4.cell 0
  have y3 := h4.cell 3
  clear h7 h4 hb
  go_wp2
  refine bodyPost_ret (v := .tuple #[.slice A ne c, .bool false]) (by simp [results, Tryz.results32, go_sem]) rfl ?_
  exact HEN.out _ HB.out

set_option maxRecDepth 100000 in
set_option maxHeartbeats 4000000 in
theorem rm_t4b (t : TE W) (hE : RdB W A c E) (hL : LimN K ((vE E).map (·.1))) (n : Int) (s : List UInt8) (a : Int) (l : List ND) (lA : Option Addr) (lc : Nat) (v5 v6 : Value) (hk : t.t.kind = 6) (hn : t.t.items.length ≠ l.length) :
    Calls Tryz.prog 32 #[.agg #[.int .i64 4, .int .i64 n, .string ⟨s.toArray⟩, .int .i64 a, .slice lA l.length lc, v5, v6], .agg #[.int .i64 t.t.kind, .int .i64 t.t.int, .string ⟨t.t.name.toArray⟩, .slice t.A t.t.items.length t.c], .slice A E.length c] W (RMEnd K W (vE E, false)) := by
  obtain ⟨ne, hne⟩ : ∃ ne, E.length = ne := ⟨_, rfl⟩
  have HEN := Lib.hid (fun V (hb : Below W.heap.size W V) => RMEnd.same hb hE hL hne false (R := (vE E, false)) rfl)
  rw [hne, hk]
  have d1 : ((t.t.items.length : Int) != (l.length : Int)) = true := by simp; omega
  clear hE hL hne hk hn
  generalize t.t.items.length = tl at *
  generalize l.length = m at *
  generalize t.t.int = ti at *
  generalize t.t.name = tn at *
  generalize t.A = tA at *
  generalize t.c = tc at *
  go_enter Tryz.func32, Tryz.ntmps32
  go_upto_region 1 with (fail)
  refine wp_world (fun V => Blk V W.heap.size 29 #[.int .i64 4, .int .i64 n, .string ⟨s.toArray⟩, .int .i64 a, .slice lA m lc, v5, v6] ∧ Blk V (W.heap.size + 1) 35 #[.int .i64 6, .int .i64 ti, .string ⟨tn.toArray⟩, .slice tA tl tc] ∧ Below W.heap.size W V) (two_box W _ _) ?_
  rintro V ⟨h7, h4, hb⟩
  have H7 := Lib.hid h7
  have H4 := Lib.hid h4
  have HB := Lib.hid hb
  have x0 := h7.cell 0
  have x4 := h7.cell 4
  have y0 := h4.cell 0
  have y3 := h4.cell 3
  clear h7 h4 hb
  go_wp2
  refine bodyPost_ret (v := .tuple #[.slice A ne c, .bool false]) (by simp [results, Tryz.results32, go_sem]) rfl ?_
  exact HEN.out _ HB.out

set_option maxRecDepth 100000 in
set_option maxHeartbeats 4000000 in
theorem rm_t4c (t : TE W) (hE : RdB W A c E) (hL : LimN K ((vE E).map (·.1))) (n : Int) (s : List UInt8) (a : Int) (l : List ND) (lA : Option Addr) (lc : Nat) (v5 v6 : Value) (hk : t.t.kind = 6) (hn : t.t.items.length = l.length) (hR : RdN NoB W lA lc l) (hp : ∀ (k : Nat) (h : k < l.length) (x : EN) (V : World) (u : TE V) (G : List (BG (TE V))) (B : Option Addr) (d : Nat), x.t = l[k] → Below W.heap.size W V → x.Ok NoB V → RdB V B d G → LimN K ((vE G).map (·.1)) → Calls Tryz.prog 32 #[.agg #[.int .i64 x.t.kind, .int .i64 x.t.int, .string ⟨x.t.name.toArray⟩, .int .i64 x.t.at_, .slice x.A x.t.kids.length x.c, .slice x.B x.t.clauses.length x.d, .slice x.C x.t.body.length x.e], .agg #[.int .i64 u.t.kind, .int .i64 u.t.int, .string ⟨u.t.name.toArray⟩, .slice u.A u.t.items.length u.c], .slice B G.length d] V (RMEnd K V (matchP x.t u.t (vE G)))) :
    Calls Tryz.prog 32 #[.agg #[.int .i64 4, .int .i64 n, .string ⟨s.toArray⟩, .int .i64 a, .slice lA l.length lc, v5, v6], .agg #[.int .i64 t.t.kind, .int .i64 t.t.int, .string ⟨t.t.name.toArray⟩, .slice t.A t.t.items.length t.c], .slice A E.length c] W (RMEnd K W (matchL l t.t.items (vE E))) := by
  have HT := Lib.hid t.ok
  have htc := t.ok.1
  have htc2 := t.ok.2.1
  have hlc := hR.1
  have hlc2 := hR.2.1
  have HR := Lib.hid hR
  have HP := Lib.hid hp
  have HRE := Lib.hid hE
  have HLE := Lib.hid hL
  obtain ⟨m, hm⟩ : ∃ m, l.length = m := ⟨_, rfl⟩
  have HM := Lib.hid hm
  have hn2 := hn.trans hm
  rw [hk, hn2, hm]
  rw [hn2] at htc
  rw [hm] at hlc
  obtain ⟨ne, hne⟩ : ∃ ne, E.length = ne := ⟨_, rfl⟩
  have HNE := Lib.hid hne
  have HTN := Lib.hid hn2
  rw [hne]
  clear hR hp hE hL hm hne hk hn hn2
  generalize t.t.items = ts at *
  generalize t.t.int = ti at *
  generalize t.t.name = tn at *
  generalize t.A = tA at *
  generalize t.c = tc at *
  go_enter Tryz.func32, Tryz.ntmps32
  go_upto_region 1 with (fail)
  refine wp_world (fun V => Blk V W.heap.size 29 #[.int .i64 4, .int .i64 n, .string ⟨s.toArray⟩, .int .i64 a, .slice lA m lc, v5, v6] ∧ Blk V (W.heap.size + 1) 35 #[.int .i64 6, .int .i64 ti, .string ⟨tn.toArray⟩, .slice tA m tc] ∧ Below W.heap.size W V) (two_box W _ _) ?_
  rintro V ⟨h7, h4, hb⟩
  have H7 := Lib.hid h7
  have H4 := Lib.hid h4
  have HB := Lib.hid hb
  have x0 := h7.cell 0
  have x4 := h7.cell 4
  have y0 := h4.cell 0
  have y3 := h4.cell 3
  clear h7 h4 hb
  go_wp2
  clear x0 x4 y0 y3
  go_loopw [2, 12, 13] (fun ev ok i wr => ∃ (k : Nat) (A1 : Option Addr) (c1 : Nat) (E1 : List (BG (TE wr))), k ≤ m ∧ i = .int .i64 k ∧ ev = .slice A1 E1.length c1 ∧ ok = .bool (matchL (l.take k) (ts.take k) (vE E)).2 ∧ vE E1 = (matchL (l.take k) (ts.take k) (vE E)).1 ∧ RdB wr A1 c1 E1 ∧ LimN K ((vE E1).map (·.1)) ∧ Below V.heap.size V wr) (fun _ _ i _ => m - (intOf i).toNat)
  case atStart => exact ⟨0, A, c, upE HB.out E, Nat.zero_le _, rfl, by rw [upE_len, HNE.out], by simp [matchL], by rw [vE_up]; simp [matchL], (HRE.out.below HB.out).up HB.out, by rw [vE_up]; exact HLE.out, Below.refl _ _⟩
  case round =>
    obtain ⟨k, A1, c1, E1, hk, rfl, rfl, rfl, hv, hrd, hlim, hb⟩ := hrel
    obtain ⟨bo, hbo⟩ : ∃ b, (matchL (l.take k) (ts.take k) (vE E)).2 = b := ⟨_, rfl⟩
    obtain ⟨n1, hn1⟩ : ∃ n, E1.length = n := ⟨_, rfl⟩
    have y4 := (H7.out.keep hb).cell 4
    have y3 := (H4.out.keep hb).cell 3
    have HBO := Lib.hid hbo
    have HV := Lib.hid hv
    have HRD := Lib.hid hrd
    have HLM := Lib.hid hlim
    have HBW := Lib.hid (below_step HB.out hb)
    have HN1 := Lib.hid hn1
    rw [hbo, hn1]
    have hend : ∀ b, matchL l ts (vE E) = (vE E1, b) → RMEnd K W (matchL l ts (vE E)) (.returned (.tuple #[.slice A1 n1 c1, .bool b])) wr := fun b h => ⟨A1, c1, E1, by rw [HN1.out, h], by rw [h], HRD.out, HLM.out, HBW.out⟩
    have HEND := Lib.hid hend
    clear hbo hv hrd hlim hn1 hend
    by_cases hlt : k < m
    · have hd : decide (k < m) = true := by simp; omega
      cases bo with
      | true =>
        have hkl : k < l.length := by rw [HM.out]; exact hlt
        have hkt : k < ts.length := by rw [HTN.out]; exact hlt
        obtain ⟨b, o, x, rfl, hx, hok, e0, e1, e2, e3, e4, e5, e6⟩ := rdn_item (HR.out.below HBW.out) hkl
        obtain ⟨b2, o2, A2, c2, rfl, f0, f1, f2, f3, hR1⟩ := (HT.out.below HBW.out).item hkt
        have hd0 : Below wr.heap.size wr wr.drew := (Below.refl _ _).drew
        have hc := HP.out k hkl x wr.drew ⟨ts[k], A2, c2, hR1.below hd0⟩ (upE hd0 E1) A1 c1 hx (below_step HBW.out hd0) (hok.below hd0) ((HRD.out.below hd0).up hd0) (by rw [vE_up]; exact HLM.out)
        rw [upE_len, vE_up, HN1.out] at hc
        have htk := matchL_take l ts (vE E) k hkl hkt HBO.out
        rw [← hx, ← HV.out] at htk
        simp only at hc
        generalize ts[k] = tt at *
        have HC := Lib.hid hc
        have HTK := Lib.hid htk
        have HYX : Hid (∀ U, Below wr.heap.size wr U → U.cell? ⟨W.heap.size, 4, none⟩ = some (.slice (some ⟨b, o, none⟩) m lc) ∧ U.cell? ⟨W.heap.size + 1, 3, none⟩ = some (.slice (some ⟨b2, o2, none⟩) m tc) ∧ U.cell? ⟨b, o + k * 7, none⟩ = some (.int .i64 x.t.kind) ∧ U.cell? ⟨b, o + k * 7 + 1, none⟩ = some (.int .i64 x.t.int) ∧ U.cell? ⟨b, o + k * 7 + 2, none⟩ = some (.string ⟨x.t.name.toArray⟩) ∧ U.cell? ⟨b, o + k * 7 + 3, none⟩ = some (.int .i64 x.t.at_) ∧ U.cell? ⟨b, o + k * 7 + 4, none⟩ = some (.slice x.A x.t.kids.length x.c) ∧ U.cell? ⟨b, o + k * 7 + 5, none⟩ = some (.slice x.B x.t.clauses.length x.d) ∧ U.cell? ⟨b, o + k * 7 + 6, none⟩ = some (.slice x.C x.t.body.length x.e) ∧ U.cell? ⟨b2, o2 + k * 4, none⟩ = some (.int .i64 tt.kind) ∧ U.cell? ⟨b2, o2 + k * 4 + 1, none⟩ = some (.int .i64 tt.int) ∧ U.cell? ⟨b2, o2 + k * 4 + 2, none⟩ = some (.string ⟨tt.name.toArray⟩) ∧ U.cell? ⟨b2, o2 + k * 4 + 3, none⟩ = some (.slice A2 tt.items.length c2)) := by
          have hk : ∀ {ad : Addr} {v : Value}, wr.cell? ad = some v → ∀ U, Below wr.heap.size wr U → U.cell? ad = some v := fun h U hu => (hu.cell (World.block_lt_of_cell? wr _ h)).trans h
          exact fun U hu => ⟨hk y4 U hu, hk y3 U hu, hk e0 U hu, hk e1 U hu, hk e2 U hu, hk e3 U hu, hk e4 U hu, hk e5 U hu, hk e6 U hu, hk f0 U hu, hk f1 U hu, hk f2 U hu, hk f3 U hu⟩
        have q1 : (0 : Int) ≤ (k : Int) := by omega
        have q2 : (k : Int) < (m : Int) := by omega
        clear hx hok hkl hkt hc htk hR1 e0 e1 e2 e3 e4 e5 e6 f0 f1 f2 f3
        go_wp2
        clear y3 y4
        refine wp_region_W 11 (fun U => Below wr.heap.size wr U) (by kernel_rfl) ?_ (fun hS0 => ?_)
        · exact (Below.refl _ _).drew
        (refine wpAnyW_take (i := 0) (v := ?_) rfl (by kernel_rfl) (by kernel_rfl) (by kernel_rfl) (by kernel_rfl) (fun _ _ _ h => h) (Or.inl ⟨by kernel_rfl, ?_⟩) (by assumption) ?_; rotate_left; focus (intro V9 hS9; obtain ⟨z0, z1, z2, z3, z4, z5, z6, z7, z8, z9, z10, z11, z12⟩ := HYX.out V9 hS9; go_simp; (try (with_reducible rfl)); done))
        try simp only [Act.put, List.getElem_toArray, List.getElem_cons_zero, List.setIfInBounds_toArray, List.set_cons_succ, List.set_cons_zero]
        (refine wpAnyW_take (i := 1) (v := ?_) rfl (by kernel_rfl) (by kernel_rfl) (by kernel_rfl) (by kernel_rfl) (fun _ _ _ h => h) (Or.inl ⟨by kernel_rfl, ?_⟩) (by assumption) ?_; rotate_left; focus (intro V9 hS9; obtain ⟨z0, z1, z2, z3, z4, z5, z6, z7, z8, z9, z10, z11, z12⟩ := HYX.out V9 hS9; go_simp; (try (with_reducible rfl)); done))
        try simp only [Act.put, List.getElem_toArray, List.getElem_cons_succ, List.getElem_cons_zero, List.setIfInBounds_toArray, List.set_cons_succ, List.set_cons_zero]
        (refine wpAnyW_take (i := 2) (v := ?_) rfl (by kernel_rfl) (by kernel_rfl) (by kernel_rfl) (by kernel_rfl) (fun _ _ _ h => h) (Or.inl ⟨by kernel_rfl, ?_⟩) (by assumption) ?_; rotate_left; focus (intro V9 hS9; obtain ⟨z0, z1, z2, z3, z4, z5, z6, z7, z8, z9, z10, z11, z12⟩ := HYX.out V9 hS9; go_simp; (try (with_reducible rfl)); done))
        try simp only [Act.put, List.getElem_toArray, List.getElem_cons_succ, List.getElem_cons_zero, List.setIfInBounds_toArray, List.set_cons_succ, List.set_cons_zero]
        (refine wpAnyW_take (i := 3) (v := ?_) rfl (by kernel_rfl) (by kernel_rfl) (by kernel_rfl) (by kernel_rfl) (fun _ _ _ h => h) (Or.inl ⟨by kernel_rfl, ?_⟩) (by assumption) ?_; rotate_left; focus (intro V9 hS9; obtain ⟨z0, z1, z2, z3, z4, z5, z6, z7, z8, z9, z10, z11, z12⟩ := HYX.out V9 hS9; go_simp; (try (with_reducible rfl)); done))
        try simp only [Act.put, List.getElem_toArray, List.getElem_cons_succ, List.getElem_cons_zero, List.setIfInBounds_toArray, List.set_cons_succ, List.set_cons_zero]
        (refine wpAnyW_take (i := 4) (v := ?_) rfl (by kernel_rfl) (by kernel_rfl) (by kernel_rfl) (by kernel_rfl) (fun _ _ _ h => h) (Or.inl ⟨by kernel_rfl, ?_⟩) (by assumption) ?_; rotate_left; focus (intro V9 hS9; obtain ⟨z0, z1, z2, z3, z4, z5, z6, z7, z8, z9, z10, z11, z12⟩ := HYX.out V9 hS9; go_simp; (try (with_reducible rfl)); done))
        try simp only [Act.put, List.getElem_toArray, List.getElem_cons_succ, List.getElem_cons_zero, List.setIfInBounds_toArray, List.set_cons_succ, List.set_cons_zero]
        (refine wpAnyW_take (i := 5) (v := ?_) rfl (by kernel_rfl) (by kernel_rfl) (by kernel_rfl) (by kernel_rfl) (fun _ _ _ h => h) (Or.inl ⟨by kernel_rfl, ?_⟩) (by assumption) ?_; rotate_left; focus (intro V9 hS9; obtain ⟨z0, z1, z2, z3, z4, z5, z6, z7, z8, z9, z10, z11, z12⟩ := HYX.out V9 hS9; go_simp; (try (with_reducible rfl)); done))
        try simp only [Act.put, List.getElem_toArray, List.getElem_cons_succ, List.getElem_cons_zero, List.setIfInBounds_toArray, List.set_cons_succ, List.set_cons_zero]
        (refine wpAnyW_take (i := 6) (v := ?_) rfl (by kernel_rfl) (by kernel_rfl) (by kernel_rfl) (by kernel_rfl) (fun _ _ _ h => h) (Or.inl ⟨by kernel_rfl, ?_⟩) (by assumption) ?_; rotate_left; focus (intro V9 hS9; obtain ⟨z0, z1, z2, z3, z4, z5, z6, z7, z8, z9, z10, z11, z12⟩ := HYX.out V9 hS9; go_simp; (try (with_reducible rfl)); done))
        try simp only [Act.put, List.getElem_toArray, List.getElem_cons_succ, List.getElem_cons_zero, List.setIfInBounds_toArray, List.set_cons_succ, List.set_cons_zero]
        (refine wpAnyW_take (i := 7) (v := ?_) rfl (by kernel_rfl) (by kernel_rfl) (by kernel_rfl) (by kernel_rfl) (fun _ _ _ h => h) (Or.inl ⟨by kernel_rfl, ?_⟩) (by assumption) ?_; rotate_left; focus (intro V9 hS9; obtain ⟨z0, z1, z2, z3, z4, z5, z6, z7, z8, z9, z10, z11, z12⟩ := HYX.out V9 hS9; go_simp; (try (with_reducible rfl)); done))
        try simp only [Act.put, List.getElem_toArray, List.getElem_cons_succ, List.getElem_cons_zero, List.setIfInBounds_toArray, List.set_cons_succ, List.set_cons_zero]
        (refine wpAnyW_take (i := 8) (v := ?_) rfl (by kernel_rfl) (by kernel_rfl) (by kernel_rfl) (by kernel_rfl) (fun _ _ _ h => h) (Or.inl ⟨by kernel_rfl, ?_⟩) (by assumption) ?_; rotate_left; focus (intro V9 hS9; obtain ⟨z0, z1, z2, z3, z4, z5, z6, z7, z8, z9, z10, z11, z12⟩ := HYX.out V9 hS9; go_simp; (try (with_reducible rfl)); done))
        try simp only [Act.put, List.getElem_toArray, List.getElem_cons_succ, List.getElem_cons_zero, List.setIfInBounds_toArray, List.set_cons_succ, List.set_cons_zero]
        (refine wpAnyW_take (i := 9) (v := ?_) rfl (by kernel_rfl) (by kernel_rfl) (by kernel_rfl) (by kernel_rfl) (fun _ _ _ h => h) (Or.inl ⟨by kernel_rfl, ?_⟩) (by assumption) ?_; rotate_left; focus (intro V9 hS9; obtain ⟨z0, z1, z2, z3, z4, z5, z6, z7, z8, z9, z10, z11, z12⟩ := HYX.out V9 hS9; go_simp; (try (with_reducible rfl)); done))
        try simp only [Act.put, List.getElem_toArray, List.getElem_cons_succ, List.getElem_cons_zero, List.setIfInBounds_toArray, List.set_cons_succ, List.set_cons_zero]
        (refine wpAnyW_take (i := 10) (v := ?_) rfl (by kernel_rfl) (by kernel_rfl) (by kernel_rfl) (by kernel_rfl) (fun _ _ _ h => h) (Or.inl ⟨by kernel_rfl, ?_⟩) (by assumption) ?_; rotate_left; focus (intro V9 hS9; obtain ⟨z0, z1, z2, z3, z4, z5, z6, z7, z8, z9, z10, z11, z12⟩ := HYX.out V9 hS9; go_simp; (try (with_reducible rfl)); done))
        try simp only [Act.put, List.getElem_toArray, List.getElem_cons_succ, List.getElem_cons_zero, List.setIfInBounds_toArray, List.set_cons_succ, List.set_cons_zero]
        refine wpAnyW_ready (rs := [11]) (by kernel_rfl) (by simp) ?_
        refine AllReadyW.consE rfl (by kernel_rfl) (fun K hK => ?_) AllReadyW.nil
        go_simp
        refine HC.out.mono ?_
        rintro e w5 ⟨A9, c9, E9, rfl, h19, h29, h39, hb9⟩
        refine hK.out _ _ ?_
        clear hK K
        try simp only [Act.put, List.getElem_toArray, List.getElem_cons_succ, List.getElem_cons_zero, List.setIfInBounds_toArray, List.set_cons_succ, List.set_cons_zero]
        refine wpAnyW_ready (rs := [12]) (by kernel_rfl) (by simp) ?_
        refine AllReadyW.consE rfl (by kernel_rfl) (fun K hK => ?_) AllReadyW.nil
        go_simp
        refine hK.out _ _ ?_
        clear hK K
        try simp only [Act.put, List.getElem_toArray, List.getElem_cons_succ, List.getElem_cons_zero, List.setIfInBounds_toArray, List.set_cons_succ, List.set_cons_zero]
        refine wpAnyW_ready (rs := [13, 14]) (by kernel_rfl) (by simp) ?_
        refine AllReadyW.consE rfl (by kernel_rfl) (fun K hK => ?_) (AllReadyW.consE rfl (by kernel_rfl) (fun K hK => ?_) AllReadyW.nil)
        · go_simp
          refine hK.out _ _ ?_
          clear hK K
          try simp only [Act.put, List.getElem_toArray, List.getElem_cons_succ, List.getElem_cons_zero, List.setIfInBounds_toArray, List.set_cons_succ, List.set_cons_zero]
          refine wpAnyW_ready (rs := [14, 15]) (by kernel_rfl) (by simp) ?_
          refine AllReadyW.consE rfl (by kernel_rfl) (fun K hK => ?_) (AllReadyW.consE rfl (by kernel_rfl) (fun K hK => ?_) AllReadyW.nil)
          · go_simp
            refine hK.out _ _ ?_
            clear hK K
            try simp only [Act.put, List.getElem_toArray, List.getElem_cons_succ, List.getElem_cons_zero, List.setIfInBounds_toArray, List.set_cons_succ, List.set_cons_zero]
            refine wpAnyW_ready (rs := [15]) (by kernel_rfl) (by simp) ?_
            refine AllReadyW.consE rfl (by kernel_rfl) (fun K hK => ?_) AllReadyW.nil
            go_simp
            refine hK.out _ _ ?_
            clear hK K
            try simp only [Act.put, List.getElem_toArray, List.getElem_cons_succ, List.getElem_cons_zero, List.setIfInBounds_toArray, List.set_cons_succ, List.set_cons_zero]
            refine wpAnyW_ready (rs := [16]) (by kernel_rfl) (by simp) ?_
            refine AllReadyW.consE rfl (by kernel_rfl) (fun K hK => ?_) AllReadyW.nil
            go_simp
            refine hK.out _ _ ?_
            clear hK K
            try simp only [Act.put, List.getElem_toArray, List.getElem_cons_succ, List.getElem_cons_zero, List.setIfInBounds_toArray, List.set_cons_succ, List.set_cons_zero]
            refine wpAnyW_done (by kernel_rfl) ?_ _
            go_wp2
            go_roundw
            case rel => exact ⟨k + 1, A9, c9, E9, by omega, by go_num, rfl, by rw [HTK.out], by rw [HTK.out, h19], h29, h39, below_step hb (below_step (Below.refl _ _).drew hb9)⟩
            case measure => simp [intOf]; omega
          · go_simp
            refine hK.out _ _ ?_
            clear hK K
            try simp only [Act.put, List.getElem_toArray, List.getElem_cons_succ, List.getElem_cons_zero, List.setIfInBounds_toArray, List.set_cons_succ, List.set_cons_zero]
            refine wpAnyW_ready (rs := [14]) (by kernel_rfl) (by simp) ?_
            refine AllReadyW.consE rfl (by kernel_rfl) (fun K hK => ?_) AllReadyW.nil
            go_simp
            refine hK.out _ _ ?_
            clear hK K
            try simp only [Act.put, List.getElem_toArray, List.getElem_cons_succ, List.getElem_cons_zero, List.setIfInBounds_toArray, List.set_cons_succ, List.set_cons_zero]
            refine wpAnyW_ready (rs := [16]) (by kernel_rfl) (by simp) ?_
            refine AllReadyW.consE rfl (by kernel_rfl) (fun K hK => ?_) AllReadyW.nil
            go_simp
            refine hK.out _ _ ?_
            clear hK K
            try simp only [Act.put, List.getElem_toArray, List.getElem_cons_succ, List.getElem_cons_zero, List.setIfInBounds_toArray, List.set_cons_succ, List.set_cons_zero]
            refine wpAnyW_done (by kernel_rfl) ?_ _
            go_wp2
            go_roundw
            case rel => exact ⟨k + 1, A9, c9, E9, by omega, by go_num, rfl, by rw [HTK.out], by rw [HTK.out, h19], h29, h39, below_step hb (below_step (Below.refl _ _).drew hb9)⟩
            case measure => simp [intOf]; omega
        · go_simp
          refine hK.out _ _ ?_
          clear hK K
          try simp only [Act.put, List.getElem_toArray, List.getElem_cons_succ, List.getElem_cons_zero, List.setIfInBounds_toArray, List.set_cons_succ, List.set_cons_zero]
          refine wpAnyW_ready (rs := [13]) (by kernel_rfl) (by simp) ?_
          refine AllReadyW.consE rfl (by kernel_rfl) (fun K hK => ?_) AllReadyW.nil
          go_simp
          refine hK.out _ _ ?_
          clear hK K
          try simp only [Act.put, List.getElem_toArray, List.getElem_cons_succ, List.getElem_cons_zero, List.setIfInBounds_toArray, List.set_cons_succ, List.set_cons_zero]
          refine wpAnyW_ready (rs := [15]) (by kernel_rfl) (by simp) ?_
          refine AllReadyW.consE rfl (by kernel_rfl) (fun K hK => ?_) AllReadyW.nil
          go_simp
          refine hK.out _ _ ?_
          clear hK K
          try simp only [Act.put, List.getElem_toArray, List.getElem_cons_succ, List.getElem_cons_zero, List.setIfInBounds_toArray, List.set_cons_succ, List.set_cons_zero]
          refine wpAnyW_ready (rs := [16]) (by kernel_rfl) (by simp) ?_
          refine AllReadyW.consE rfl (by kernel_rfl) (fun K hK => ?_) AllReadyW.nil
          go_simp
          refine hK.out _ _ ?_
          clear hK K
          try simp only [Act.put, List.getElem_toArray, List.getElem_cons_succ, List.getElem_cons_zero, List.setIfInBounds_toArray, List.set_cons_succ, List.set_cons_zero]
          refine wpAnyW_done (by kernel_rfl) ?_ _
          go_wp2
          go_roundw
          case rel => exact ⟨k + 1, A9, c9, E9, by omega, by go_num, rfl, by rw [HTK.out], by rw [HTK.out, h19], h29, h39, below_step hb (below_step (Below.refl _ _).drew hb9)⟩
          case measure => simp [intOf]; omega
      | false =>
        have HF := Lib.hid (show matchL l ts (vE E) = (vE E1, false) by rw [matchL_early l ts (vE E) k HBO.out, HV.out, ← HBO.out])
        go_wp2
        refine bodyPost_ret (v := .tuple #[.slice A1 n1 c1, .bool false]) (by simp [results, Tryz.results32, go_sem]) rfl ?_
        exact HEND.out _ HF.out
    · obtain rfl : k = m := by omega
      have hd : decide (k < k) = false := by simp
      have HF := Lib.hid (show matchL l ts (vE E) = (vE E1, bo) by
        have h1 := HV.out
        have h2 := HBO.out
        rw [List.take_of_length_le (by rw [HM.out]; exact Nat.le_refl _), List.take_of_length_le (by rw [HTN.out]; exact Nat.le_refl _)] at h1 h2
        rw [h1, ← h2])
      go_wp2
      refine bodyPost_ret (v := .tuple #[.slice A1 n1 c1, .bool bo]) (by simp [results, Tryz.results32, go_sem]) rfl ?_
      exact HEND.out _ HF.out

set_option maxRecDepth 100000 in
set_option maxHeartbeats 4000000 in
theorem rm_t6a (t : TE W) (hE : RdB W A c E) (hL : LimN K ((vE E).map (·.1))) (n : Int) (s : List UInt8) (a : Int) (l : List ND) (lA : Option Addr) (lc : Nat) (v5 v6 : Value) (hk : (t.t.kind == 8) = false) :
    Calls Tryz.prog 32 #[.agg #[.int .i64 6, .int .i64 n, .string ⟨s.toArray⟩, .int .i64 a, .slice lA l.length lc, v5, v6], .agg #[.int .i64 t.t.kind, .int .i64 t.t.int, .string ⟨t.t.name.toArray⟩, .slice t.A t.t.items.length t.c], .slice A E.length c] W (RMEnd K W (vE E, false)) := by
  obtain ⟨ne, hne⟩ : ∃ ne, E.length = ne := ⟨_, rfl⟩
  have HEN := Lib.hid (fun V (hb : Below W.heap.size W V) => RMEnd.same hb hE hL hne false (R := (vE E, false)) rfl)
  rw [hne]
  have d1 : (t.t.kind != 8) = true := by simpa using hk
  clear hE hL hne
  generalize t.t.items.length = tl at *
  generalize t.t.kind = tk at *
  generalize l.length = m at *
  generalize t.t.int = ti at *
  generalize t.t.name = tn at *
  generalize t.A = tA at *
  generalize t.c = tc at *
  go_enter Tryz.func32, Tryz.ntmps32
  go_upto_region 1 with (fail)
  refine wp_world (fun V => Blk V W.heap.size 29 #[.int .i64 6, .int .i64 n, .string ⟨s.toArray⟩, .int .i64 a, .slice lA m lc, v5, v6] ∧ Blk V (W.heap.size + 1) 35 #[.int .i64 tk, .int .i64 ti, .string ⟨tn.toArray⟩, .slice tA tl tc] ∧ Below W.heap.size W V) (two_box W _ _) ?_
  rintro V ⟨h7, h4, hb⟩
  have H7 := Lib.hid h7
  have H4 := Lib.hid h4
  have HB := Lib.hid hb
  have x0 := h7.cell 0
  have x4 := h7.cell 4
  have y0 := h4.cell 0
  have y3 := h4.cell 3
  clear h7 h4 hb
  go_wp2
  refine bodyPost_ret (v := .tuple #[.slice A ne c, .bool false]) (by simp [results, Tryz.results32, go_sem]) rfl ?_
  exact HEN.out _ HB.out

set_option maxRecDepth 100000 in
set_option maxHeartbeats 4000000 in
theorem rm_t6b (t : TE W) (hE : RdB W A c E) (hL : LimN K ((vE E).map (·.1))) (n : Int) (s : List UInt8) (a : Int) (l : List ND) (lA : Option Addr) (lc : Nat) (v5 v6 : Value) (hk : t.t.kind = 8) (hn : t.t.items.length ≠ l.length) :
    Calls Tryz.prog 32 #[.agg #[.int .i64 6, .int .i64 n, .string ⟨s.toArray⟩, .int .i64 a, .slice lA l.length lc, v5, v6], .agg #[.int .i64 t.t.kind, .int .i64 t.t.int, .string ⟨t.t.name.toArray⟩, .slice t.A t.t.items.length t.c], .slice A E.length c] W (RMEnd K W (vE E, false)) := by
  obtain ⟨ne, hne⟩ : ∃ ne, E.length = ne := ⟨_, rfl⟩
  have HEN := Lib.hid (fun V (hb : Below W.heap.size W V) => RMEnd.same hb hE hL hne false (R := (vE E, false)) rfl)
  rw [hne, hk]
  have d1 : ((t.t.items.length : Int) != (l.length : Int)) = true := by simp; omega
  clear hE hL hne hk hn
  generalize t.t.items.length = tl at *
  generalize l.length = m at *
  generalize t.t.int = ti at *
  generalize t.t.name = tn at *
  generalize t.A = tA at *
  generalize t.c = tc at *
  go_enter Tryz.func32, Tryz.ntmps32
  go_upto_region 1 with (fail)
  refine wp_world (fun V => Blk V W.heap.size 29 #[.int .i64 6, .int .i64 n, .string ⟨s.toArray⟩, .int .i64 a, .slice lA m lc, v5, v6] ∧ Blk V (W.heap.size + 1) 35 #[.int .i64 8, .int .i64 ti, .string ⟨tn.toArray⟩, .slice tA tl tc] ∧ Below W.heap.size W V) (two_box W _ _) ?_
  rintro V ⟨h7, h4, hb⟩
  have H7 := Lib.hid h7
  have H4 := Lib.hid h4
  have HB := Lib.hid hb
  have x0 := h7.cell 0
  have x4 := h7.cell 4
  have y0 := h4.cell 0
  have y3 := h4.cell 3
  clear h7 h4 hb
  go_wp2
  refine bodyPost_ret (v := .tuple #[.slice A ne c, .bool false]) (by simp [results, Tryz.results32, go_sem]) rfl ?_
  exact HEN.out _ HB.out

set_option maxRecDepth 100000 in
set_option maxHeartbeats 4000000 in
theorem rm_t6c (t : TE W) (hE : RdB W A c E) (hL : LimN K ((vE E).map (·.1))) (n : Int) (s : List UInt8) (a : Int) (l : List ND) (lA : Option Addr) (lc : Nat) (v5 v6 : Value) (hk : t.t.kind = 8) (hn : t.t.items.length = l.length) (hR : RdN NoB W lA lc l) (hp : ∀ (k : Nat) (h : k < l.length) (x : EN) (V : World) (u : TE V) (G : List (BG (TE V))) (B : Option Addr) (d : Nat), x.t = l[k] → Below W.heap.size W V → x.Ok NoB V → RdB V B d G → LimN K ((vE G).map (·.1)) → Calls Tryz.prog 32 #[.agg #[.int .i64 x.t.kind, .int .i64 x.t.int, .string ⟨x.t.name.toArray⟩, .int .i64 x.t.at_, .slice x.A x.t.kids.length x.c, .slice x.B x.t.clauses.length x.d, .slice x.C x.t.body.length x.e], .agg #[.int .i64 u.t.kind, .int .i64 u.t.int, .string ⟨u.t.name.toArray⟩, .slice u.A u.t.items.length u.c], .slice B G.length d] V (RMEnd K V (matchP x.t u.t (vE G)))) :
    Calls Tryz.prog 32 #[.agg #[.int .i64 6, .int .i64 n, .string ⟨s.toArray⟩, .int .i64 a, .slice lA l.length lc, v5, v6], .agg #[.int .i64 t.t.kind, .int .i64 t.t.int, .string ⟨t.t.name.toArray⟩, .slice t.A t.t.items.length t.c], .slice A E.length c] W (RMEnd K W (matchL l t.t.items (vE E))) := by
  have HT := Lib.hid t.ok
  have htc := t.ok.1
  have htc2 := t.ok.2.1
  have hlc := hR.1
  have hlc2 := hR.2.1
  have HR := Lib.hid hR
  have HP := Lib.hid hp
  have HRE := Lib.hid hE
  have HLE := Lib.hid hL
  obtain ⟨m, hm⟩ : ∃ m, l.length = m := ⟨_, rfl⟩
  have HM := Lib.hid hm
  have hn2 := hn.trans hm
  rw [hk, hn2, hm]
  rw [hn2] at htc
  rw [hm] at hlc
  obtain ⟨ne, hne⟩ : ∃ ne, E.length = ne := ⟨_, rfl⟩
  have HNE := Lib.hid hne
  have HTN := Lib.hid hn2
  rw [hne]
  clear hR hp hE hL hm hne hk hn hn2
  generalize t.t.items = ts at *
  generalize t.t.int = ti at *
  generalize t.t.name = tn at *
  generalize t.A = tA at *
  generalize t.c = tc at *
  go_enter Tryz.func32, Tryz.ntmps32
  go_upto_region 1 with (fail)
  refine wp_world (fun V => Blk V W.heap.size 29 #[.int .i64 6, .int .i64 n, .string ⟨s.toArray⟩, .int .i64 a, .slice lA m lc, v5, v6] ∧ Blk V (W.heap.size + 1) 35 #[.int .i64 8, .int .i64 ti, .string ⟨tn.toArray⟩, .slice tA m tc] ∧ Below W.heap.size W V) (two_box W _ _) ?_
  rintro V ⟨h7, h4, hb⟩
  have H7 := Lib.hid h7
  have H4 := Lib.hid h4
  have HB := Lib.hid hb
  have x0 := h7.cell 0
  have x4 := h7.cell 4
  have y0 := h4.cell 0
  have y3 := h4.cell 3
  clear h7 h4 hb
  go_wp2
  clear x0 x4 y0 y3
  go_loopw [2, 12, 13] (fun ev ok i wr => ∃ (k : Nat) (A1 : Option Addr) (c1 : Nat) (E1 : List (BG (TE wr))), k ≤ m ∧ i = .int .i64 k ∧ ev = .slice A1 E1.length c1 ∧ ok = .bool (matchL (l.take k) (ts.take k) (vE E)).2 ∧ vE E1 = (matchL (l.take k) (ts.take k) (vE E)).1 ∧ RdB wr A1 c1 E1 ∧ LimN K ((vE E1).map (·.1)) ∧ Below V.heap.size V wr) (fun _ _ i _ => m - (intOf i).toNat)
  case atStart => exact ⟨0, A, c, upE HB.out E, Nat.zero_le _, rfl, by rw [upE_len, HNE.out], by simp [matchL], by rw [vE_up]; simp [matchL], (HRE.out.below HB.out).up HB.out, by rw [vE_up]; exact HLE.out, Below.refl _ _⟩
  case round =>
    obtain ⟨k, A1, c1, E1, hk, rfl, rfl, rfl, hv, hrd, hlim, hb⟩ := hrel
    obtain ⟨bo, hbo⟩ : ∃ b, (matchL (l.take k) (ts.take k) (vE E)).2 = b := ⟨_, rfl⟩
    obtain ⟨n1, hn1⟩ : ∃ n, E1.length = n := ⟨_, rfl⟩
    have y4 := (H7.out.keep hb).cell 4
    have y3 := (H4.out.keep hb).cell 3
    have HBO := Lib.hid hbo
    have HV := Lib.hid hv
    have HRD := Lib.hid hrd
    have HLM := Lib.hid hlim
    have HBW := Lib.hid (below_step HB.out hb)
    have HN1 := Lib.hid hn1
    rw [hbo, hn1]
    have hend : ∀ b, matchL l ts (vE E) = (vE E1, b) → RMEnd K W (matchL l ts (vE E)) (.returned (.tuple #[.slice A1 n1 c1, .bool b])) wr := fun b h => ⟨A1, c1, E1, by rw [HN1.out, h], by rw [h], HRD.out, HLM.out, HBW.out⟩
    have HEND := Lib.hid hend
    clear hbo hv hrd hlim hn1 hend
    by_cases hlt : k < m
    · have hd : decide (k < m) = true := by simp; omega
      cases bo with
      | true =>
        have hkl : k < l.length := by rw [HM.out]; exact hlt
        have hkt : k < ts.length := by rw [HTN.out]; exact hlt
        obtain ⟨b, o, x, rfl, hx, hok, e0, e1, e2, e3, e4, e5, e6⟩ := rdn_item (HR.out.below HBW.out) hkl
        obtain ⟨b2, o2, A2, c2, rfl, f0, f1, f2, f3, hR1⟩ := (HT.out.below HBW.out).item hkt
        have hd0 : Below wr.heap.size wr wr.drew := (Below.refl _ _).drew
        have hc := HP.out k hkl x wr.drew ⟨ts[k], A2, c2, hR1.below hd0⟩ (upE hd0 E1) A1 c1 hx (below_step HBW.out hd0) (hok.below hd0) ((HRD.out.below hd0).up hd0) (by rw [vE_up]; exact HLM.out)
        rw [upE_len, vE_up, HN1.out] at hc
        have htk := matchL_take l ts (vE E) k hkl hkt HBO.out
        rw [← hx, ← HV.out] at htk
        simp only at hc
        generalize ts[k] = tt at *
        have HC := Lib.hid hc
        have HTK := Lib.hid htk
        have HYX : Hid (∀ U, Below wr.heap.size wr U → U.cell? ⟨W.heap.size, 4, none⟩ = some (.slice (some ⟨b, o, none⟩) m lc) ∧ U.cell? ⟨W.heap.size + 1, 3, none⟩ = some (.slice (some ⟨b2, o2, none⟩) m tc) ∧ U.cell? ⟨b, o + k * 7, none⟩ = some (.int .i64 x.t.kind) ∧ U.cell? ⟨b, o + k * 7 + 1, none⟩ = some (.int .i64 x.t.int) ∧ U.cell? ⟨b, o + k * 7 + 2, none⟩ = some (.string ⟨x.t.name.toArray⟩) ∧ U.cell? ⟨b, o + k * 7 + 3, none⟩ = some (.int .i64 x.t.at_) ∧ U.cell? ⟨b, o + k * 7 + 4, none⟩ = some (.slice x.A x.t.kids.length x.c) ∧ U.cell? ⟨b, o + k * 7 + 5, none⟩ = some (.slice x.B x.t.clauses.length x.d) ∧ U.cell? ⟨b, o + k * 7 + 6, none⟩ = some (.slice x.C x.t.body.length x.e) ∧ U.cell? ⟨b2, o2 + k * 4, none⟩ = some (.int .i64 tt.kind) ∧ U.cell? ⟨b2, o2 + k * 4 + 1, none⟩ = some (.int .i64 tt.int) ∧ U.cell? ⟨b2, o2 + k * 4 + 2, none⟩ = some (.string ⟨tt.name.toArray⟩) ∧ U.cell? ⟨b2, o2 + k * 4 + 3, none⟩ = some (.slice A2 tt.items.length c2)) := by
          have hk : ∀ {ad : Addr} {v : Value}, wr.cell? ad = some v → ∀ U, Below wr.heap.size wr U → U.cell? ad = some v := fun h U hu => (hu.cell (World.block_lt_of_cell? wr _ h)).trans h
          exact fun U hu => ⟨hk y4 U hu, hk y3 U hu, hk e0 U hu, hk e1 U hu, hk e2 U hu, hk e3 U hu, hk e4 U hu, hk e5 U hu, hk e6 U hu, hk f0 U hu, hk f1 U hu, hk f2 U hu, hk f3 U hu⟩
        have q1 : (0 : Int) ≤ (k : Int) := by omega
        have q2 : (k : Int) < (m : Int) := by omega
        clear hx hok hkl hkt hc htk hR1 e0 e1 e2 e3 e4 e5 e6 f0 f1 f2 f3
        go_wp2
        clear y3 y4
        refine wp_region_W 11 (fun U => Below wr.heap.size wr U) (by kernel_rfl) ?_ (fun hS0 => ?_)
        · exact (Below.refl _ _).drew
        (refine wpAnyW_take (i := 0) (v := ?_) rfl (by kernel_rfl) (by kernel_rfl) (by kernel_rfl) (by kernel_rfl) (fun _ _ _ h => h) (Or.inl ⟨by kernel_rfl, ?_⟩) (by assumption) ?_; rotate_left; focus (intro V9 hS9; obtain ⟨z0, z1, z2, z3, z4, z5, z6, z7, z8, z9, z10, z11, z12⟩ := HYX.out V9 hS9; go_simp; (try (with_reducible rfl)); done))
        try simp only [Act.put, List.getElem_toArray, List.getElem_cons_zero, List.setIfInBounds_toArray, List.set_cons_succ, List.set_cons_zero]
        (refine wpAnyW_take (i := 1) (v := ?_) rfl (by kernel_rfl) (by kernel_rfl) (by kernel_rfl) (by kernel_rfl) (fun _ _ _ h => h) (Or.inl ⟨by kernel_rfl, ?_⟩) (by assumption) ?_; rotate_left; focus (intro V9 hS9; obtain ⟨z0, z1, z2, z3, z4, z5, z6, z7, z8, z9, z10, z11, z12⟩ := HYX.out V9 hS9; go_simp; (try (with_reducible rfl)); done))
        try simp only [Act.put, List.getElem_toArray, List.getElem_cons_succ, List.getElem_cons_zero, List.setIfInBounds_toArray, List.set_cons_succ, List.set_cons_zero]
        (refine wpAnyW_take (i := 2) (v := ?_) rfl (by kernel_rfl) (by kernel_rfl) (by kernel_rfl) (by kernel_rfl) (fun _ _ _ h => h) (Or.inl ⟨by kernel_rfl, ?_⟩) (by assumption) ?_; rotate_left; focus (intro V9 hS9; obtain ⟨z0, z1, z2, z3, z4, z5, z6, z7, z8, z9, z10, z11, z12⟩ := HYX.out V9 hS9; go_simp; (try (with_reducible rfl)); done))
        try simp only [Act.put, List.getElem_toArray, List.getElem_cons_succ, List.getElem_cons_zero, List.setIfInBounds_toArray, List.set_cons_succ, List.set_cons_zero]
        (refine wpAnyW_take (i := 3) (v := ?_) rfl (by kernel_rfl) (by kernel_rfl) (by kernel_rfl) (by kernel_rfl) (fun _ _ _ h => h) (Or.inl ⟨by kernel_rfl, ?_⟩) (by assumption) ?_; rotate_left; focus (intro V9 hS9; obtain ⟨z0, z1, z2, z3, z4, z5, z6, z7, z8, z9, z10, z11, z12⟩ := HYX.out V9 hS9; go_simp; (try (with_reducible rfl)); done))
        try simp only [Act.put, List.getElem_toArray, List.getElem_cons_succ, List.getElem_cons_zero, List.setIfInBounds_toArray, List.set_cons_succ, List.set_cons_zero]
        (refine wpAnyW_take (i := 4) (v := ?_) rfl (by kernel_rfl) (by kernel_rfl) (by kernel_rfl) (by kernel_rfl) (fun _ _ _ h => h) (Or.inl ⟨by kernel_rfl, ?_⟩) (by assumption) ?_; rotate_left; focus (intro V9 hS9; obtain ⟨z0, z1, z2, z3, z4, z5, z6, z7, z8, z9, z10, z11, z12⟩ := HYX.out V9 hS9; go_simp; (try (with_reducible rfl)); done))
        try simp only [Act.put, List.getElem_toArray, List.getElem_cons_succ, List.getElem_cons_zero, List.setIfInBounds_toArray, List.set_cons_succ, List.set_cons_zero]
        (refine wpAnyW_take (i := 5) (v := ?_) rfl (by kernel_rfl) (by kernel_rfl) (by kernel_rfl) (by kernel_rfl) (fun _ _ _ h => h) (Or.inl ⟨by kernel_rfl, ?_⟩) (by assumption) ?_; rotate_left; focus (intro V9 hS9; obtain ⟨z0, z1, z2, z3, z4, z5, z6, z7, z8, z9, z10, z11, z12⟩ := HYX.out V9 hS9; go_simp; (try (with_reducible rfl)); done))
        try simp only [Act.put, List.getElem_toArray, List.getElem_cons_succ, List.getElem_cons_zero, List.setIfInBounds_toArray, List.set_cons_succ, List.set_cons_zero]
        (refine wpAnyW_take (i := 6) (v := ?_) rfl (by kernel_rfl) (by kernel_rfl) (by kernel_rfl) (by kernel_rfl) (fun _ _ _ h => h) (Or.inl ⟨by kernel_rfl, ?_⟩) (by assumption) ?_; rotate_left; focus (intro V9 hS9; obtain ⟨z0, z1, z2, z3, z4, z5, z6, z7, z8, z9, z10, z11, z12⟩ := HYX.out V9 hS9; go_simp; (try (with_reducible rfl)); done))
        try simp only [Act.put, List.getElem_toArray, List.getElem_cons_succ, List.getElem_cons_zero, List.setIfInBounds_toArray, List.set_cons_succ, List.set_cons_zero]
        (refine wpAnyW_take (i := 7) (v := ?_) rfl (by kernel_rfl) (by kernel_rfl) (by kernel_rfl) (by kernel_rfl) (fun _ _ _ h => h) (Or.inl ⟨by kernel_rfl, ?_⟩) (by assumption) ?_; rotate_left; focus (intro V9 hS9; obtain ⟨z0, z1, z2, z3, z4, z5, z6, z7, z8, z9, z10, z11, z12⟩ := HYX.out V9 hS9; go_simp; (try (with_reducible rfl)); done))
        try simp only [Act.put, List.getElem_toArray, List.getElem_cons_succ, List.getElem_cons_zero, List.setIfInBounds_toArray, List.set_cons_succ, List.set_cons_zero]
        (refine wpAnyW_take (i := 8) (v := ?_) rfl (by kernel_rfl) (by kernel_rfl) (by kernel_rfl) (by kernel_rfl) (fun _ _ _ h => h) (Or.inl ⟨by kernel_rfl, ?_⟩) (by assumption) ?_; rotate_left; focus (intro V9 hS9; obtain ⟨z0, z1, z2, z3, z4, z5, z6, z7, z8, z9, z10, z11, z12⟩ := HYX.out V9 hS9; go_simp; (try (with_reducible rfl)); done))
        try simp only [Act.put, List.getElem_toArray, List.getElem_cons_succ, List.getElem_cons_zero, List.setIfInBounds_toArray, List.set_cons_succ, List.set_cons_zero]
        (refine wpAnyW_take (i := 9) (v := ?_) rfl (by kernel_rfl) (by kernel_rfl) (by kernel_rfl) (by kernel_rfl) (fun _ _ _ h => h) (Or.inl ⟨by kernel_rfl, ?_⟩) (by assumption) ?_; rotate_left; focus (intro V9 hS9; obtain ⟨z0, z1, z2, z3, z4, z5, z6, z7, z8, z9, z10, z11, z12⟩ := HYX.out V9 hS9; go_simp; (try (with_reducible rfl)); done))
        try simp only [Act.put, List.getElem_toArray, List.getElem_cons_succ, List.getElem_cons_zero, List.setIfInBounds_toArray, List.set_cons_succ, List.set_cons_zero]
        (refine wpAnyW_take (i := 10) (v := ?_) rfl (by kernel_rfl) (by kernel_rfl) (by kernel_rfl) (by kernel_rfl) (fun _ _ _ h => h) (Or.inl ⟨by kernel_rfl, ?_⟩) (by assumption) ?_; rotate_left; focus (intro V9 hS9; obtain ⟨z0, z1, z2, z3, z4, z5, z6, z7, z8, z9, z10, z11, z12⟩ := HYX.out V9 hS9; go_simp; (try (with_reducible rfl)); done))
        try simp only [Act.put, List.getElem_toArray, List.getElem_cons_succ, List.getElem_cons_zero, List.setIfInBounds_toArray, List.set_cons_succ, List.set_cons_zero]
        refine wpAnyW_ready (rs := [11]) (by kernel_rfl) (by simp) ?_
        refine AllReadyW.consE rfl (by kernel_rfl) (fun K hK => ?_) AllReadyW.nil
        go_simp
        refine HC.out.mono ?_
        rintro e w5 ⟨A9, c9, E9, rfl, h19, h29, h39, hb9⟩
        refine hK.out _ _ ?_
        clear hK K
        try simp only [Act.put, List.getElem_toArray, List.getElem_cons_succ, List.getElem_cons_zero, List.setIfInBounds_toArray, List.set_cons_succ, List.set_cons_zero]
        refine wpAnyW_ready (rs := [12]) (by kernel_rfl) (by simp) ?_
        refine AllReadyW.consE rfl (by kernel_rfl) (fun K hK => ?_) AllReadyW.nil
        go_simp
        refine hK.out _ _ ?_
        clear hK K
        try simp only [Act.put, List.getElem_toArray, List.getElem_cons_succ, List.getElem_cons_zero, List.setIfInBounds_toArray, List.set_cons_succ, List.set_cons_zero]
        refine wpAnyW_ready (rs := [13, 14]) (by kernel_rfl) (by simp) ?_
        refine AllReadyW.consE rfl (by kernel_rfl) (fun K hK => ?_) (AllReadyW.consE rfl (by kernel_rfl) (fun K hK => ?_) AllReadyW.nil)
        · go_simp
          refine hK.out _ _ ?_
          clear hK K
          try simp only [Act.put, List.getElem_toArray, List.getElem_cons_succ, List.getElem_cons_zero, List.setIfInBounds_toArray, List.set_cons_succ, List.set_cons_zero]
          refine wpAnyW_ready (rs := [14, 15]) (by kernel_rfl) (by simp) ?_
          refine AllReadyW.consE rfl (by kernel_rfl) (fun K hK => ?_) (AllReadyW.consE rfl (by kernel_rfl) (fun K hK => ?_) AllReadyW.nil)
          · go_simp
            refine hK.out _ _ ?_
            clear hK K
            try simp only [Act.put, List.getElem_toArray, List.getElem_cons_succ, List.getElem_cons_zero, List.setIfInBounds_toArray, List.set_cons_succ, List.set_cons_zero]
            refine wpAnyW_ready (rs := [15]) (by kernel_rfl) (by simp) ?_
            refine AllReadyW.consE rfl (by kernel_rfl) (fun K hK => ?_) AllReadyW.nil
            go_simp
            refine hK.out _ _ ?_
            clear hK K
            try simp only [Act.put, List.getElem_toArray, List.getElem_cons_succ, List.getElem_cons_zero, List.setIfInBounds_toArray, List.set_cons_succ, List.set_cons_zero]
            refine wpAnyW_ready (rs := [16]) (by kernel_rfl) (by simp) ?_
            refine AllReadyW.consE rfl (by kernel_rfl) (fun K hK => ?_) AllReadyW.nil
            go_simp
            refine hK.out _ _ ?_
            clear hK K
            try simp only [Act.put, List.getElem_toArray, List.getElem_cons_succ, List.getElem_cons_zero, List.setIfInBounds_toArray, List.set_cons_succ, List.set_cons_zero]
            refine wpAnyW_done (by kernel_rfl) ?_ _
            go_wp2
            go_roundw
            case rel => exact ⟨k + 1, A9, c9, E9, by omega, by go_num, rfl, by rw [HTK.out], by rw [HTK.out, h19], h29, h39, below_step hb (below_step (Below.refl _ _).drew hb9)⟩
            case measure => simp [intOf]; omega
          · go_simp
            refine hK.out _ _ ?_
            clear hK K
            try simp only [Act.put, List.getElem_toArray, List.getElem_cons_succ, List.getElem_cons_zero, List.setIfInBounds_toArray, List.set_cons_succ, List.set_cons_zero]
            refine wpAnyW_ready (rs := [14]) (by kernel_rfl) (by simp) ?_
            refine AllReadyW.consE rfl (by kernel_rfl) (fun K hK => ?_) AllReadyW.nil
            go_simp
            refine hK.out _ _ ?_
            clear hK K
            try simp only [Act.put, List.getElem_toArray, List.getElem_cons_succ, List.getElem_cons_zero, List.setIfInBounds_toArray, List.set_cons_succ, List.set_cons_zero]
            refine wpAnyW_ready (rs := [16]) (by kernel_rfl) (by simp) ?_
            refine AllReadyW.consE rfl (by kernel_rfl) (fun K hK => ?_) AllReadyW.nil
            go_simp
            refine hK.out _ _ ?_
            clear hK K
            try simp only [Act.put, List.getElem_toArray, List.getElem_cons_succ, List.getElem_cons_zero, List.setIfInBounds_toArray, List.set_cons_succ, List.set_cons_zero]
            refine wpAnyW_done (by kernel_rfl) ?_ _
            go_wp2
            go_roundw
            case rel => exact ⟨k + 1, A9, c9, E9, by omega, by go_num, rfl, by rw [HTK.out], by rw [HTK.out, h19], h29, h39, below_step hb (below_step (Below.refl _ _).drew hb9)⟩
            case measure => simp [intOf]; omega
        · go_simp
          refine hK.out _ _ ?_
          clear hK K
          try simp only [Act.put, List.getElem_toArray, List.getElem_cons_succ, List.getElem_cons_zero, List.setIfInBounds_toArray, List.set_cons_succ, List.set_cons_zero]
          refine wpAnyW_ready (rs := [13]) (by kernel_rfl) (by simp) ?_
          refine AllReadyW.consE rfl (by kernel_rfl) (fun K hK => ?_) AllReadyW.nil
          go_simp
          refine hK.out _ _ ?_
          clear hK K
          try simp only [Act.put, List.getElem_toArray, List.getElem_cons_succ, List.getElem_cons_zero, List.setIfInBounds_toArray, List.set_cons_succ, List.set_cons_zero]
          refine wpAnyW_ready (rs := [15]) (by kernel_rfl) (by simp) ?_
          refine AllReadyW.consE rfl (by kernel_rfl) (fun K hK => ?_) AllReadyW.nil
          go_simp
          refine hK.out _ _ ?_
          clear hK K
          try simp only [Act.put, List.getElem_toArray, List.getElem_cons_succ, List.getElem_cons_zero, List.setIfInBounds_toArray, List.set_cons_succ, List.set_cons_zero]
          refine wpAnyW_ready (rs := [16]) (by kernel_rfl) (by simp) ?_
          refine AllReadyW.consE rfl (by kernel_rfl) (fun K hK => ?_) AllReadyW.nil
          go_simp
          refine hK.out _ _ ?_
          clear hK K
          try simp only [Act.put, List.getElem_toArray, List.getElem_cons_succ, List.getElem_cons_zero, List.setIfInBounds_toArray, List.set_cons_succ, List.set_cons_zero]
          refine wpAnyW_done (by kernel_rfl) ?_ _
          go_wp2
          go_roundw
          case rel => exact ⟨k + 1, A9, c9, E9, by omega, by go_num, rfl, by rw [HTK.out], by rw [HTK.out, h19], h29, h39, below_step hb (below_step (Below.refl _ _).drew hb9)⟩
          case measure => simp [intOf]; omega
      | false =>
        have HF := Lib.hid (show matchL l ts (vE E) = (vE E1, false) by rw [matchL_early l ts (vE E) k HBO.out, HV.out, ← HBO.out])
        go_wp2
        refine bodyPost_ret (v := .tuple #[.slice A1 n1 c1, .bool false]) (by simp [results, Tryz.results32, go_sem]) rfl ?_
        exact HEND.out _ HF.out
    · obtain rfl : k = m := by omega
      have hd : decide (k < k) = false := by simp
      have HF := Lib.hid (show matchL l ts (vE E) = (vE E1, bo) by
        have h1 := HV.out
        have h2 := HBO.out
        rw [List.take_of_length_le (by rw [HM.out]; exact Nat.le_refl _), List.take_of_length_le (by rw [HTN.out]; exact Nat.le_refl _)] at h1 h2
        rw [h1, ← h2])
      go_wp2
      refine bodyPost_ret (v := .tuple #[.slice A1 n1 c1, .bool bo]) (by simp [results, Tryz.results32, go_sem]) rfl ?_
      exact HEND.out _ HF.out
end
end
section
open Go.RowKit
set_option linter.unusedVariables false

/-- The document's match: at every pattern. -/
theorem rmatch_any {K : List (List UInt8)} (hK2 : K.length ≤ 1000000) (N : Nat) : ∀ (x : EN) (W : World) (t : TE W) (E : List (BG (TE W))) (A : Option Addr) (c : Nat), x.t.parts ≤ N → x.Ok NoB W → patB x.t = true → x.t.all (fun w => w ∈ K) → RdB W A c E → LimN K ((vE E).map (·.1)) →
    Calls Tryz.prog 32 #[.agg #[.int .i64 x.t.kind, .int .i64 x.t.int, .string ⟨x.t.name.toArray⟩, .int .i64 x.t.at_, .slice x.A x.t.kids.length x.c, .slice x.B x.t.clauses.length x.d, .slice x.C x.t.body.length x.e], .agg #[.int .i64 t.t.kind, .int .i64 t.t.int, .string ⟨t.t.name.toArray⟩, .slice t.A t.t.items.length t.c], .slice A E.length c] W (RMEnd K W (matchP x.t t.t (vE E))) := by
  induction N with
  | zero => intro x W t E A c hx; have := x.t.parts_pos; omega
  | succ N ih =>
    intro x W t E A c hN hok hpat hnm hE hL
    obtain ⟨hq, hql, _, _⟩ := (ND.all_iff x.t).1 hnm
    have hR := hok.kids
    have hpe := x.t.parts_eq
    rw [patB_eq] at hpat
    rw [matchP_eq]
    obtain ⟨kd, hkd⟩ : ∃ kd, x.t.kind = kd := ⟨_, rfl⟩
    rw [hkd] at hpat ⊢
    have HIT : patL x.t.kids = true → ∀ (k : Nat) (h : k < x.t.kids.length) (y : EN) (V : World) (u : TE V) (G : List (BG (TE V))) (B : Option Addr) (d : Nat), y.t = x.t.kids[k] → Below W.heap.size W V → y.Ok NoB V → RdB V B d G → LimN K ((vE G).map (·.1)) → Calls Tryz.prog 32 #[.agg #[.int .i64 y.t.kind, .int .i64 y.t.int, .string ⟨y.t.name.toArray⟩, .int .i64 y.t.at_, .slice y.A y.t.kids.length y.c, .slice y.B y.t.clauses.length y.d, .slice y.C y.t.body.length y.e], .agg #[.int .i64 u.t.kind, .int .i64 u.t.int, .string ⟨u.t.name.toArray⟩, .slice u.A u.t.items.length u.c], .slice B G.length d] V (RMEnd K V (matchP y.t u.t (vE G))) := fun hpl k h y V u G B d hy hb hyo hG hLG => by
      refine ih y V u G B d ?_ hyo ?_ ?_ hG hLG
      · rw [hy]; have := ndparts_item x.t.kids k h; omega
      · rw [hy]; exact patL_at hpl h
      · rw [hy]; exact ndall_at hql h
    by_cases h1 : kd = 1
    · subst h1; rw [if_pos rfl]; exact rm_k1 t hE hL _ _ _ _ _ _
    rw [if_neg h1] at hpat ⊢
    by_cases h2 : kd = 2
    · subst h2; rw [if_pos rfl]; exact rm_k2 t hE hL _ _ _ _ _ _
    rw [if_neg h2] at hpat ⊢
    by_cases h5 : kd = 5
    · subst h5; rw [if_pos rfl]; exact rm_k5 t hE hL _ _ _ _ _ _
    rw [if_neg h5]
    by_cases h10 : kd = 10
    · subst h10
      rw [if_pos rfl]
      rw [if_neg (by decide), if_neg (by decide), if_pos rfl] at hpat
      simp only [Bool.and_eq_true, beq_iff_eq] at hpat
      obtain ⟨hs, hl, hk1⟩ := hpat
      obtain ⟨b, o, y, hA, hy, hyo, e0, e1, _⟩ := rdn_item hR (k := 0) (by omega)
      have hc := hR.1
      have hc2 := hR.2.1
      have hkl : ∃ z, x.t.kids = [z] := by
        match hm : x.t.kids, hl with
        | [z], _ => exact ⟨z, rfl⟩
      obtain ⟨z, hz⟩ := hkl
      have hyz : y.t = z := by rw [hy]; simp [hz]
      rw [hz] at hk1
      simp only [kid1, beq_iff_eq] at hk1
      rw [Nat.zero_mul, Nat.add_zero] at e0 e1
      rw [hA, hl]
      rw [hl] at hc
      rw [hyz, hk1] at e0
      rw [hyz] at e1
      exact rm_k10 t hE hL _ _ _ _ _ (by simp [hs]) b o x.c z.int (negK x.t.kids) e0 e1 (by rw [hz]; rfl) hc hc2
    rw [if_neg h10]
    by_cases h3 : kd = 3
    · subst h3
      rw [if_pos rfl]
      unfold varP
      by_cases hu : x.t.name = [95]
      · rw [if_pos hu]
        exact rm_k3a t hE hL _ _ _ _ _ _ (by simp [hu])
      · rw [if_neg hu]
        have hu2 : (x.t.name == [95]) = false := by simpa using hu
        cases hg : getG x.t.name (vE E) with
        | some v => exact rm_k3b t hE hL _ _ _ _ _ _ hu2 hK2 v hg
        | none => exact rm_k3c t hE hL _ _ _ _ _ _ hu2 hK2 hq hg
    rw [if_neg h3, if_neg h5, if_neg h10] at hpat
    rw [if_neg h3]
    by_cases h4 : kd = 4
    · subst h4
      rw [if_pos rfl]
      rw [if_pos rfl] at hpat
      have hpk := hpat
      have HP := HIT hpk
      cases hk : (t.t.kind == 6) with
      | false =>
        rw [if_neg (by intro h; rw [h.1] at hk; simp at hk)]
        exact rm_t4a t hE hL _ _ _ _ _ _ _ _ hk
      | true =>
        have hk := eq_of_beq hk
        by_cases hn : t.t.items.length = x.t.kids.length
        · rw [if_pos ⟨hk, hn⟩]
          exact rm_t4c t hE hL _ _ _ _ _ _ _ _ hk hn hR HP
        · rw [if_neg (fun h => hn h.2)]
          exact rm_t4b t hE hL _ _ _ _ _ _ _ _ hk hn
    rw [if_neg h4] at hpat ⊢
    by_cases h6 : kd = 6
    · subst h6
      rw [if_pos rfl]
      rw [if_pos rfl, Bool.and_eq_true] at hpat
      have hpk := hpat.2
      have HP := HIT hpk
      cases hk : (t.t.kind == 8) with
      | false =>
        rw [if_neg (by intro h; rw [h.1] at hk; simp at hk)]
        exact rm_t6a t hE hL _ _ _ _ _ _ _ _ hk
      | true =>
        have hk := eq_of_beq hk
        by_cases hn : t.t.items.length = x.t.kids.length
        · rw [if_pos ⟨hk, hn⟩]
          exact rm_t6c t hE hL _ _ _ _ _ _ _ _ hk hn hR HP
        · rw [if_neg (fun h => hn h.2)]
          exact rm_t6b t hE hL _ _ _ _ _ _ _ _ hk hn
    rw [if_neg h6] at hpat
    cases hpat
end
end Go.Proofs.YtmpknhdfglbocaaGreat
