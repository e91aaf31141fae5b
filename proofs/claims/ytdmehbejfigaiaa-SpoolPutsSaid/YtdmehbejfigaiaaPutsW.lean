/- The walk of the statement SpoolPuts. -/
import Derived.Test.YtdmehbejfigaiaaTexts
import Derived.Test.YtdmehbejfigaiaaRefG
import Derived.Test.YtdmehbejfigaiaaRefC
import Derived.Deep.RegionHeld3
import Derived.Test.YtdmehbejfigaiaaReg
namespace Go.Proofs.Ytdmehbejfigaiaa
open Go.RowKit
set_option linter.unusedVariables false

def Own8 (w0 W : World) (v : Value) (l : List UInt8) : Prop := W.ownsRow w0.heap.size 5 1 v l.length (l.map bv)
/-- Three rows of the call's own, apart from each other. -/
structure Three (w0 : World) (X Y Z : List UInt8) (vx vy vz : Value) (W : World) : Prop where
  x : Own8 w0 W vx X
  y : Own8 w0 W vy Y
  z : Own8 w0 W vz Z
  xy : ∀ k, vx.ownBlock = some k → vy.ownBlock ≠ some k
  xz : ∀ k, vx.ownBlock = some k → vz.ownBlock ≠ some k
  yz : ∀ k, vy.ownBlock = some k → vz.ownBlock ≠ some k
  bel : Below w0.heap.size w0 W
section
variable {w0 W W' : World} {X Y Z X' : List UInt8} {vx vy vz v' : Value}
theorem own_apart {u v v' : Value} {l : List UInt8} (h : Grow W W' v v') (hu : Own8 w0 W u l) (hne : ∀ k, v.ownBlock = some k → u.ownBlock ≠ some k) : ∀ k, v'.ownBlock = some k → u.ownBlock ≠ some k := by
  intro k hk e
  rcases h.own with h1 | ⟨g, h1, h2⟩
  · exact hne k (h1 ▸ hk) e
  · rw [h1] at hk
    injection hk with hk
    have := (World.ownsRow.lt hu k e).2
    omega
theorem ne_flip {u v : Value} (h : ∀ k, v.ownBlock = some k → u.ownBlock ≠ some k) : ∀ k, u.ownBlock = some k → v.ownBlock ≠ some k := fun k hk e => h k e hk
theorem Three.setx (h : Three w0 X Y Z vx vy vz W) (hg : Grow W W' vx v') (ho : Own8 w0 W' v' X') : Three w0 X' Y Z v' vy vz W' :=
  ⟨ho, hg.other h.y (ne_flip h.xy), hg.other h.z (ne_flip h.xz), own_apart hg h.y h.xy, own_apart hg h.z h.xz, h.yz, h.bel.trans (hg.below h.bel.size h.x)⟩
theorem Three.sety (h : Three w0 X Y Z vx vy vz W) (hg : Grow W W' vy v') (ho : Own8 w0 W' v' X') : Three w0 X X' Z vx v' vz W' :=
  ⟨hg.other h.x h.xy, ho, hg.other h.z (ne_flip h.yz), ne_flip (own_apart hg h.x (ne_flip h.xy)), h.xz, own_apart hg h.z h.yz, h.bel.trans (hg.below h.bel.size h.y)⟩
theorem Three.setz (h : Three w0 X Y Z vx vy vz W) (hg : Grow W W' vz v') (ho : Own8 w0 W' v' X') : Three w0 X Y X' vx vy v' W' :=
  ⟨hg.other h.x h.xz, hg.other h.y h.yz, ho, h.xy, ne_flip (own_apart hg h.x (ne_flip h.xz)), ne_flip (own_apart hg h.y (ne_flip h.yz)), h.bel.trans (hg.below h.bel.size h.z)⟩
theorem Three.keep (h : Three w0 X Y Z vx vy vz W) (hb : Below W.heap.size W W') : Three w0 X Y Z vx vy vz W' :=
  ⟨ownsRow_keep h.x hb, ownsRow_keep h.y hb, ownsRow_keep h.z hb, h.xy, h.xz, h.yz, below_step h.bel hb⟩
end

/-- append of bytes onto none, at the operation. -/
theorem wpList_copy0 {w W : World} {ops : Array Oper} {rest : List Oper} {o : Oper} {a : Act} {Q : Exit → Act → World → Prop} (hgd : o.guard = none) (s x : Operand)
    (ho : o.op = .call { callee := .builtin .append, args := #[s, x], argTypes := #[22, 22] }) (l : List UInt8) (A : Option Addr) (n c : Nat) (hb : Below w.heap.size w W) (hr : Rd w A l) (hl : l.length = n) (hn : n ≤ 20000)
    (hs : a.eval s = .slice (some ⟨W.heap.size, 0, none⟩) 0 0) (hx : a.eval x = .slice A n c)
    (h : ∀ v' w', Own8 w w' v' l → Below W.heap.size W w' → (∀ k, v'.ownBlock = some k → W.heap.size ≤ k) → wpList Try.prog ops Q rest (a.put o.dst v') w') :
    wpList Try.prog ops Q (o :: rest) a (W.alloc (.cells #[] 5)) := by
  have H0 : (W.alloc (.cells #[] 5)).ownsRow w.heap.size 5 1 (.slice (some ⟨W.heap.size, 0, none⟩) 0 0) 0 [] :=
    ⟨rfl, .inr ⟨W.heap.size, 0, #[], rfl, hb.size, heap_alloc_new _ _, Nat.le_refl _, Nat.zero_le _, rfl, rfl⟩⟩
  have H1 : Cs (W.alloc (.cells #[] 5)) A (l.map bv) := (hr.below (below_step hb (below_alloc _ _))).cs
  subst hl
  refine wpList_app bytesT hgd s x ho w.heap.size _ 0 [] hs H0 A l.length c (l.map bv) hx (by simp) H1 (bvs_one l) (by unfold maxLen; omega) (by omega) (by have := hb.size; simp; omega) ?_
  intro v' w' h1 h2 h3
  rw [Nat.zero_add, List.nil_append] at h1
  refine h v' w' h1 ((below_alloc W _).grown h2 (by simp) (fun k hk => Nat.le_of_eq (by simpa [Value.ownBlock] using hk))) (fun k hk => ?_)
  rcases h3 with h3 | h3
  · rw [h3] at hk
    have e : W.heap.size = k := by simpa [Value.ownBlock] using hk
    omega
  · rw [h3] at hk
    have e : W.heap.size + 1 = k := by simpa using hk
    omega

theorem rdl_pair {W : World} {g : Nat} {B C : Option Addr} {l m : List UInt8} {n c n' c' t : Nat} (hP : W.heap[g]? = some (.cells #[.slice B n c, .slice C n' c'] t (0, 0))) (h : Rd W B l) (hl : l.length = n) (h' : Rd W C m) (hm : m.length = n') : RdL W (some ⟨g, 0, none⟩) [l, m] := by
  refine .inr ⟨g, 0, rfl, fun j hj => ?_⟩
  subst hl hm
  rcases j with _ | _ | j
  · exact ⟨B, c, Blk.cell (t := t) hP 0, h⟩
  · exact ⟨C, c', Blk.cell (t := t) hP 1, h'⟩
  · simp at hj; omega

set_option maxRecDepth 100000 in
set_option maxHeartbeats 12000000 in
theorem puts_in (A A0 A1 A2 : Option Addr) (n c n0 c0 n1 c1 n2 c2 : Nat) (b : List UInt8) (ns : List Nat) (zs : List Int) (ss : List (List UInt8)) (w : World)
    (hbl : b.length = n) (hrb : Rd w A b) (hn : ¬ 20000 < n)
    (h0 : ns.length = n0) (h1 : zs.length = n1) (h2 : ss.length = n2) (hr0 : RdK .u64 w A0 (ns.map (fun (x : Nat) => (x : Int)))) (hr1 : RdK .i64 w A1 zs) (hr2 : RdT w A2 ss)
    (hb0 : ∀ x ∈ ns, x < 18446744073709551616) (hb1 : ∀ x ∈ zs, -9223372036854775808 ≤ x ∧ x ≤ 9223372036854775807) (hm0 : ¬ 60 < n0) (hm1 : ¬ 60 < n1) (hm2 : n2 ≤ 60) (hm3 : textSum ss ≤ 20000) (ho : ∀ s ∈ ss, s.length ≤ 140737488351232) :
    Calls Try.prog 5 #[.slice A n c, .slice A0 n0 c0, .slice A1 n1 c1, .slice A2 n2 c2] w (Yes w) := by
  have HT := Lib.hid (texts_any A2 ss n2 c2 w h2 (by omega) hr2 ho)
  rw [show textsB ss = true by unfold textsB; rw [h2]; simp; omega] at HT
  have HBL := Lib.hid hbl
  have hn' : n ≤ 20000 := by omega
  have HH0 := Lib.hid h0
  have HH1 := Lib.hid h1
  have HH2 := Lib.hid h2
  have HB0 := Lib.hid hb0
  have HB1 := Lib.hid hb1
  have HM3 := Lib.hid hm3
  clear h0 h1 h2 hb0 hb1 ho hbl hm3
  go_enter Try.func5, Try.ntmps5
  go_upto_region 4 with (first
    | (go_at_call 20; refine HT.out.mono ?_; rintro e w' ⟨rfl, rfl⟩)
    | (at_builtin; refine wpList_copy0 rfl (.tmp 34) (.tmp 35) rfl b A n c (Below.refl _ _) hrb HBL.out hn' rfl rfl ?_; intro vx w1 hx1 hbx1 hox1)
    | (at_builtin; refine wpList_copy0 rfl (.tmp 37) (.tmp 38) rfl b A n c hbx1 hrb HBL.out hn' rfl rfl ?_; intro vy w2 hy2 hby2 hoy2; have hbw2 := below_step hbx1 hby2)
    | (at_builtin; refine wpList_copy0 rfl (.tmp 40) (.tmp 41) rfl b A n c hbw2 hrb HBL.out hn' rfl rfl ?_; intro vz w3 hz3 hbz3 hoz3))
  have hT3 : Three w b b b vx vy vz w3 := ⟨ownsRow_keep (ownsRow_keep hx1 hby2) hbz3, ownsRow_keep hy2 hbz3, hz3,
    fun k hk e => by have := (World.ownsRow.lt hx1 k hk).2; have := hoy2 k e; omega, fun k hk e => by have := (World.ownsRow.lt (ownsRow_keep hx1 hby2) k hk).2; have := hoz3 k e; omega, fun k hk e => by have := (World.ownsRow.lt hy2 k hk).2; have := hoz3 k e; omega, below_step hbw2 hbz3⟩
  clear hx1 hy2 hz3 hbx1 hby2 hbz3 hox1 hoy2 hoz3 hbw2 HT
  go_wp2
  go_loopw [9, 12] (fun v i wr => ∃ k : Nat, k ≤ n0 ∧ i = .int .i64 k ∧ Three w (b ++ laidL (ns.take k)) b b v vy vz wr) (fun _ i _ => n0 - (intOf i).toNat)
  case atStart => exact ⟨0, Nat.zero_le _, rfl, by simpa [laidL] using hT3⟩
  case round =>
    obtain ⟨k, hk, rfl, hT⟩ := hrel
    clear hT3
    by_cases hlt : k < n0
    · have hd1 : decide ((k : Int) < n0) = true := by simp; omega
      have hkl : k < ns.length := by rw [HH0.out]; exact hlt
      have hat := hr0.at_ (show k < (ns.map (fun (x : Nat) => (x : Int))).length by rw [List.length_map]; exact hkl)
      rw [List.getElem_map] at hat
      obtain ⟨b', off, rfl, hcell⟩ := hat
      have hcw := (hT.bel.cell (World.block_lt_of_cell? w _ hcell)).trans hcell
      have hln := laidL_len (ns.take k)
      rw [List.length_take] at hln
      have HC := Lib.hid (rUint_own u9 _ ns[k] wr w.heap.size hT.x hT.bel.size (HB0.out _ (List.getElem_mem hkl)) (by rw [List.length_append, HBL.out]; omega))
      have HE := Lib.hid (show b ++ laidL (ns.take k) ++ laidB ns[k] 0 = b ++ laidL (ns.take (k + 1)) by rw [List.take_succ_eq_append_getElem hkl, laidL_snoc, List.append_assoc])
      rw [HE.out] at HC
      generalize ns[k] = x at *
      clear hcell hkl hln
      go_wp2_with (go_at_call 21; refine HC.out.mono ?_; rintro e w5 ⟨v5, rfl, ho5, hg5⟩)
      have hT5 := hT.setx hg5 ho5
      clear ho5 hg5 hT
      go_roundw
      case rel => exact ⟨k + 1, by omega, by go_num, hT5⟩
      case measure => simp [intOf]; omega
    · obtain rfl : n0 = k := by omega
      have hd1 : decide ((n0 : Int) < n0) = false := by simp
      rw [List.take_of_length_le (by rw [HH0.out]; exact Nat.le_refl _)] at hT
      clear hlt
      obtain ⟨vx, hvx⟩ : ∃ vx, vx = u9 := ⟨_, rfl⟩
      rw [← hvx] at hT ⊢
      go_wp2
      go_loopw [10, 13] (fun v i wr => ∃ k : Nat, k ≤ n1 ∧ i = .int .i64 k ∧ Three w (b ++ laidL ns) (b ++ laidIs (zs.take k)) b vx v vz wr) (fun _ i _ => n1 - (intOf i).toNat)
      case atStart => exact ⟨0, Nat.zero_le _, rfl, by simpa [laidIs] using hT⟩
      case round =>
        clear hT hvx
        obtain ⟨k, hk, rfl, hT⟩ := hrel
        by_cases hlt : k < n1
        · have hd1 : decide ((k : Int) < n1) = true := by simp; omega
          have hkl : k < zs.length := by rw [HH1.out]; exact hlt
          obtain ⟨b', off, rfl, hcell⟩ := hr1.at_ hkl
          have hcw := (hT.bel.cell (World.block_lt_of_cell? w _ hcell)).trans hcell
          have hln := laidIs_len (zs.take k)
          rw [List.length_take] at hln
          have hx := HB1.out _ (List.getElem_mem hkl)
          have HC := Lib.hid (rInt_own u10 _ zs[k] wr w.heap.size hT.y hT.bel.size hx.1 hx.2 (by rw [List.length_append, HBL.out]; omega))
          have HE := Lib.hid (show b ++ laidIs (zs.take k) ++ laidI zs[k] = b ++ laidIs (zs.take (k + 1)) by rw [List.take_succ_eq_append_getElem hkl, laidIs_snoc, List.append_assoc])
          rw [HE.out] at HC
          generalize zs[k] = x at *
          clear hcell hkl hln hx
          go_wp2_with (go_at_call 22; refine HC.out.mono ?_; rintro e w5 ⟨v5, rfl, ho5, hg5⟩)
          have hT5 := hT.sety hg5 ho5
          clear ho5 hg5 hT
          go_roundw
          case rel => exact ⟨k + 1, by omega, by go_num, hT5⟩
          case measure => simp [intOf]; omega
        · obtain rfl : n1 = k := by omega
          have hd1 : decide ((n1 : Int) < n1) = false := by simp
          rw [List.take_of_length_le (by rw [HH1.out]; exact Nat.le_refl _)] at hT
          clear hlt
          obtain ⟨vy, hvy⟩ : ∃ vy, vy = u10 := ⟨_, rfl⟩
          rw [← hvy] at hT ⊢
          go_wp2
          go_loopw [11, 14] (fun v i wr => ∃ k : Nat, k ≤ n2 ∧ i = .int .i64 k ∧ Three w (b ++ laidL ns) (b ++ laidIs zs) (b ++ laidSs (ss.take k)) vx vy v wr) (fun _ i _ => n2 - (intOf i).toNat)
          case atStart => exact ⟨0, Nat.zero_le _, rfl, by simpa [laidSs] using hT⟩
          case round =>
            clear hT hvy
            obtain ⟨k, hk, rfl, hT⟩ := hrel
            by_cases hlt : k < n2
            · have hd1 : decide ((k : Int) < n2) = true := by simp; omega
              have hkl : k < ss.length := by rw [HH2.out]; exact hlt
              obtain ⟨b', off, rfl, hcell⟩ := hr2.at_ hkl
              have hcw := (hT.bel.cell (World.block_lt_of_cell? w _ hcell)).trans hcell
              have hln := laidSs_len (ss.take k)
              rw [List.length_take] at hln
              have hts := textSum_take ss k hkl
              have HC := Lib.hid (rText_own u11 _ ss[k] wr w.heap.size hT.z hT.bel.size (by rw [List.length_append, HBL.out]; have := HM3.out; omega))
              have HE := Lib.hid (show b ++ laidSs (ss.take k) ++ laidS ss[k] = b ++ laidSs (ss.take (k + 1)) by rw [List.take_succ_eq_append_getElem hkl, laidSs_snoc, List.append_assoc])
              rw [HE.out] at HC
              generalize (ByteArray.mk (ss[k]'hkl).toArray) = x at *
              clear hcell hln hts HE hkl
              go_wp2_with (go_at_call 23; refine HC.out.mono ?_; rintro e w5 ⟨v5, rfl, ho5, hg5⟩)
              have hT5 := hT.setz hg5 ho5
              clear ho5 hg5 hT
              go_roundw
              case rel => exact ⟨k + 1, by omega, by go_num, hT5⟩
              case measure => simp [intOf]; omega
            · obtain rfl : n2 = k := by omega
              have hd1 : decide ((n2 : Int) < n2) = false := by simp
              rw [List.take_of_length_le (by rw [HH2.out]; exact Nat.le_refl _)] at hT
              clear hlt
              obtain ⟨vz, hvz⟩ : ∃ vz, vz = u11 := ⟨_, rfl⟩
              rw [← hvz] at hT ⊢
              clear hvz
              obtain ⟨X, hX⟩ : ∃ X, b ++ laidL ns = X := ⟨_, rfl⟩
              obtain ⟨Y, hY⟩ : ∃ Y, b ++ laidIs zs = Y := ⟨_, rfl⟩
              obtain ⟨Z, hZ⟩ : ∃ Z, b ++ laidSs ss = Z := ⟨_, rfl⟩
              obtain ⟨mx, hmx⟩ : ∃ m, X.length = m := ⟨_, rfl⟩
              obtain ⟨my, hmy⟩ : ∃ m, Y.length = m := ⟨_, rfl⟩
              obtain ⟨mz, hmz⟩ : ∃ m, Z.length = m := ⟨_, rfl⟩
              have hlx : mx ≤ 30000 := by
                have := laidL_len ns
                rw [HH0.out] at this
                rw [← hmx, ← hX, List.length_append, HBL.out]; omega
              have hly : my ≤ 30000 := by
                have := laidIs_len zs
                rw [HH1.out] at this
                rw [← hmy, ← hY, List.length_append, HBL.out]; omega
              have hlz : mz ≤ 60000 := by
                have := laidSs_len ss
                rw [HH2.out] at this
                have := HM3.out
                rw [← hmz, ← hZ, List.length_append, HBL.out]; omega
              rw [hX, hY, hZ] at hT
              have HBW := Lib.hid hT.bel
              have hbw := hT.bel
              have hTx := hT.x
              have hTy := hT.y
              have hTz := hT.z
              unfold Own8 at hTx hTy hTz
              rw [hmx] at hTx
              rw [hmy] at hTy
              rw [hmz] at hTz
              obtain ⟨Ax, cx, rfl, hrxW, _, _⟩ := own_rd hTx
              obtain ⟨Ay, cy, rfl, hryW, _, _⟩ := own_rd hTy
              obtain ⟨Az, cz, rfl, hrzW, _, _⟩ := own_rd hTz
              have hrbW := hrb.below hbw
              have HNum : Hid (∀ A' c' (W : World), Sb wr W → Rd W A' b → n ≤ c' → c' ≤ 9223372036854775807 → Calls Try.prog 11 #[.slice A' n c', .slice A0 n0 c0] W fun e w' => ∃ A2 c2, e = .returned (.slice A2 mx c2) ∧ Rd w' A2 X ∧ Below W.heap.size W w') := by
                intro A' c' W hS hr hc1 hc2
                refine (num_lay A' A0 b ns n c' n0 c0 W HBL.out HH0.out hc1 hc2 hr (hr0.below (below_step hbw hS)) HB0.out (by omega)).mono ?_
                rintro e w' ⟨v, rfl, hga, hb⟩
                rw [hX] at hga
                obtain ⟨A2, c2, rfl, hr2, _⟩ := hga.rd
                rw [hmx]
                exact ⟨A2, c2, rfl, hr2, hb⟩
              have HInt : Hid (∀ A' c' (W : World), Sb wr W → Rd W A' b → n ≤ c' → c' ≤ 9223372036854775807 → Calls Try.prog 18 #[.slice A' n c', .slice A1 n1 c1] W fun e w' => ∃ A2 c2, e = .returned (.slice A2 my c2) ∧ Rd w' A2 Y ∧ Below W.heap.size W w') := by
                intro A' c' W hS hr hc1 hc2
                refine (int_lay A' A1 b zs n c' n1 c1 W HBL.out HH1.out hc1 hc2 hr (hr1.below (below_step hbw hS)) HB1.out (by omega)).mono ?_
                rintro e w' ⟨v, rfl, hga, hb⟩
                rw [hY] at hga
                obtain ⟨A2, c2, rfl, hr2, _⟩ := hga.rd
                rw [hmy]
                exact ⟨A2, c2, rfl, hr2, hb⟩
              have HStr : Hid (∀ A' c' (W : World), Sb wr W → Rd W A' b → n ≤ c' → c' ≤ 9223372036854775807 → Calls Try.prog 24 #[.slice A' n c', .slice A2 n2 c2] W fun e w' => ∃ A2 c2, e = .returned (.slice A2 mz c2) ∧ Rd w' A2 Z ∧ Below W.heap.size W w') := by
                intro A' c' W hS hr hc1 hc2
                refine (str_lay A' A2 b ss n c' n2 c2 W HBL.out HH2.out hc1 hc2 hr (hr2.below (below_step hbw hS)) (by have := HM3.out; omega)).mono ?_
                rintro e w' ⟨v, rfl, hga, hb⟩
                rw [hZ] at hga
                obtain ⟨A2, c2, rfl, hr2, _⟩ := hga.rd
                rw [hmz]
                exact ⟨A2, c2, rfl, hr2, hb⟩
              obtain ⟨sX, hsX⟩ : ∃ s : ByteArray, s = ⟨X.toArray⟩ := ⟨_, rfl⟩
              obtain ⟨sY, hsY⟩ : ∃ s : ByteArray, s = ⟨Y.toArray⟩ := ⟨_, rfl⟩
              obtain ⟨sZ, hsZ⟩ : ∃ s : ByteArray, s = ⟨Z.toArray⟩ := ⟨_, rfl⟩
              have HVX : Hid (∀ (W : World) A' c', Rd W A' X → (convert 22 9 (.slice A' mx c')).run Try.prog W = .ok (.string sX) W) := fun W A' c' h => by rw [hsX]; exact run_str (P := Try.prog) Try.underlying22 Try.underlying5 Try.underlying9 W A' mx c' X hmx h
              have HVY : Hid (∀ (W : World) A' c', Rd W A' Y → (convert 22 9 (.slice A' my c')).run Try.prog W = .ok (.string sY) W) := fun W A' c' h => by rw [hsY]; exact run_str (P := Try.prog) Try.underlying22 Try.underlying5 Try.underlying9 W A' my c' Y hmy h
              have HVZ : Hid (∀ (W : World) A' c', Rd W A' Z → (convert 22 9 (.slice A' mz c')).run Try.prog W = .ok (.string sZ) W) := fun W A' c' h => by rw [hsZ]; exact run_str (P := Try.prog) Try.underlying22 Try.underlying5 Try.underlying9 W A' mz c' Z hmz h
              have HCX := Lib.hid (fun W (hS : Sb wr W) => HVX.out W Ax cx (hrxW.below hS))
              have HCY := Lib.hid (fun W (hS : Sb wr W) => HVY.out W Ay cy (hryW.below hS))
              have HCZ := Lib.hid (fun W (hS : Sb wr W) => HVZ.out W Az cz (hrzW.below hS))
              obtain ⟨nx, hnx⟩ : ∃ nx, n + mx = nx := ⟨_, rfl⟩
              have HNX := Lib.hid hnx
              have hnx6 : nx ≤ 1000000 := by omega
              have hn6 : n ≤ 1000000 := by omega
              have HMX := Lib.hid hmx
              have hbXl : (b ++ X).length = nx := by rw [List.length_append, HBL.out, hmx, hnx]
              have HSum0 := fun (W : World) (g : Nat) (hS : Sb wr W) (hP : W.heap[g]? = some (.cells #[.slice A n c, .slice Ax mx cx] 22 (0, 0))) => sum_any (some ⟨g, 0, none⟩) [b, X] (b ++ X) 2 2 W (by simp) rfl (by omega) (by rw [hbXl]; omega) (rdl_pair hP (hrbW.below hS) HBL.out (hrxW.below hS) hmx)
              have HCrc0 := fun (A' : Option Addr) (c' : Nat) (W : World) (hr : Rd W A' (b ++ X)) => rcrc_any A' (b ++ X) nx c' W hbXl (by omega) hr
              obtain ⟨q, hq⟩ : ∃ q, crc (b ++ X) = q := ⟨_, rfl⟩
              rw [hq] at HSum0 HCrc0
              have HSum := Lib.hid HSum0
              have HCrc := Lib.hid HCrc0
              have hSd : Sb wr wr.drew := (Below.refl _ _).drew
              clear hT hTx hTy hTz hX hY hZ hmx hmy hmz hsX hsY hsZ hnx HSum0 HCrc0 hq hbXl hbw hr0 hr1 hr2 HB0 HB1 HM3 HH0 HH1 HH2
              go_upto_region 16 with (fail)
              refine wp_region_held_drew (S := Sb wr) (by kernel_rfl) hSd (fun _ => ?_)
              refine wpAnyH_world (fun W => Sb wr W) hSd ?_
              intro V0 hV0
              (refine wpAnyH_take (i := 1) (v := ?_) rfl (by kernel_rfl) (by kernel_rfl) (by kernel_rfl) (fun _ _ _ h => h) (Or.inl ⟨by kernel_rfl, ?_⟩) (by assumption) ?_; rotate_left; focus (intro _ _; go_simp; (try (with_reducible rfl)); done))
              go_frame
              (refine wpAnyH_take (i := 3) (v := ?_) rfl (by kernel_rfl) (by kernel_rfl) (by kernel_rfl) (fun _ _ _ h => h) (Or.inl ⟨by kernel_rfl, ?_⟩) (by assumption) ?_; rotate_left; focus (intro _ _; go_simp; (try (with_reducible rfl)); done))
              go_frame
              (refine wpAnyH_take (i := 6) (v := ?_) rfl (by kernel_rfl) (by kernel_rfl) (by kernel_rfl) (fun _ _ _ h => h) (Or.inl ⟨by kernel_rfl, ?_⟩) (by assumption) ?_; rotate_left; focus (intro _ _; go_simp; (try (with_reducible rfl)); done))
              go_frame
              (refine wpAnyH_take (i := 7) (v := ?_) rfl (by kernel_rfl) (by kernel_rfl) (by kernel_rfl) (fun _ _ _ h => h) (Or.inl ⟨by kernel_rfl, ?_⟩) (by assumption) ?_; rotate_left; focus (intro W hSW; have hq := HCX.out W hSW; go_simp; (try (with_reducible rfl)); done))
              go_frame
              refine wpAnyH_ready (rs := [0]) (by kernel_rfl) (by simp) ?_
              refine AllReadyH.cons rfl (fun K hK => ?_) AllReadyH.nil
              go_simp
              refine hK.out _ _ (hV0.alloc _) (fun _ => ?_)
              clear hK K
              refine wpAnyH_world (fun W => Sb wr W ∧ W.heap[V0.heap.size]? = some (.cells #[] 5 (0, 0))) ⟨hV0.alloc _, heap_alloc_new _ _⟩ ?_
              rintro V1 ⟨hV1, hG1⟩
              refine wpAnyH_ready (rs := [2]) (by kernel_rfl) (by simp) ?_
              refine AllReadyH.cons rfl (fun K hK => ?_) AllReadyH.nil
              refine step_copyB (w0 := wr) (by kernel_rfl) (.tmp 79) (.tmp 80) rfl b V0.heap.size n c A rfl rfl hG1 hV0.bel.size hV1 hrbW HBL.out hn6 ?_
              intro A102 c102 V2 ho2 hg2 _
              refine hK.out _ _ (hV1.grown hg2 (fun k hk => by injection hk with hk; have := hV0.bel.size; omega)) (fun hV2 => ?_)
              clear hK K
              go_frame
              obtain ⟨hr2, hca2, hcb2, _⟩ := own_cap ho2
              clear ho2 hg2 hG1
              refine wpAnyH_ready (rs := [4]) (by kernel_rfl) (by simp) ?_
              refine AllReadyH.cons rfl (fun K hK => ?_) AllReadyH.nil
              go_simp
              go_wp2_with (go_at_call 11; refine (HNum.out _ _ _ hV2 hr2 hca2 hcb2).mono ?_; rintro e V3 ⟨A103, c103, rfl, hr3, hb3⟩)
              refine hK.out _ _ (hV2.step hb3) (fun hV3 => ?_)
              clear hK K
              have hcv3 := HVX.out V3 A103 c103 hr3
              refine wpAnyH_ready (rs := [5]) (by kernel_rfl) (by simp) ?_
              refine AllReadyH.cons rfl (fun K hK => ?_) AllReadyH.nil
              go_simp
              refine hK.out _ _ hV3 (fun _ => ?_)
              clear hK K hcv3 hr3 hb3
              (refine wpAnyH_take (i := 8) (v := ?_) rfl (by kernel_rfl) (by kernel_rfl) (by kernel_rfl) (fun _ _ _ h => h) (Or.inl ⟨by kernel_rfl, ?_⟩) (by assumption) ?_; rotate_left; focus (intro _ _; go_simp; (try (with_reducible rfl)); done))
              go_frame
              (refine wpAnyH_take (i := 9) (v := ?_) rfl (by kernel_rfl) (by kernel_rfl) (by kernel_rfl) (fun _ _ _ h => h) (Or.inl ⟨by kernel_rfl, ?_⟩) (by assumption) ?_; rotate_left; focus (intro _ _; go_simp; (try (with_reducible rfl)); done))
              go_frame
              (refine wpAnyH_take (i := 11) (v := ?_) rfl (by kernel_rfl) (by kernel_rfl) (by kernel_rfl) (fun _ _ _ h => h) (Or.inl ⟨by kernel_rfl, ?_⟩) (by assumption) ?_; rotate_left; focus (intro _ _; go_simp; (try (with_reducible rfl)); done))
              go_frame
              (refine wpAnyH_take (i := 13) (v := ?_) rfl (by kernel_rfl) (by kernel_rfl) (by kernel_rfl) (fun _ _ _ h => h) (Or.inl ⟨by kernel_rfl, ?_⟩) (by assumption) ?_; rotate_left; focus (intro _ _; go_simp; (try (with_reducible rfl)); done))
              go_frame
              (refine wpAnyH_take (i := 16) (v := ?_) rfl (by kernel_rfl) (by kernel_rfl) (by kernel_rfl) (fun _ _ _ h => h) (Or.inl ⟨by kernel_rfl, ?_⟩) (by assumption) ?_; rotate_left; focus (intro _ _; go_simp; (try (with_reducible rfl)); done))
              go_frame
              (refine wpAnyH_take (i := 17) (v := ?_) rfl (by kernel_rfl) (by kernel_rfl) (by kernel_rfl) (fun _ _ _ h => h) (Or.inl ⟨by kernel_rfl, ?_⟩) (by assumption) ?_; rotate_left; focus (intro W hSW; have hq := HCY.out W hSW; go_simp; (try (with_reducible rfl)); done))
              go_frame
              refine wpAnyH_ready (rs := [10]) (by kernel_rfl) (by simp) ?_
              refine AllReadyH.cons rfl (fun K hK => ?_) AllReadyH.nil
              go_simp
              refine hK.out _ _ (hV3.alloc _) (fun _ => ?_)
              clear hK K
              refine wpAnyH_world (fun W => Sb wr W ∧ W.heap[V3.heap.size]? = some (.cells #[] 5 (0, 0))) ⟨hV3.alloc _, heap_alloc_new _ _⟩ ?_
              rintro V4 ⟨hV4, hG4⟩
              refine wpAnyH_ready (rs := [12]) (by kernel_rfl) (by simp) ?_
              refine AllReadyH.cons rfl (fun K hK => ?_) AllReadyH.nil
              refine step_copyB (w0 := wr) (by kernel_rfl) (.tmp 89) (.tmp 90) rfl b V3.heap.size n c A rfl rfl hG4 hV3.bel.size hV4 hrbW HBL.out hn6 ?_
              intro A105 c105 V5 ho5 hg5 _
              refine hK.out _ _ (hV4.grown hg5 (fun k hk => by injection hk with hk; have := hV3.bel.size; omega)) (fun hV5 => ?_)
              clear hK K
              go_frame
              obtain ⟨hr5, hca5, hcb5, _⟩ := own_cap ho5
              clear ho5 hg5 hG4
              refine wpAnyH_ready (rs := [14]) (by kernel_rfl) (by simp) ?_
              refine AllReadyH.cons rfl (fun K hK => ?_) AllReadyH.nil
              go_simp
              go_wp2_with (go_at_call 18; refine (HInt.out _ _ _ hV5 hr5 hca5 hcb5).mono ?_; rintro e V6 ⟨A106, c106, rfl, hr6, hb6⟩)
              refine hK.out _ _ (hV5.step hb6) (fun hV6 => ?_)
              clear hK K
              have hcv6 := HVY.out V6 A106 c106 hr6
              refine wpAnyH_ready (rs := [15]) (by kernel_rfl) (by simp) ?_
              refine AllReadyH.cons rfl (fun K hK => ?_) AllReadyH.nil
              go_simp
              refine hK.out _ _ hV6 (fun _ => ?_)
              clear hK K hcv6 hr6 hb6
              (refine wpAnyH_take (i := 18) (v := ?_) rfl (by kernel_rfl) (by kernel_rfl) (by kernel_rfl) (fun _ _ _ h => h) (Or.inl ⟨by kernel_rfl, ?_⟩) (by assumption) ?_; rotate_left; focus (intro _ _; go_simp; (try (with_reducible rfl)); done))
              go_frame
              (refine wpAnyH_take (i := 19) (v := ?_) rfl (by kernel_rfl) (by kernel_rfl) (by kernel_rfl) (fun _ _ _ h => h) (Or.inl ⟨by kernel_rfl, ?_⟩) (by assumption) ?_; rotate_left; focus (intro _ _; go_simp; (try (with_reducible rfl)); done))
              go_frame
              (refine wpAnyH_take (i := 20) (v := ?_) rfl (by kernel_rfl) (by kernel_rfl) (by kernel_rfl) (fun _ _ _ h => h) (Or.inl ⟨by kernel_rfl, ?_⟩) (by assumption) ?_; rotate_left; focus (intro _ _; go_simp; (try (with_reducible rfl)); done))
              go_frame
              (refine wpAnyH_take (i := 22) (v := ?_) rfl (by kernel_rfl) (by kernel_rfl) (by kernel_rfl) (fun _ _ _ h => h) (Or.inl ⟨by kernel_rfl, ?_⟩) (by assumption) ?_; rotate_left; focus (intro _ _; go_simp; (try (with_reducible rfl)); done))
              go_frame
              (refine wpAnyH_take (i := 24) (v := ?_) rfl (by kernel_rfl) (by kernel_rfl) (by kernel_rfl) (fun _ _ _ h => h) (Or.inl ⟨by kernel_rfl, ?_⟩) (by assumption) ?_; rotate_left; focus (intro _ _; go_simp; (try (with_reducible rfl)); done))
              go_frame
              (refine wpAnyH_take (i := 27) (v := ?_) rfl (by kernel_rfl) (by kernel_rfl) (by kernel_rfl) (fun _ _ _ h => h) (Or.inl ⟨by kernel_rfl, ?_⟩) (by assumption) ?_; rotate_left; focus (intro _ _; go_simp; (try (with_reducible rfl)); done))
              go_frame
              (refine wpAnyH_take (i := 28) (v := ?_) rfl (by kernel_rfl) (by kernel_rfl) (by kernel_rfl) (fun _ _ _ h => h) (Or.inl ⟨by kernel_rfl, ?_⟩) (by assumption) ?_; rotate_left; focus (intro W hSW; have hq := HCZ.out W hSW; go_simp; (try (with_reducible rfl)); done))
              go_frame
              refine wpAnyH_ready (rs := [21]) (by kernel_rfl) (by simp) ?_
              refine AllReadyH.cons rfl (fun K hK => ?_) AllReadyH.nil
              go_simp
              refine hK.out _ _ (hV6.alloc _) (fun _ => ?_)
              clear hK K
              refine wpAnyH_world (fun W => Sb wr W ∧ W.heap[V6.heap.size]? = some (.cells #[] 5 (0, 0))) ⟨hV6.alloc _, heap_alloc_new _ _⟩ ?_
              rintro V7 ⟨hV7, hG7⟩
              refine wpAnyH_ready (rs := [23]) (by kernel_rfl) (by simp) ?_
              refine AllReadyH.cons rfl (fun K hK => ?_) AllReadyH.nil
              refine step_copyB (w0 := wr) (by kernel_rfl) (.tmp 100) (.tmp 101) rfl b V6.heap.size n c A rfl rfl hG7 hV6.bel.size hV7 hrbW HBL.out hn6 ?_
              intro A108 c108 V8 ho8 hg8 _
              refine hK.out _ _ (hV7.grown hg8 (fun k hk => by injection hk with hk; have := hV6.bel.size; omega)) (fun hV8 => ?_)
              clear hK K
              go_frame
              obtain ⟨hr8, hca8, hcb8, _⟩ := own_cap ho8
              clear ho8 hg8 hG7
              refine wpAnyH_ready (rs := [25]) (by kernel_rfl) (by simp) ?_
              refine AllReadyH.cons rfl (fun K hK => ?_) AllReadyH.nil
              go_simp
              go_wp2_with (go_at_call 24; refine (HStr.out _ _ _ hV8 hr8 hca8 hcb8).mono ?_; rintro e V9 ⟨A109, c109, rfl, hr9, hb9⟩)
              refine hK.out _ _ (hV8.step hb9) (fun hV9 => ?_)
              clear hK K
              have hcv9 := HVZ.out V9 A109 c109 hr9
              refine wpAnyH_ready (rs := [26]) (by kernel_rfl) (by simp) ?_
              refine AllReadyH.cons rfl (fun K hK => ?_) AllReadyH.nil
              go_simp
              refine hK.out _ _ hV9 (fun _ => ?_)
              clear hK K hcv9 hr9 hb9
              (refine wpAnyH_take (i := 29) (v := ?_) rfl (by kernel_rfl) (by kernel_rfl) (by kernel_rfl) (fun _ _ _ h => h) (Or.inl ⟨by kernel_rfl, ?_⟩) (by assumption) ?_; rotate_left; focus (intro _ _; go_simp; (try (with_reducible rfl)); done))
              go_frame
              (refine wpAnyH_take (i := 30) (v := ?_) rfl (by kernel_rfl) (by kernel_rfl) (by kernel_rfl) (fun _ _ _ h => h) (Or.inl ⟨by kernel_rfl, ?_⟩) (by assumption) ?_; rotate_left; focus (intro _ _; go_simp; (try (with_reducible rfl)); done))
              go_frame
              (refine wpAnyH_take (i := 31) (v := ?_) rfl (by kernel_rfl) (by kernel_rfl) (by kernel_rfl) (fun _ _ _ h => h) (Or.inl ⟨by kernel_rfl, ?_⟩) (by assumption) ?_; rotate_left; focus (intro _ _; go_simp; (try (with_reducible rfl)); done))
              go_frame
              (refine wpAnyH_take (i := 32) (v := ?_) rfl (by kernel_rfl) (by kernel_rfl) (by kernel_rfl) (fun _ _ _ h => h) (Or.inl ⟨by kernel_rfl, ?_⟩) (by assumption) ?_; rotate_left; focus (intro _ _; go_simp; (try (with_reducible rfl)); done))
              go_frame
              (refine wpAnyH_take (i := 33) (v := ?_) rfl (by kernel_rfl) (by kernel_rfl) (by kernel_rfl) (fun _ _ _ h => h) (Or.inl ⟨by kernel_rfl, ?_⟩) (by assumption) ?_; rotate_left; focus (intro _ _; go_simp; (try (with_reducible rfl)); done))
              go_frame
              (refine wpAnyH_take (i := 37) (v := ?_) rfl (by kernel_rfl) (by kernel_rfl) (by kernel_rfl) (fun _ _ _ h => h) (Or.inl ⟨by kernel_rfl, ?_⟩) (by assumption) ?_; rotate_left; focus (intro _ _; go_simp; (try (with_reducible rfl)); done))
              go_frame
              (refine wpAnyH_take (i := 39) (v := ?_) rfl (by kernel_rfl) (by kernel_rfl) (by kernel_rfl) (fun _ _ _ h => h) (Or.inl ⟨by kernel_rfl, ?_⟩) (by assumption) ?_; rotate_left; focus (intro _ _; go_simp; (try (with_reducible rfl)); done))
              go_frame
              refine wpAnyH_ready (rs := [34, 36]) (by kernel_rfl) (by simp) ?_
              refine AllReadyH.cons rfl (fun K hK => ?_) (AllReadyH.cons rfl (fun K hK => ?_) AllReadyH.nil)
              · skip
                go_simp
                refine hK.out _ _ (hV9.alloc _) (fun _ => ?_)
                clear hK K
                refine wpAnyH_world (fun W => Sb wr W ∧ W.heap[V9.heap.size]? = some (.cells #[.slice A n c, .slice Ax mx cx] 22 (0, 0))) ⟨hV9.alloc _, heap_alloc_new _ _⟩ ?_
                rintro V10 ⟨hV10, hP10⟩
                refine wpAnyH_ready (rs := [35, 36]) (by kernel_rfl) (by simp) ?_
                refine AllReadyH.cons rfl (fun K hK => ?_) (AllReadyH.cons rfl (fun K hK => ?_) AllReadyH.nil)
                · skip
                  go_simp
                  go_wp2_with (go_at_call 19; refine (HSum.out _ _ hV10 hP10).mono ?_; rintro e V11 ⟨rfl, hb11⟩)
                  refine hK.out _ _ (hV10.step hb11) (fun hV11 => ?_)
                  clear hK K hb11
                  refine wpAnyH_ready (rs := [36]) (by kernel_rfl) (by simp) ?_
                  refine AllReadyH.cons rfl (fun K hK => ?_) AllReadyH.nil
                  go_simp
                  refine hK.out _ _ (hV11.alloc _) (fun _ => ?_)
                  clear hK K
                  refine wpAnyH_world (fun W => Sb wr W ∧ W.heap[V11.heap.size]? = some (.cells #[] 5 (0, 0))) ⟨hV11.alloc _, heap_alloc_new _ _⟩ ?_
                  rintro V12 ⟨hV12, hR12⟩
                  refine wpAnyH_ready (rs := [38]) (by kernel_rfl) (by simp) ?_
                  refine AllReadyH.cons rfl (fun K hK => ?_) AllReadyH.nil
                  refine step_copyB (w0 := wr) (by kernel_rfl) (.tmp 115) (.tmp 116) rfl b V11.heap.size n c A rfl rfl hR12 hV11.bel.size hV12 hrbW HBL.out hn6 ?_
                  intro A113 c113 V13 ho13 hg13 hn13
                  refine hK.out _ _ (hV12.grown hg13 (fun k hk => by injection hk with hk; have := hV11.bel.size; omega)) (fun hV13 => ?_)
                  clear hK K hg13 hn13
                  go_frame
                  refine wpAnyH_ready (rs := [40]) (by kernel_rfl) (by simp) ?_
                  refine AllReadyH.cons rfl (fun K hK => ?_) AllReadyH.nil
                  refine step_appB (w0 := wr) (by kernel_rfl) (.tmp 117) (.tmp 118) rfl (Value.slice A113 n c113) b X n mx nx cx Ax rfl rfl ho13 hV13 hrxW HMX.out HNX.out hnx6 ?_
                  intro A114 c114 V14 ho14 hg14 hn14
                  refine hK.out _ _ (hV13.grown hg14 (fun k hk => (World.ownsRow.lt ho13 k hk).1)) (fun hV14 => ?_)
                  clear hK K hg14 hn14
                  go_frame
                  refine wpAnyH_ready (rs := [41]) (by kernel_rfl) (by simp) ?_
                  refine AllReadyH.cons rfl (fun K hK => ?_) AllReadyH.nil
                  go_simp
                  go_wp2_with (go_at_call 25; refine (HCrc.out _ _ _ (own_cap ho14).1).mono ?_; rintro e W' ⟨rfl, rfl⟩)
                  refine hK.out _ _ hV14 (fun _ => ?_)
                  clear hK K
                  (refine wpAnyH_take (i := 42) (v := ?_) rfl (by kernel_rfl) (by kernel_rfl) (by kernel_rfl) (fun _ _ _ h => h) (Or.inl ⟨by kernel_rfl, ?_⟩) (by assumption) ?_; rotate_left; focus (intro _ _; go_simp; (try (with_reducible rfl)); done))
                  go_frame
                  (refine wpAnyH_take (i := 43) (v := ?_) rfl (by kernel_rfl) (by kernel_rfl) (by kernel_rfl) (fun _ _ _ h => h) (Or.inl ⟨by kernel_rfl, ?_⟩) (by assumption) ?_; rotate_left; focus (intro _ _; go_simp; (try (with_reducible rfl)); done))
                  go_frame
                  (refine wpAnyH_take (i := 44) (v := ?_) rfl (by kernel_rfl) (by kernel_rfl) (by kernel_rfl) (fun _ _ _ h => h) (Or.inl ⟨by kernel_rfl, ?_⟩) (by assumption) ?_; rotate_left; focus (intro _ _; go_simp; (try (with_reducible rfl)); done))
                  go_frame
                  refine wpAnyH_ready (rs := [45]) (by kernel_rfl) (by simp) ?_
                  refine AllReadyH.cons rfl (fun K hK => ?_) AllReadyH.nil
                  go_simp
                  go_wp2_with (go_at_call 10; refine (live_any _).mono ?_; rintro e V15 ⟨rfl, hl15⟩)
                  refine hK.out _ _ (hV14.step hl15) (fun hV15 => ?_)
                  clear hK K
                  refine wpAnyH_ready (rs := [46]) (by kernel_rfl) (by simp) ?_
                  refine AllReadyH.cons rfl (fun K hK => ?_) AllReadyH.nil
                  go_simp
                  refine hK.out _ _ hV15 (fun _ => ?_)
                  clear hK K
                  refine wpAnyH_ready (rs := [47]) (by kernel_rfl) (by simp) ?_
                  refine AllReadyH.cons rfl (fun K hK => ?_) AllReadyH.nil
                  go_simp
                  refine hK.out _ _ hV15 (fun _ => ?_)
                  clear hK K
                  refine wpAnyH_done (by kernel_rfl) ?_ _
                  go_wp2
                  go_ret
                  exact ⟨rfl, below_step (below_step HBW.out hV14) hl15⟩
                · skip
                  go_simp
                  have hne16 : V9.heap.size ≠ V10.heap.size := by have := heap_lt hP10; omega
                  refine hK.out _ _ (hV10.alloc _) (fun _ => ?_)
                  clear hK K
                  refine wpAnyH_world (fun W => Sb wr W ∧ W.heap[V10.heap.size]? = some (.cells #[] 5 (0, 0)) ∧ W.heap[V9.heap.size]? = some (.cells #[.slice A n c, .slice Ax mx cx] 22 (0, 0))) ⟨hV10.alloc _, heap_alloc_new _ _, heap_alloc_keep hP10 _⟩ ?_
                  rintro V16 ⟨hV16, hR16, hP16⟩
                  refine wpAnyH_ready (rs := [35]) (by kernel_rfl) (by simp) ?_
                  refine AllReadyH.cons rfl (fun K hK => ?_) AllReadyH.nil
                  go_simp
                  go_wp2_with (go_at_call 19; refine (HSum.out _ _ hV16 hP16).mono ?_; rintro e V17 ⟨rfl, hb17⟩)
                  have hR17 := heap_below_keep hR16 hb17
                  refine hK.out _ _ (hV16.step hb17) (fun hV17 => ?_)
                  clear hK K hb17
                  refine wpAnyH_ready (rs := [38]) (by kernel_rfl) (by simp) ?_
                  refine AllReadyH.cons rfl (fun K hK => ?_) AllReadyH.nil
                  refine step_copyB (w0 := wr) (by kernel_rfl) (.tmp 115) (.tmp 116) rfl b V10.heap.size n c A rfl rfl hR17 hV10.bel.size hV17 hrbW HBL.out hn6 ?_
                  intro A118 c118 V18 ho18 hg18 hn18
                  refine hK.out _ _ (hV17.grown hg18 (fun k hk => by injection hk with hk; have := hV10.bel.size; omega)) (fun hV18 => ?_)
                  clear hK K hg18 hn18
                  go_frame
                  refine wpAnyH_ready (rs := [40]) (by kernel_rfl) (by simp) ?_
                  refine AllReadyH.cons rfl (fun K hK => ?_) AllReadyH.nil
                  refine step_appB (w0 := wr) (by kernel_rfl) (.tmp 117) (.tmp 118) rfl (Value.slice A118 n c118) b X n mx nx cx Ax rfl rfl ho18 hV18 hrxW HMX.out HNX.out hnx6 ?_
                  intro A119 c119 V19 ho19 hg19 hn19
                  refine hK.out _ _ (hV18.grown hg19 (fun k hk => (World.ownsRow.lt ho18 k hk).1)) (fun hV19 => ?_)
                  clear hK K hg19 hn19
                  go_frame
                  refine wpAnyH_ready (rs := [41]) (by kernel_rfl) (by simp) ?_
                  refine AllReadyH.cons rfl (fun K hK => ?_) AllReadyH.nil
                  go_simp
                  go_wp2_with (go_at_call 25; refine (HCrc.out _ _ _ (own_cap ho19).1).mono ?_; rintro e W' ⟨rfl, rfl⟩)
                  refine hK.out _ _ hV19 (fun _ => ?_)
                  clear hK K
                  (refine wpAnyH_take (i := 42) (v := ?_) rfl (by kernel_rfl) (by kernel_rfl) (by kernel_rfl) (fun _ _ _ h => h) (Or.inl ⟨by kernel_rfl, ?_⟩) (by assumption) ?_; rotate_left; focus (intro _ _; go_simp; (try (with_reducible rfl)); done))
                  go_frame
                  (refine wpAnyH_take (i := 43) (v := ?_) rfl (by kernel_rfl) (by kernel_rfl) (by kernel_rfl) (fun _ _ _ h => h) (Or.inl ⟨by kernel_rfl, ?_⟩) (by assumption) ?_; rotate_left; focus (intro _ _; go_simp; (try (with_reducible rfl)); done))
                  go_frame
                  (refine wpAnyH_take (i := 44) (v := ?_) rfl (by kernel_rfl) (by kernel_rfl) (by kernel_rfl) (fun _ _ _ h => h) (Or.inl ⟨by kernel_rfl, ?_⟩) (by assumption) ?_; rotate_left; focus (intro _ _; go_simp; (try (with_reducible rfl)); done))
                  go_frame
                  refine wpAnyH_ready (rs := [45]) (by kernel_rfl) (by simp) ?_
                  refine AllReadyH.cons rfl (fun K hK => ?_) AllReadyH.nil
                  go_simp
                  go_wp2_with (go_at_call 10; refine (live_any _).mono ?_; rintro e V20 ⟨rfl, hl20⟩)
                  refine hK.out _ _ (hV19.step hl20) (fun hV20 => ?_)
                  clear hK K
                  refine wpAnyH_ready (rs := [46]) (by kernel_rfl) (by simp) ?_
                  refine AllReadyH.cons rfl (fun K hK => ?_) AllReadyH.nil
                  go_simp
                  refine hK.out _ _ hV20 (fun _ => ?_)
                  clear hK K
                  refine wpAnyH_ready (rs := [47]) (by kernel_rfl) (by simp) ?_
                  refine AllReadyH.cons rfl (fun K hK => ?_) AllReadyH.nil
                  go_simp
                  refine hK.out _ _ hV20 (fun _ => ?_)
                  clear hK K
                  refine wpAnyH_done (by kernel_rfl) ?_ _
                  go_wp2
                  go_ret
                  exact ⟨rfl, below_step (below_step HBW.out hV19) hl20⟩
              · skip
                go_simp
                refine hK.out _ _ (hV9.alloc _) (fun _ => ?_)
                clear hK K
                refine wpAnyH_world (fun W => Sb wr W ∧ W.heap[V9.heap.size]? = some (.cells #[] 5 (0, 0))) ⟨hV9.alloc _, heap_alloc_new _ _⟩ ?_
                rintro V21 ⟨hV21, hR21⟩
                refine wpAnyH_ready (rs := [34]) (by kernel_rfl) (by simp) ?_
                refine AllReadyH.cons rfl (fun K hK => ?_) AllReadyH.nil
                go_simp
                have hne22 : V21.heap.size ≠ V9.heap.size := by have := heap_lt hR21; omega
                refine hK.out _ _ (hV21.alloc _) (fun _ => ?_)
                clear hK K
                refine wpAnyH_world (fun W => Sb wr W ∧ W.heap[V21.heap.size]? = some (.cells #[.slice A n c, .slice Ax mx cx] 22 (0, 0)) ∧ W.heap[V9.heap.size]? = some (.cells #[] 5 (0, 0))) ⟨hV21.alloc _, heap_alloc_new _ _, heap_alloc_keep hR21 _⟩ ?_
                rintro V22 ⟨hV22, hP22, hR22⟩
                refine wpAnyH_ready (rs := [35]) (by kernel_rfl) (by simp) ?_
                refine AllReadyH.cons rfl (fun K hK => ?_) AllReadyH.nil
                go_simp
                go_wp2_with (go_at_call 19; refine (HSum.out _ _ hV22 hP22).mono ?_; rintro e V23 ⟨rfl, hb23⟩)
                have hR23 := heap_below_keep hR22 hb23
                refine hK.out _ _ (hV22.step hb23) (fun hV23 => ?_)
                clear hK K hb23
                refine wpAnyH_ready (rs := [38]) (by kernel_rfl) (by simp) ?_
                refine AllReadyH.cons rfl (fun K hK => ?_) AllReadyH.nil
                refine step_copyB (w0 := wr) (by kernel_rfl) (.tmp 115) (.tmp 116) rfl b V9.heap.size n c A rfl rfl hR23 hV9.bel.size hV23 hrbW HBL.out hn6 ?_
                intro A124 c124 V24 ho24 hg24 hn24
                refine hK.out _ _ (hV23.grown hg24 (fun k hk => by injection hk with hk; have := hV9.bel.size; omega)) (fun hV24 => ?_)
                clear hK K hg24 hn24
                go_frame
                refine wpAnyH_ready (rs := [40]) (by kernel_rfl) (by simp) ?_
                refine AllReadyH.cons rfl (fun K hK => ?_) AllReadyH.nil
                refine step_appB (w0 := wr) (by kernel_rfl) (.tmp 117) (.tmp 118) rfl (Value.slice A124 n c124) b X n mx nx cx Ax rfl rfl ho24 hV24 hrxW HMX.out HNX.out hnx6 ?_
                intro A125 c125 V25 ho25 hg25 hn25
                refine hK.out _ _ (hV24.grown hg25 (fun k hk => (World.ownsRow.lt ho24 k hk).1)) (fun hV25 => ?_)
                clear hK K hg25 hn25
                go_frame
                refine wpAnyH_ready (rs := [41]) (by kernel_rfl) (by simp) ?_
                refine AllReadyH.cons rfl (fun K hK => ?_) AllReadyH.nil
                go_simp
                go_wp2_with (go_at_call 25; refine (HCrc.out _ _ _ (own_cap ho25).1).mono ?_; rintro e W' ⟨rfl, rfl⟩)
                refine hK.out _ _ hV25 (fun _ => ?_)
                clear hK K
                (refine wpAnyH_take (i := 42) (v := ?_) rfl (by kernel_rfl) (by kernel_rfl) (by kernel_rfl) (fun _ _ _ h => h) (Or.inl ⟨by kernel_rfl, ?_⟩) (by assumption) ?_; rotate_left; focus (intro _ _; go_simp; (try (with_reducible rfl)); done))
                go_frame
                (refine wpAnyH_take (i := 43) (v := ?_) rfl (by kernel_rfl) (by kernel_rfl) (by kernel_rfl) (fun _ _ _ h => h) (Or.inl ⟨by kernel_rfl, ?_⟩) (by assumption) ?_; rotate_left; focus (intro _ _; go_simp; (try (with_reducible rfl)); done))
                go_frame
                (refine wpAnyH_take (i := 44) (v := ?_) rfl (by kernel_rfl) (by kernel_rfl) (by kernel_rfl) (fun _ _ _ h => h) (Or.inl ⟨by kernel_rfl, ?_⟩) (by assumption) ?_; rotate_left; focus (intro _ _; go_simp; (try (with_reducible rfl)); done))
                go_frame
                refine wpAnyH_ready (rs := [45]) (by kernel_rfl) (by simp) ?_
                refine AllReadyH.cons rfl (fun K hK => ?_) AllReadyH.nil
                go_simp
                go_wp2_with (go_at_call 10; refine (live_any _).mono ?_; rintro e V26 ⟨rfl, hl26⟩)
                refine hK.out _ _ (hV25.step hl26) (fun hV26 => ?_)
                clear hK K
                refine wpAnyH_ready (rs := [46]) (by kernel_rfl) (by simp) ?_
                refine AllReadyH.cons rfl (fun K hK => ?_) AllReadyH.nil
                go_simp
                refine hK.out _ _ hV26 (fun _ => ?_)
                clear hK K
                refine wpAnyH_ready (rs := [47]) (by kernel_rfl) (by simp) ?_
                refine AllReadyH.cons rfl (fun K hK => ?_) AllReadyH.nil
                go_simp
                refine hK.out _ _ hV26 (fun _ => ?_)
                clear hK K
                refine wpAnyH_done (by kernel_rfl) ?_ _
                go_wp2
                go_ret
                exact ⟨rfl, below_step (below_step HBW.out hV25) hl26⟩

set_option maxRecDepth 100000 in
set_option maxHeartbeats 1000000 in
theorem puts_any (A A0 A1 A2 : Option Addr) (n c n0 c0 n1 c1 n2 c2 : Nat) (b : List UInt8) (ns : List Nat) (zs : List Int) (ss : List (List UInt8)) (w : World)
    (hbl : b.length = n) (hrb : Rd w A b) (hn : n ≤ 9223372036854775807)
    (h0 : ns.length = n0) (h1 : zs.length = n1) (h2 : ss.length = n2) (hr0 : RdK .u64 w A0 (ns.map (fun (x : Nat) => (x : Int)))) (hr1 : RdK .i64 w A1 zs) (hr2 : RdT w A2 ss)
    (hb0 : ∀ x ∈ ns, x < 18446744073709551616) (hb1 : ∀ x ∈ zs, -9223372036854775808 ≤ x ∧ x ≤ 9223372036854775807) (hm0 : n0 ≤ 9223372036854775807) (hm1 : n1 ≤ 9223372036854775807) (hm2 : n2 ≤ 9223372036854775807) (ho : ∀ s ∈ ss, s.length ≤ 140737488351232) :
    Calls Try.prog 5 #[.slice A n c, .slice A0 n0 c0, .slice A1 n1 c1, .slice A2 n2 c2] w (Yes w) := by
  by_cases kb : 20000 < n
  · clear h0 h1 h2 hb0 hb1 ho hbl
    go_enter Try.func5, Try.ntmps5
    go_wp2_with (go_at_call 10; refine (live_any w).mono ?_; rintro e w11 ⟨rfl, hb11⟩)
    go_ret
    exact ⟨rfl, hb11⟩
  by_cases k0 : 60 < n0
  · clear h0 h1 h2 hb0 hb1 ho hbl
    go_enter Try.func5, Try.ntmps5
    go_wp2_with (go_at_call 10; refine (live_any w).mono ?_; rintro e w11 ⟨rfl, hb11⟩)
    go_ret
    exact ⟨rfl, hb11⟩
  · by_cases k1 : 60 < n1
    · clear h0 h1 h2 hb0 hb1 ho hbl
      go_enter Try.func5, Try.ntmps5
      go_wp2_with (go_at_call 10; refine (live_any w).mono ?_; rintro e w11 ⟨rfl, hb11⟩)
      go_ret
      exact ⟨rfl, hb11⟩
    · by_cases k2 : textsB ss = true
      · have k3 := k2
        unfold textsB at k3
        rw [h2] at k3
        have k4 := of_decide_eq_true k3
        exact puts_in A A0 A1 A2 n c n0 c0 n1 c1 n2 c2 b ns zs ss w hbl hrb kb h0 h1 h2 hr0 hr1 hr2 hb0 hb1 k0 k1 k4.1 k4.2 ho
      · have HT := Lib.hid (texts_any A2 ss n2 c2 w h2 hm2 hr2 ho)
        rw [show textsB ss = false by simpa using k2] at HT
        clear h0 h1 h2 hb0 hb1 ho k2 hbl
        go_enter Try.func5, Try.ntmps5
        go_wp2_with (first
          | (go_at_call 20; refine HT.out.mono ?_; rintro e w' ⟨rfl, rfl⟩)
          | (go_at_call 10; refine (live_any w).mono ?_; rintro e w11 ⟨rfl, hb11⟩))
        go_ret
        exact ⟨rfl, hb11⟩
end Go.Proofs.Ytdmehbejfigaiaa
