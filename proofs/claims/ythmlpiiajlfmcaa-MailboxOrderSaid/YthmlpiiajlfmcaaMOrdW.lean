/- The walk of MailboxOrder. -/
import Derived.Test.YthmlpiiajlfmcaaMWord
import Derived.Test.YthmlpiiajlfmcaaRdK
import Derived.Deep.QuietTactic
import Derived.BigQuiet
import Derived.IntWalk
namespace Go.Proofs.Ythmlpiiajlfmcaa
open Go.RowKit
set_option linter.unusedVariables false

/-- A box whose terms' numbers grow. -/
def OrdBox (w0 : World) (pb : Nat) (v : World) : Prop := ∃ (A : Option Addr) (cap : Nat) (es : List (TE w0)), BoxAt w0 pb A cap es v ∧ (es.map fun e => e.t.int).Pairwise (· < ·)
theorem ord_box {w W w' : World} {k : Nat} (hk : k ≤ 100) {r : Ending} (h : BNewEnds W W ((tis w k).map (·.t)) r w') :
    ∃ pb, r = .returned (.tuple #[.pointer (some ⟨pb, 0, none⟩), .int .i64 0]) ∧ OrdBox W pb w' := by
  obtain ⟨_, h⟩ := h
  rw [tis_new w k hk] at h
  rcases h with ⟨h, _⟩ | ⟨_, pb, A, cap, es, hr, hes, hb, _⟩
  · exact absurd rfl h
  · refine ⟨pb, hr, A, cap, es, hb, ?_⟩
    have := tis_inc w k
    have e1 : (es.map fun e => e.t.int) = (tis w k).map fun e => e.t.int := by
      have := congrArg (List.map TV.int) hes
      simpa [List.map_map, Function.comp_def] using this
    rw [e1]
    exact this
theorem ord_take {w0 v : World} {pb : Nat} (h : OrdBox w0 pb v) (x : Int) :
    Calls Try.prog 15 #[.pointer (some ⟨pb, 0, none⟩), .int .i64 x] v fun r w' => (∃ u, r = .returned u) ∧ OrdBox w0 pb w' := by
  obtain ⟨A, cap, es, hb, hp⟩ := h
  exact (btake_any hb x).mono fun r w' ⟨t, A', c', hr, _, _, hb'⟩ => ⟨⟨_, hr⟩, A, cap, _, hb', hp.sublist ((takeL_sub es x).map _)⟩
theorem ord_all {w0 v : World} {pb : Nat} (h : OrdBox w0 pb v) :
    Calls Try.prog 18 #[.pointer (some ⟨pb, 0, none⟩)] v fun r w' => ∃ A c l, r = .returned (.tuple #[.slice A (l.length) c, .bool true]) ∧ RdM w' A c l ∧ (l.map TV.int).Pairwise (· < ·) ∧ l.length ≤ 1000 ∧ Below w0.heap.size w0 w' := by
  obtain ⟨A, cap, es, hb, hp⟩ := h
  exact (all_box hb).mono fun r w' ⟨A', c', hr, hm, _, hbl⟩ => ⟨A', c', es.map (·.t), by rw [hr, List.length_map], hm, by rw [List.map_map]; exact hp, by rw [List.length_map]; exact hb.ok.len, below_step hb.bel hbl⟩

set_option maxRecDepth 100000 in
set_option maxHeartbeats 2000000 in
theorem order_in (N m c : Nat) (A : Option Addr) (l : List Int) (w : World) (hN : N ≤ 100) (hlen : l.length = m) (hm : m ≤ 200) (hr : RdK .i64 w A l) :
    Calls Try.prog 5 #[.int .i64 (N : Int), .slice A m c] w (Yes w) := by
  have HLEN := Lib.hid hlen
  clear hlen
  have HLIVE : Hid (∀ V, Below w.heap.size w V → Calls Try.prog 9 #[] V fun e w' => e = .returned (.bool true) ∧ Below w.heap.size w w') := fun V hb => (live_any V).mono fun e w' ⟨he, h⟩ => ⟨he, below_step hb h⟩
  have hmx : ∀ k, k < N → k + 1 ≤ maxLen := fun k hk => by unfold maxLen; omega
  have hbx : ∀ k, k < N → (k + 1) * 56 ≤ 140737488355328 := fun k hk => by omega
  have HNEW := Lib.hid (fun A' c' W (hR : RdM W A' c' ((tis w N).map (·.t))) => (bnew_any ((tis w N).map (·.t)) A' N c' W W (by simp [tis_len]) (tis_named w N) (Below.refl _ _) hR).mono fun r w' h => And.intro (ord_box hN h) h.1)
  have d1 : decide ((N : Int) < 0) = false := by simp
  have d2 : decide ((100 : Int) < (N : Int)) = false := by simp; omega
  have d3 : decide ((200 : Int) < (m : Int)) = false := by simp; omega
  go_enter Try.func5, Try.ntmps5
  go_wp2
  go_loopw [5, 6] (fun u i wr => ∃ (k : Nat), k ≤ N ∧ i = .int .i64 k ∧ wr.ownsRow w.heap.size 35 4 u k (cellsL (tis w k)) ∧ Below w.heap.size w wr) (fun _ i _ => N - (intOf i).toNat)
  case atStart => exact ⟨0, Nat.zero_le _, rfl, World.ownsRow_nil _ _ _ _, Below.refl _ _⟩
  case round =>
    obtain ⟨k, hk, rfl, hown, hb⟩ := hrel
    have hs := hb.size
    by_cases hlt : k < N
    · have hd : decide (k < N) = true := by simpa using hlt
      have h9 := hmx k hlt
      have h8 := hbx k hlt
      have hbs : w.heap.size ≤ wr.heap.size + 1 := by omega
      go_wp2_with (first
        | (go_at_call 25; refine (tint_any _ _).mono ?_; rintro e w5 ⟨rfl, hb5⟩)
        | (at_builtin; refine wpList_app termsT rfl (.tmp 30) (.tmp 33) rfl w.heap.size u5 k (cellsL (tis w k)) rfl (own_keep (own_keep hown hb5) (below_alloc _ _)) (some ⟨w5.heap.size, 0, none⟩) 1 1 (tiE w k).cells rfl rfl (one_news w5 (tiE w k)) (cells_one _) h9 h8 (by have := hb5.size; simp; omega) ?_; intro v' w6 hown6 hgr6 _))
      have HB6 := Lib.hid (own_grow (own_keep (own_keep hown hb5) (below_alloc w5 (.cells (tiE w k).cells.toArray 35))) ((below_step hb hb5).trans ((below_alloc _ _).mono (by have := hb5.size; omega))) hgr6 (by have := hb5.size; simp; omega))
      rw [show cellsL (tis w k) ++ (tiE w k).cells = cellsL (tis w (k + 1)) by rw [tis_succ, cellsL_append, cellsL_one]] at hown6
      go_roundw
      case rel => exact ⟨k + 1, by omega, by go_num, hown6, HB6.out⟩
      case measure => simp [intOf]; omega
    · obtain rfl : k = N := by omega
      have hd : decide (k < k) = false := by simp
      clear hmx hbx
      obtain ⟨A1, c1, rfl⟩ := own_form hown
      have HR1 := Lib.hid (rdm_of_own hown (tis_len w k) hb)
      clear hown
      go_upto_region 10 with (first
        | (go_at_call 10; refine (HNEW.out _ _ _ HR1.out).mono ?_; rintro e w2 ⟨⟨pb, rfl, hO⟩, hb2⟩)
        | (go_at_call 12; refine (num_any _ _).mono ?_; rintro e w' ⟨rfl, rfl⟩))
      have HB2 := Lib.hid (below_step hb hb2)
      clear hb2 HR1 HNEW
      go_loopw [9] (fun i v => ∃ (j : Nat), j ≤ m ∧ i = .int .i64 j ∧ OrdBox wr pb v ∧ Below w.heap.size w v) (fun i _ => m - (intOf i).toNat)
      case atStart => exact ⟨0, Nat.zero_le _, rfl, hO, HB2.out⟩
      case round =>
        obtain ⟨j, hj, rfl, hO2, hb2⟩ := hrel
        clear hO
        by_cases hlt2 : j < m
        · have hd2 : decide (j < m) = true := by simpa using hlt2
          have hjl : j < l.length := by rw [HLEN.out]; exact hlt2
          obtain ⟨b, off, rfl, hc⟩ := hr.at_ hjl
          have hc2 := (hb2.cell (World.block_lt_of_cell? w _ hc)).trans hc
          have HTK := Lib.hid (fun x => ord_take hO2 x)
          have q1 : (0 : Int) ≤ (j : Int) := by omega
          have q2 : (j : Int) < (m : Int) := by omega
          clear hc
          generalize l[j] = x at *
          go_wp2_with (go_at_call 15; refine (HTK.out _).mono ?_; rintro e w4 ⟨⟨u, rfl⟩, hO4⟩)
          have hb4 : Below w.heap.size w w4 := by
            obtain ⟨A4, c4, es4, h4, _⟩ := hO4
            exact below_step hb h4.bel
          go_roundw
          case rel => exact ⟨j + 1, by omega, by go_num, hO4, hb4⟩
          case measure => simp [intOf]; omega
        · obtain rfl : j = m := by omega
          have hd2 : decide (j < j) = false := by simp
          have HAL := Lib.hid (ord_all hO2)
          go_wp2_with (go_at_call 18; refine HAL.out.mono ?_; rintro e X ⟨A9, c9, l9, rfl, hR9, hp9, hlen9, hb9⟩)
          have HB9 := Lib.hid (below_step hb hb9)
          have HP9 := Lib.hid hp9
          obtain ⟨m9, hm9⟩ : ∃ m9, l9.length = m9 := ⟨_, rfl⟩
          have HM9 := Lib.hid hm9
          rw [hm9] at hlen9 ⊢
          clear hO2 hb2 hb9 hp9 hm9 HAL
          go_loopw [12] (fun v wq => ∃ (i : Nat), (i = 0 ∨ i < m9) ∧ v = .int .i64 ((i + 1 : Nat) : Int) ∧ Below X.heap.size X wq) (fun v _ => m9 - (intOf v).toNat)
          case atStart => exact ⟨0, .inl rfl, rfl, Below.refl _ _⟩
          case round =>
            obtain ⟨i, hi, rfl, hbq⟩ := hrel
            push_cast
            by_cases hlt3 : i + 1 < m9
            · have g1 : i + 1 < l9.length := by rw [HM9.out]; exact hlt3
              have g0 : i < l9.length := by omega
              obtain ⟨b1, o1, A2, c2, rfl, x1, k1, x2⟩ := (hR9.below hbq).item g1
              obtain ⟨b2, o2, A3, c3, e3, x3, k2, x4⟩ := (hR9.below hbq).item g0
              obtain ⟨rfl, rfl⟩ : b1 = b2 ∧ o1 = o2 := by injection e3 with e3; injection e3 with e3 e4; exact ⟨e3, e4⟩
              have hlt4 : l9[i].int < l9[i + 1].int := by
                have := List.pairwise_iff_getElem.1 HP9.out i (i + 1) (by simpa using g0) (by simpa using g1) (by omega)
                simpa using this
              have hd4 : decide (l9[i + 1].int ≤ l9[i].int) = false := by simp; omega
              generalize l9[i].int = x at *
              generalize l9[i + 1].int = y at *
              have hd3 : decide ((i : Int) + 1 < (m9 : Int)) = true := by simp; omega
              have q1 : (0 : Int) ≤ (i : Int) := by omega
              have q2 : (i : Int) < (m9 : Int) := by omega
              have q3 : (0 : Int) ≤ (i : Int) + 1 := by omega
              have q4 : (i : Int) + 1 < (m9 : Int) := by omega
              have q5 : ((i : Int) + 1).toNat = i + 1 := by omega
              have q6 : IntKind.i64.wrap ((i : Int) + 1 - 1) = (i : Int) := by rw [Int.add_sub_cancel]; exact IntWalk.i64_in _ (by omega)
              clear e3 x1 x2 x3 x4 g1 g0 hlt4
              go_wp2
              go_quiet (fail)
              go_wp2
              go_roundw
              case rel => exact ⟨i + 1, .inr (by omega), by go_num, below_drewN hbq _⟩
              case measure => simp [intOf]; omega
            · have hd3 : decide ((i : Int) + 1 < (m9 : Int)) = false := by simp; omega
              have hb8 := below_step HB9.out hbq
              go_wp2_with (go_at_call 9; refine (HLIVE.out _ hb8).mono ?_; rintro e w' ⟨rfl, hb7⟩)
              go_ret
              exact ⟨rfl, hb7⟩
theorem mailboxOrder_any (n : Int) (m c : Nat) (A : Option Addr) (l : List Int) (w : World) (hlen : l.length = m) (hm : m ≤ 9223372036854775807) (hr : RdK .i64 w A l) :
    Calls Try.prog 5 #[.int .i64 n, .slice A m c] w (Yes w) := by
  by_cases h : 0 ≤ n ∧ n ≤ 100 ∧ m ≤ 200
  · obtain ⟨N, rfl⟩ := Int.eq_ofNat_of_zero_le h.1
    exact order_in N m c A l w (by omega) hlen h.2.2 hr
  · have HLIVE : Hid (∀ V, Below w.heap.size w V → Calls Try.prog 9 #[] V fun e w' => e = .returned (.bool true) ∧ Below w.heap.size w w') := fun V hb => (live_any V).mono fun e w' ⟨he, h⟩ => ⟨he, below_step hb h⟩
    by_cases h1 : n < 0
    · have d1 : decide (n < 0) = true := by simpa using h1
      go_enter Try.func5, Try.ntmps5
      go_wp2_with (go_at_call 9; refine (HLIVE.out _ (Below.refl _ _)).mono ?_; rintro e w' ⟨rfl, hb7⟩)
      go_ret
      exact ⟨rfl, hb7⟩
    · have d1 : decide (n < 0) = false := by simpa using h1
      by_cases h2 : 100 < n
      · have d2 : decide (100 < n) = true := by simpa using h2
        go_enter Try.func5, Try.ntmps5
        go_wp2_with (go_at_call 9; refine (HLIVE.out _ (Below.refl _ _)).mono ?_; rintro e w' ⟨rfl, hb7⟩)
        go_ret
        exact ⟨rfl, hb7⟩
      · have d2 : decide (100 < n) = false := by simpa using h2
        have d3 : decide ((200 : Int) < (m : Int)) = true := by simp; omega
        clear h
        go_enter Try.func5, Try.ntmps5
        go_wp2_with (go_at_call 9; refine (HLIVE.out _ (Below.refl _ _)).mono ?_; rintro e w' ⟨rfl, hb7⟩)
        go_ret
        exact ⟨rfl, hb7⟩
end Go.Proofs.Ythmlpiiajlfmcaa
