/- Arith (layer 14): what the laws use: small, Do's calls. -/
import Derived.Test.YtbpnlpjbjmojfaaGreatArR
import Derived.Test.YtbpnlpjbjmojfaaGreatArT
namespace Go.Proofs.YtbpnlpjbjmojfaaGreat
open Go.RowKit
set_option linter.unusedVariables false

section
variable {W w V V' : World} {u u1 u2 : Value} {t t1 t2 : TV}
theorem checkP_le {l : List TV} : checkP l = 0 → TV.partsL l ≤ 4096 ∧ TV.isL l = true := by
  unfold checkP
  intro h
  by_cases h1 : TV.partsL l ≤ 4096
  · rw [if_pos h1] at h
    by_cases h2 : TV.isL l = true
    · exact ⟨h1, h2⟩
    · rw [if_neg h2] at h; cases h
  · rw [if_neg h1] at h; cases h
/-- Rows of terms, a piece of one. -/
theorem rdM_one {g o c : Nat} {l : List TV} (h : TV.Row V l g o) {j : Nat} (hj : j < l.length) (hc : 1 ≤ c) (hm : c ≤ 9223372036854775807) : RdM V (some ⟨g, o + j * 4, none⟩) c [l[j]] :=
  ⟨hc, hm, .inr ⟨g, o + j * 4, rfl, by simp only [TV.Row]; exact ⟨row_at h hj, trivial⟩⟩⟩
/-- What small says. -/
def smB (l : List TV) : Bool := decide (l.length ≤ 100) && (l.all (fun t => checkP [t] == 0) && decide ((TV.partsL l : Int) ≤ 16384))
theorem smB_yes {l : List TV} (h : smB l = true) : l.length ≤ 100 ∧ (∀ t ∈ l, checkP [t] = 0) ∧ TV.partsL l ≤ 16384 := by
  unfold smB at h
  simp only [Bool.and_eq_true, decide_eq_true_eq, List.all_eq_true, beq_iff_eq] at h
  exact ⟨h.1, h.2.1, by omega⟩
set_option maxRecDepth 100000 in
set_option maxHeartbeats 2000000 in
theorem small_v (l : List TV) (A : Option Addr) (len c : Nat) (W : World) (hlen : l.length = len) (hnm : TV.namedL l) (hR : RdM W A c l) :
    Calls Tryz.prog 4 #[.slice A len c, .slice none 0 0] W fun e w' => e = .returned (.bool (smB l)) ∧ Below W.heap.size W w' := by
  by_cases h1 : 100 < len
  · have hd : decide ((100 : Int) < (len : Int)) = true := by simp; omega
    have HR := Lib.hid (show smB l = false by unfold smB; rw [show decide (l.length ≤ 100) = false by simp; omega]; rfl)
    clear hlen hnm hR h1
    go_enter Tryz.func4, Tryz.ntmps4
    go_wp2
    go_ret
    exact ⟨by rw [HR.out]; rfl, Below.refl _ _⟩
  have hd : decide ((100 : Int) < (len : Int)) = false := by simp; omega
  have hl1 : len ≤ 100 := by omega
  obtain ⟨cs, hs, hc⟩ := rdM_std hR
  have HS := Lib.hid (hs.kept (Kept.of_below (below_alloc W (.cells #[] 26))))
  have HL := Lib.hid (show cs.length = len * 4 by rw [hs.1, hlen])
  have HC : Hid (Cs (W.alloc (.cells #[] 26)) A cs) := by
    rcases hc with h0 | ⟨b, e, hcell⟩
    · exact .inl h0
    · exact .inr ⟨b, e, fun j w hj => (Below.cell (below_alloc W _) (World.block_lt_of_cell? W _ (hcell j w hj))).trans (hcell j w hj)⟩
  have HO := Lib.hid hs.2.1
  have HLEN := Lib.hid hlen
  have HNM := Lib.hid hnm
  clear hs hc hR hlen hnm
  go_enter Tryz.func4, Tryz.ntmps4
  go_upto_region 4 with (at_builtin; refine wpList_app termT rfl (.tmp 17) (.tmp 18) rfl W.heap.size _ 0 [] rfl (World.ownsRow_lit W #[] 0 (Nat.le_refl _) (Nat.zero_le _) rfl) A len c cs rfl HL.out HC.out HO.out (by unfold maxLen; omega) (by omega) (by simp) ?_; intro v' w3 ho3 hg3 hat3)
  have hbel := (below_alloc W (.cells #[] 26)).grown hg3 (by simp) (fun k hk => Nat.le_of_eq (Option.some.inj hk))
  have hk : Kept (W.alloc (.cells #[] 26)) w3 := fun p hp => by
    obtain ⟨u, hu⟩ := Option.isSome_iff_exists.1 hp
    have hlt := World.block_lt_of_cell? _ p hu
    by_cases e : p.block = W.heap.size
    · exfalso
      have hB := Blk.new W 26 #[]
      unfold World.cell? at hu
      unfold Blk at hB
      rw [e, hB] at hu
      simp at hu
    · exact World.cell?_of_block (hg3.block p.block hlt (fun h => e (Option.some.inj h)))
  have hS3 := HS.out.kept hk
  rw [List.nil_append, Nat.zero_add] at ho3
  obtain ⟨A3, c3, rfl, hlc, hcm, hrow⟩ : ∃ A3 c3, v' = .slice A3 len c3 ∧ len ≤ c3 ∧ c3 ≤ 9223372036854775807 ∧ (len = 0 ∨ ∃ g, A3 = some ⟨g, 0, none⟩ ∧ TV.Row w3 l g 0) := by
    rcases ho3.2 with ⟨rfl, hz⟩ | ⟨g, cap, cur, rfl, hbg, hg, hnc, hcm, hsz, htake⟩
    · exact ⟨none, 0, by rw [hz], by omega, by omega, .inl hz⟩
    · refine ⟨_, cap, rfl, hnc, by unfold maxLen at hcm; exact hcm, .inr ⟨g, rfl, hS3.row _ g 0 (fun _ _ => rfl) fun j hj => ?_⟩⟩
      have hc := ho3.cells (g := g) rfl j cs[j] (by rw [List.getElem?_eq_getElem hj])
      rw [Addr.add_lit] at hc
      exact hc
  have HROW := Lib.hid hrow
  have HB3 := Lib.hid hbel
  clear hg3 hat3 ho3 hk hS3 hrow hbel HS HC HO HL
  go_upto_region 6 with (fail)
  go_loopw [5, 6, 7] (fun x y v wr => x = .slice A3 len c3 ∧ y = .int .i64 0 ∧ v = .int .i64 0 ∧ w3 = wr) (fun _ _ _ _ => 0)
  case atStart => exact ⟨rfl, rfl, rfl, rfl⟩
  case round =>
    obtain ⟨rfl, rfl, rfl, rfl⟩ := hrel
    go_upto_region 11 with (fail)
    go_loopw [8] (fun v wr => ∃ j : Nat, v = .int .i64 (j : Int) ∧ j ≤ len ∧ Hid (∀ t ∈ l.take j, checkP [t] = 0) ∧ Hid (Below w3.heap.size w3 wr)) (fun v _ => match v with | .int _ i => len - i.toNat | _ => 0)
    case atStart => exact ⟨0, by simp, by omega, by intro t ht; simp at ht, Below.refl _ _⟩
    case round =>
      obtain ⟨j, rfl, hj, HALL, HB⟩ := hrel
      by_cases hlt : j < len
      · have hd8 : decide ((j : Int) < (len : Int)) = true := by simp; omega
        have hjl : j < l.length := by rw [HLEN.out]; exact hlt
        obtain ⟨g, rfl, hr⟩ : ∃ g, A3 = some ⟨g, 0, none⟩ ∧ TV.Row w3 l g 0 := by
          rcases HROW.out with h | h
          · omega
          · exact h
        obtain ⟨ck, hck⟩ : ∃ ck, checkP [l[j]] = ck := ⟨_, rfl⟩
        have hR1 := (rdM_one hr hjl (c := c3 - j) (by omega) (by omega)).below HB.out
        rw [Nat.zero_add] at hR1
        have hC1 := rcheck_any [l[j]] (some ⟨g, j * 4, none⟩) 1 (c3 - j) wr wr rfl (by simp only [TV.namedL]; exact ⟨namedL_at HNM.out hjl, trivial⟩) (Below.refl _ _) hR1
        rw [hck] at hC1
        have HC := Lib.hid hC1
        clear hC1
        have HTAKE := Lib.hid (show ck = 0 → ∀ t ∈ l.take (j + 1), checkP [t] = 0 by
          intro h0 t ht
          rw [List.take_succ_eq_append_getElem hjl] at ht
          rcases List.mem_append.1 ht with ht | ht
          · exact HALL.out t ht
          · rw [List.mem_singleton.1 ht, hck, h0])
        have hw : wrap64 ((j : Int) + 1) = (j : Int) + 1 := by unfold wrap64; omega
        have y1 : j ≤ c3 := by omega
        have y2 : j + 1 ≤ c3 := by omega
        have y3 : ¬ c3 = j := by omega
        have y4 : (0 : Int) ≤ (j : Int) + 1 := by omega
        have y5 : ((j : Int) + 1).toNat = j + 1 := by omega
        have y6 : j + 1 - j = 1 := by omega
        have HCK := Lib.hid hck
        clear hR1 hck hr
        by_cases h0 : ck = 0
        · clear HCK hjl
          subst h0
          go_wp2_with (go_at_call 9; refine HC.out.mono ?_; rintro r V1 ⟨rfl, hb1⟩; have HB := Lib.hid (below_step HB.out hb1); clear hb1)
          go_roundw
          case rel => exact ⟨j + 1, by simp, by omega, HTAKE.out (by trivial), HB.out⟩
          case measure => simp; omega
        · have hd9 : ((ck : Int) != 0) = true := by rw [bne_iff_ne]; omega
          have HR := Lib.hid (show smB l = false by
            unfold smB
            rw [show l.all (fun t => checkP [t] == 0) = false from List.all_eq_false.2 ⟨l[j], List.getElem_mem _, by rw [HCK.out]; simpa using h0⟩]
            simp)
          clear h0
          go_wp2_with (go_at_call 9; refine HC.out.mono ?_; rintro r V1 ⟨rfl, hb1⟩; have HB := Lib.hid (below_step HB.out hb1); clear hb1)
          go_ret
          exact ⟨by rw [HR.out]; rfl, below_step HB3.out HB.out⟩
      · obtain rfl : j = len := by omega
        have hd8 : decide ((j : Int) < (j : Int)) = false := by simp
        have hR3 : RdM wr A3 c3 l := by
          rcases HROW.out with h | ⟨g, e, h⟩
          · exact ⟨by have := HLEN.out; omega, hcm, .inl (List.eq_nil_of_length_eq_zero (by rw [HLEN.out]; exact h))⟩
          · exact RdM.below ⟨by rw [HLEN.out]; exact hlc, hcm, .inr ⟨g, 0, e, h⟩⟩ HB.out
        have HF := Lib.hid (fits_any l A3 j c3 16384 wr wr HLEN.out (by omega) (by omega) (Below.refl _ _) hR3)
        obtain ⟨fb, hfb⟩ : ∃ fb, decide ((TV.partsL l : Int) ≤ 16384) = fb := ⟨_, rfl⟩
        rw [hfb] at HF
        have HALL2 := Lib.hid (show ∀ t ∈ l, checkP [t] = 0 by have := HALL.out; rwa [List.take_of_length_le (by rw [HLEN.out]; exact Nat.le_refl _)] at this)
        have HRS := Lib.hid (show smB l = fb by
          unfold smB
          rw [hfb, show l.all (fun t => checkP [t] == 0) = true from List.all_eq_true.2 (fun t ht => by rw [HALL2.out t ht]; rfl), show decide (l.length ≤ 100) = true by rw [HLEN.out]; simpa using hl1]
          rfl)
        clear hR3 hfb
        go_wp2_with (go_at_call 10; refine HF.out.mono ?_; rintro r V1 ⟨rfl, hb1⟩; have HB := Lib.hid (below_step HB.out hb1); clear hb1)
        go_ret
        exact ⟨by rw [HRS.out]; rfl, below_step HB3.out HB.out⟩
end
end Go.Proofs.YtbpnlpjbjmojfaaGreat
