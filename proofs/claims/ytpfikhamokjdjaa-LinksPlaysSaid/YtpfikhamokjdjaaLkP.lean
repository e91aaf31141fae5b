/- Links (layer 18): Watches and Pairs. -/
import Derived.Test.YtpfikhamokjdjaaLkI
namespace Go.Proofs.Ytpfikhamokjdjaa
open Go.RowKit Go.Maps Go.WideMaps Go.Shelf Go.Sort
set_option linter.unusedVariables false

/-- Sorted by the key, each once. -/
def wsOrd (ys : WL) : Prop := ys.Pairwise fun x y => x.ref < y.ref
def psOrd (ys : PL) : Prop := ys.Pairwise lexL
def WsEnds (W : World) (K : WL) (e : Ending) (w' : World) : Prop := ∃ v ys, e = .returned v ∧ List.Perm ys K ∧ wsOrd ys ∧ w'.ownsRow W.heap.size 33 3 v ys.length (ys.flatMap encW) ∧ Below W.heap.size W w'
def PsEnds (W : World) (L : PL) (e : Ending) (w' : World) : Prop := ∃ v ys, e = .returned v ∧ List.Perm ys L ∧ psOrd ys ∧ w'.ownsRow W.heap.size 45 2 v ys.length (ys.flatMap encP) ∧ Below W.heap.size W w'
theorem wsOrd_of {ys K : WL} (hp : List.Perm ys K) (hnd : K.Pairwise fun x y => x.ref ≠ y.ref) (hs : ys.Pairwise fun x y => 0 ≤ cmpW y x) : wsOrd ys := by
  have h1 : ys.Pairwise fun x y => x.ref ≠ y.ref := hp.symm.pairwise hnd (fun h e => h e.symm)
  refine (h1.and hs).imp ?_
  rintro x y ⟨h2, h3⟩
  have h3 : ¬ cmpW y x < 0 := by omega
  unfold cmpW at h3
  rw [cmpI_lt] at h3
  omega
theorem psOrd_of {ys L : PL} (hp : List.Perm ys L) (hnd : L.Nodup) (hs : ys.Pairwise fun x y => 0 ≤ cmpP y x) : psOrd ys := by
  have h1 : ys.Nodup := hp.nodup_iff.2 hnd
  refine (List.Pairwise.and h1 hs).imp ?_
  rintro ⟨x1, x2⟩ ⟨y1, y2⟩ ⟨h2, h3⟩
  have h3 : ¬ cmpP (y1, y2) (x1, x2) < 0 := by omega
  rw [cmpP_lt] at h3
  unfold lexL at *
  simp only [ne_eq, Prod.mk.injEq, not_and] at h2
  simp only at *
  by_cases e : x1 = y1
  · have := h2 e; omega
  · omega
theorem sortedW_v (Bm b nn : Nat) (K : WL) (hkok : ∀ x ∈ K, i64ok x.ref) (hknd : K.Pairwise fun x y => x.ref ≠ y.ref) (hlen : K.length ≤ 1000000) (w : World) (hBm : Bm < w.heap.size) (hm : w.cell? ⟨Bm, 0, none⟩ = some (.map (some b))) (hown : WM w b nn K) :
    Calls Try.prog 30 #[.func (.func 44) #[] #[.pointer (some ⟨Bm, 0, none⟩)], .func (.func 32) #[] #[]] w (WsEnds w K) := by
  have HC := Lib.hid (collectW_v Bm b nn K hkok hknd hlen w hBm hm hown)
  have HND := Lib.hid hknd
  have HLN := Lib.hid hlen
  clear hkok hknd hlen hBm hm hown
  go_enter Try.func30, Try.ntmps30
  go_upto_region 2 with (go_at_call 42; refine HC.out.mono ?_; rintro e w1 ⟨v, ys, rfl, h1, h2, h3⟩)
  have HS := Lib.hid (sortW_v ys (by rw [h1.length_eq]; exact HLN.out) h3.size h2)
  have HP := Lib.hid h1
  have HB := Lib.hid h3
  clear h1 h2 h3
  go_wp2_with (go_at_call 43; refine HS.out.mono ?_; rintro e w2 ⟨rfl, zs, h4, h5, h6, h7⟩; have H4 := Lib.hid h4; have H5 := Lib.hid h5; have H6 := Lib.hid h6; have H7 := Lib.hid h7; clear h4 h5 h6 h7)
  go_ret
  exact ⟨_, zs, rfl, H4.out.trans HP.out, wsOrd_of (H4.out.trans HP.out) HND.out H5.out, by rw [H4.out.length_eq]; exact H6.out, HB.out.trans (H7.out.mono (Nat.le_refl _))⟩
theorem sortedP_v (Bm b nn : Nat) (K : PL) (hkok : ∀ x ∈ K, i64ok x.1 ∧ i64ok x.2) (hknd : K.Nodup) (hlen : K.length ≤ 1000000) (w : World) (hBm : Bm < w.heap.size) (hm : w.cell? ⟨Bm, 0, none⟩ = some (.map (some b))) (hown : PM w b nn K) :
    Calls Try.prog 34 #[.func (.func 48) #[] #[.pointer (some ⟨Bm, 0, none⟩)], .func (.func 36) #[] #[]] w (PsEnds w K) := by
  have HC := Lib.hid (collectP_v Bm b nn K hkok hknd hlen w hBm hm hown)
  have HND := Lib.hid hknd
  have HLN := Lib.hid hlen
  clear hkok hknd hlen hBm hm hown
  go_enter Try.func34, Try.ntmps34
  go_upto_region 2 with (go_at_call 46; refine HC.out.mono ?_; rintro e w1 ⟨v, ys, rfl, h1, h2, h3⟩)
  have HS := Lib.hid (sortP_v ys (by rw [h1.length_eq]; exact HLN.out) h3.size h2)
  have HP := Lib.hid h1
  have HB := Lib.hid h3
  clear h1 h2 h3
  go_wp2_with (go_at_call 47; refine HS.out.mono ?_; rintro e w2 ⟨rfl, zs, h4, h5, h6, h7⟩; have H4 := Lib.hid h4; have H5 := Lib.hid h5; have H6 := Lib.hid h6; have H7 := Lib.hid h7; clear h4 h5 h6 h7)
  go_ret
  exact ⟨_, zs, rfl, H4.out.trans HP.out, psOrd_of (H4.out.trans HP.out) HND.out H5.out, by rw [H4.out.length_eq]; exact H6.out, HB.out.trans (H7.out.mono (Nat.le_refl _))⟩
section
variable {w0 W V : World} {pm b1 b2 n : Nat} {L : PL} {K : WL}
theorem watches_v (h : LK w0 W pm b1 b2 n L K) (hlen : K.length ≤ 1000000) : Calls Try.prog 14 #[.pointer (some ⟨pm, 0, none⟩)] W (WsEnds W K) := by
  have m1 := h.obj.cell 1
  have HMK := Lib.hid (values_mk (some b2))
  obtain ⟨g, hg⟩ : ∃ g, W.heap.size = g := ⟨_, rfl⟩
  have HS := Lib.hid (sortedW_v g b2 n K (fun x hx => (h.lk.kok x hx).1) h.lk.knd hlen (W.alloc (.cells #[.map (some b2)] 54)) (by simp; omega) (by rw [← hg]; exact (Blk.new W 54 #[.map (some b2)]).cell 0) (h.w.grown (grown_of_below (below_alloc _ _) none) (by simp)))
  have HB := Lib.hid (below_alloc W (.cells #[.map (some b2)] 54))
  clear h hlen
  go_enter Try.func14, Try.ntmps14
  go_wp2_with (first
    | (go_at_call 31; refine (HMK.out _).mono ?_; rintro e w1 ⟨rfl, rfl⟩)
    | (go_at_call 30; refine HS.out.mono ?_; rintro e w2 ⟨v, ys, rfl, h1, h2, h3, h4⟩; have H1 := Lib.hid h1; have H2 := Lib.hid h2; have H3 := Lib.hid h3; have H4 := Lib.hid h4; clear h1 h2 h3 h4))
  go_ret
  exact ⟨_, ys, rfl, H1.out, H2.out, own_low9 H3.out HB.out.size, HB.out.trans (H4.out.mono HB.out.size)⟩
theorem pairs_v (h : LK w0 W pm b1 b2 n L K) (hlen : L.length ≤ 1000000) : Calls Try.prog 19 #[.pointer (some ⟨pm, 0, none⟩)] W (PsEnds W L) := by
  have m1 := h.obj.cell 0
  have HMK := Lib.hid (keysP_mk (some b1))
  obtain ⟨g, hg⟩ : ∃ g, W.heap.size = g := ⟨_, rfl⟩
  have HS := Lib.hid (sortedP_v g b1 n L (fun x hx => (h.lk.ok x hx).2) h.lk.nd hlen (W.alloc (.cells #[.map (some b1)] 53)) (by simp; omega) (by rw [← hg]; exact (Blk.new W 53 #[.map (some b1)]).cell 0) (h.p.grown (grown_of_below (below_alloc _ _) none) (by simp)))
  have HB := Lib.hid (below_alloc W (.cells #[.map (some b1)] 53))
  clear h hlen
  go_enter Try.func19, Try.ntmps19
  go_wp2_with (first
    | (go_at_call 35; refine (HMK.out _).mono ?_; rintro e w1 ⟨rfl, rfl⟩)
    | (go_at_call 34; refine HS.out.mono ?_; rintro e w2 ⟨v, ys, rfl, h1, h2, h3, h4⟩; have H1 := Lib.hid h1; have H2 := Lib.hid h2; have H3 := Lib.hid h3; have H4 := Lib.hid h4; clear h1 h2 h3 h4))
  go_ret
  exact ⟨_, ys, rfl, H1.out, H2.out, own_low9 H3.out HB.out.size, HB.out.trans (H4.out.mono HB.out.size)⟩
end
end Go.Proofs.Ytpfikhamokjdjaa
