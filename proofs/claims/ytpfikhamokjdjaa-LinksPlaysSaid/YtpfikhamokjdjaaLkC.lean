/- Links (layer 18): Link, Unlink. -/
import Derived.Test.YtpfikhamokjdjaaLkB
namespace Go.Proofs.Ytpfikhamokjdjaa
open Go.RowKit Go.Maps Go.WideMaps
set_option linter.unusedVariables false

def linkP (L : PL) (a b : Int) : Bool × PL := if a = b ∨ pairN a b ∈ L then (false, L) else (true, insG keyP (pairN a b) L)
def unlinkP (L : PL) (a b : Int) : Bool × PL := if pairN a b ∈ L then (true, delG keyP L (keyP (pairN a b))) else (false, L)
theorem pairN_ok {a b : Int} (ha : i64ok a) (hb : i64ok b) : i64ok (pairN a b).1 ∧ i64ok (pairN a b).2 := by
  unfold pairN i64ok at *
  simp only
  omega
theorem Blk.newAt9 {w : World} {t g : Nat} {cs : Array Value} (h : w.heap.size = g) : Blk (w.alloc (.cells cs t)) g t cs := by rw [← h]; exact Blk.new w t cs
section
variable {w0 W V : World} {pm b1 b2 n : Nat} {L : PL} {K : WL}
theorem LOk.add (h : LOk L K) {a b : Int} (ha : i64ok a) (hb : i64ok b) (hne : a ≠ b) (hno : pairN a b ∉ L) : LOk (insG keyP (pairN a b) L) K := by
  have hp := insG_perm (key := keyP) (x := pairN a b) (L := L)
  refine ⟨fun p hp9 => ?_, hp.nodup_iff.2 (List.nodup_cons.2 ⟨hno, h.nd⟩), h.kok, h.knd⟩
  rcases List.mem_cons.1 (hp.mem_iff.1 hp9) with rfl | h9
  · exact ⟨by unfold pairN; simp only; omega, pairN_ok ha hb⟩
  · exact h.ok p h9
theorem LOk.del (h : LOk L K) (k : Lit) : LOk (delG keyP L k) K := ⟨fun p hp => h.ok p (List.mem_filter.1 hp).1, h.nd.filter _, h.kok, h.knd⟩
/-- The links' map has turned. -/
theorem LK.turnP (h : LK w0 W pm b1 b2 n L K) {m : Nat} {L' : PL} (hm : n ≤ m) (hg : W.grownBy V (some b1)) (hp : PM V b1 m L') (hl : LOk L' K) : LK w0 V pm b1 b2 m L' K ∧ Fr (fun k => k = b1 ∨ k = b2) W V := by
  obtain ⟨n1, n2, n3⟩ := h.ne
  have hf : Fr (fun k => k = b1 ∨ k = b2) W V := Fr.of_grown hg fun k e _ => .inl (Option.some.inj e).symm
  refine ⟨?_, hf⟩
  exact { h with
    old := h.old.trans (hf.below h.old.size (fun k hk => by rcases hk with rfl | rfl; exact h.lo.2.1; exact h.lo.2.2))
    obj := h.obj.grown hg (fun e => n2 (Option.some.inj e))
    p := hp
    w := (h.w.grown hg (fun e => n1 (Option.some.inj e).symm)).mono hm
    hi := ⟨Nat.lt_of_lt_of_le h.hi.1 hg.size, Nat.lt_of_lt_of_le h.hi.2.1 hg.size, Nat.lt_of_lt_of_le h.hi.2.2 hg.size⟩
    lk := hl }
/-- What a method leaves. -/
def LEnd (w0 W : World) (pm b1 b2 n : Nat) (r : Value) (L : PL) (K : WL) (e : Ending) (w' : World) : Prop := e = .returned r ∧ LK w0 w' pm b1 b2 n L K ∧ Fr (fun k => k = b1 ∨ k = b2) W w'
set_option maxRecDepth 100000 in
set_option maxHeartbeats 2000000 in
theorem link_v (h : LK w0 W pm b1 b2 n L K) (a b : Int) (ha : i64ok a) (hb : i64ok b) (hn : n ≤ 99998) :
    Calls Try.prog 10 #[.pointer (some ⟨pm, 0, none⟩), .int .i64 a, .int .i64 b] W (LEnd w0 W pm b1 b2 (n + 1) (.bool (linkP L a b).1) (linkP L a b).2 K) := by
  obtain ⟨p1, p2⟩ := pairN_ok ha hb
  have HP := Lib.hid (And.intro p1 p2)
  have HH := Lib.hid h
  have HAB := Lib.hid (And.intro ha hb)
  obtain ⟨x, y, hxy⟩ : ∃ x y, pairN a b = (x, y) := ⟨_, _, rfl⟩
  have HXY := Lib.hid hxy
  have HPV := Lib.hid (pair_v a b)
  rw [hxy] at HPV
  clear h p1 p2 ha hb hxy
  have hmono : Hid (∀ V, LK w0 V pm b1 b2 n L K → LK w0 V pm b1 b2 (n + 1) L K) := fun V h => { h with p := h.p.mono (Nat.le_succ _), w := h.w.mono (Nat.le_succ _) }
  by_cases hab : a = b
  · subst hab
    have HE := Lib.hid (show linkP L a a = (false, L) by unfold linkP; rw [if_pos (.inl rfl)])
    go_enter Try.func10, Try.ntmps10
    go_upto_region 2 with (go_at_call 28; refine (HPV.out W).mono ?_; rintro e w1 ⟨rfl, hb1⟩; unfold pv)
    refine wp_world (fun V => LK w0 V pm b1 b2 n L K ∧ Fr (fun k => k = b1 ∨ k = b2) W V) ⟨(HH.out.keep hb1).keep (below_alloc _ _), (Fr.of_below hb1 _).same (Fr.alloc _ _ _)⟩ ?_
    rintro V ⟨h1, h2⟩
    have H1 := Lib.hid h1
    have H2 := Lib.hid h2
    have m0 := h1.obj.cell 0
    clear h1 h2 hb1
    go_quiet (fail)
    go_wp2
    go_ret
    rw [HE.out]
    exact ⟨rfl, hmono.out _ (H1.out.keep (below_drewN (Below.refl _ _) _)), H2.out.drewN _⟩
  have HIN := Lib.hid (hasP_iff HH.out.lk.ok HP.out.1 HP.out.2)
  rw [HXY.out] at HIN HP
  by_cases hin : hasP L (x, y) = true
  · have HE := Lib.hid (show linkP L a b = (false, L) by unfold linkP; rw [HXY.out, if_pos (.inr (HIN.out.1 hin))])
    have d1 : (a == b) = false := by simpa using hab
    go_enter Try.func10, Try.ntmps10
    go_upto_region 2 with (go_at_call 28; refine (HPV.out W).mono ?_; rintro e w1 ⟨rfl, hb1⟩; unfold pv)
    obtain ⟨gx, hgx⟩ : ∃ gx, w1.heap.size = gx := ⟨_, rfl⟩
    rw [hgx]
    refine wp_world (fun V => LK w0 V pm b1 b2 n L K ∧ Fr (fun k => k = b1 ∨ k = b2) W V ∧ Blk V gx 45 #[.int .i64 x, .int .i64 y]) ⟨(HH.out.keep hb1).keep (below_alloc _ _), (Fr.of_below hb1 _).same (Fr.alloc _ _ _), Blk.newAt9 hgx⟩ ?_
    rintro V ⟨h1, h2, h3⟩
    have H1 := Lib.hid h1
    have H2 := Lib.hid h2
    have m0 := h1.obj.cell 0
    have g0 := h3.cell 0
    have g1 := h3.cell 1
    have hlook : ∀ q, (Instr.lookup 53 (.map (some b1)) (.agg #[.int .i64 x, .int .i64 y]) false).run Try.prog (V.drewN q) = .ok (.bool true) (V.drewN q) := fun q => by
      have h9 := (h1.keep (below_drewN (Below.refl _ _) q)).p.look (p := (x, y)) HP.out.1 HP.out.2
      rw [hin] at h9
      exact h9
    clear h1 h2 h3 hb1 hgx hin
    go_quiet (fail)
    go_wp2
    go_ret
    rw [HE.out]
    exact ⟨rfl, hmono.out _ (H1.out.keep (below_drewN (Below.refl _ _) _)), H2.out.drewN _⟩
  · have hno : hasP L (x, y) = false := by simpa using hin
    have HNO := Lib.hid hno
    have HNM := Lib.hid (fun h9 => hin (HIN.out.2 h9))
    have HE := Lib.hid (show linkP L a b = (true, insG keyP (x, y) L) by unfold linkP; rw [HXY.out, if_neg (fun h9 => h9.elim hab (fun h8 => HNM.out h8))])
    have HLK := Lib.hid (by have h9 := HH.out.lk.add HAB.out.1 HAB.out.2 hab (by rw [HXY.out]; exact HNM.out); rw [HXY.out] at h9; exact h9 : LOk (insG keyP (x, y) L) K)
    have d1 : (a == b) = false := by simpa using hab
    go_enter Try.func10, Try.ntmps10
    go_upto_region 2 with (go_at_call 28; refine (HPV.out W).mono ?_; rintro e w1 ⟨rfl, hb1⟩; unfold pv)
    obtain ⟨gx, hgx⟩ : ∃ gx, w1.heap.size = gx := ⟨_, rfl⟩
    rw [hgx]
    refine wp_world (fun V => LK w0 V pm b1 b2 n L K ∧ Fr (fun k => k = b1 ∨ k = b2) W V ∧ Blk V gx 45 #[.int .i64 x, .int .i64 y]) ⟨(HH.out.keep hb1).keep (below_alloc _ _), (Fr.of_below hb1 _).same (Fr.alloc _ _ _), Blk.newAt9 hgx⟩ ?_
    rintro V ⟨h1, h2, h3⟩
    have H1 := Lib.hid h1
    have H2 := Lib.hid h2
    have H3 := Lib.hid h3
    have m0 := h1.obj.cell 0
    have g0 := h3.cell 0
    have g1 := h3.cell 1
    have hlook : ∀ q, (Instr.lookup 53 (.map (some b1)) (.agg #[.int .i64 x, .int .i64 y]) false).run Try.prog (V.drewN q) = .ok (.bool false) (V.drewN q) := fun q => by
      have h9 := (h1.keep (below_drewN (Below.refl _ _) q)).p.look (p := (x, y)) HP.out.1 HP.out.2
      rw [HNO.out] at h9
      exact h9
    clear h1 h2 h3 hb1 hgx hin hno
    go_quiet (fail)
    go_upto_region 4 with (fail)
    refine wp_world (fun V => LK w0 V pm b1 b2 n L K ∧ Fr (fun k => k = b1 ∨ k = b2) W V ∧ Blk V gx 45 #[.int .i64 x, .int .i64 y]) ⟨H1.out.keep (below_drewN (Below.refl _ _) _), H2.out.drewN _, H3.out.keep (below_drewN (Below.refl _ _) _)⟩ ?_
    clear H1 H2 H3 m0 g0 g1 hlook
    rintro V ⟨h1, h2, h3⟩
    have H1 := Lib.hid h1
    have H2 := Lib.hid h2
    have m0 := h1.obj.cell 0
    have g0 := h3.cell 0
    have g1 := h3.cell 1
    clear h1 h2 h3
    go_still_tail 5, (by kernel_rfl)
    refine wpList_world (fun U => LK w0 U pm b1 b2 n L K ∧ Fr (fun k => k = b1 ∨ k = b2) W U) ⟨H1.out.keep (Below.refl _ _).drew, H2.out.drew⟩ ?_
    clear H1 H2 m0 g0 g1
    rintro U ⟨h1, h2⟩
    obtain ⟨w9, hup, hg9, hp9⟩ := h1.p.add (by omega) (p := (x, y)) HP.out.1 HP.out.2 HNO.out
    unfold pv at hup
    obtain ⟨k1, k2⟩ := h1.turnP (Nat.le_succ n) hg9 hp9 HLK.out
    have HEND := Lib.hid (And.intro k1 (h2.same k2))
    clear h1 h2 hg9 hp9 k1 k2
    go_wp2
    go_ret
    rw [HE.out]
    exact ⟨rfl, HEND.out.1, HEND.out.2⟩
set_option maxRecDepth 100000 in
set_option maxHeartbeats 2000000 in
theorem unlink_v (h : LK w0 W pm b1 b2 n L K) (a b : Int) (ha : i64ok a) (hb : i64ok b) :
    Calls Try.prog 18 #[.pointer (some ⟨pm, 0, none⟩), .int .i64 a, .int .i64 b] W (LEnd w0 W pm b1 b2 n (.bool (unlinkP L a b).1) (unlinkP L a b).2 K) := by
  obtain ⟨p1, p2⟩ := pairN_ok ha hb
  have HP := Lib.hid (And.intro p1 p2)
  have HH := Lib.hid h
  obtain ⟨x, y, hxy⟩ : ∃ x y, pairN a b = (x, y) := ⟨_, _, rfl⟩
  have HXY := Lib.hid hxy
  have HPV := Lib.hid (pair_v a b)
  rw [hxy] at HPV
  clear h p1 p2 ha hb hxy
  have HIN := Lib.hid (hasP_iff HH.out.lk.ok HP.out.1 HP.out.2)
  rw [HXY.out] at HIN HP
  cases hin : hasP L (x, y) with
  | false =>
    have HNO := Lib.hid hin
    have HE := Lib.hid (show unlinkP L a b = (false, L) by unfold unlinkP; rw [HXY.out, if_neg (fun h9 => by have h8 := HIN.out.2 h9; rw [hin] at h8; cases h8)])
    clear hin
    go_enter Try.func18, Try.ntmps18
    go_upto_region 2 with (go_at_call 28; refine (HPV.out W).mono ?_; rintro e w1 ⟨rfl, hb1⟩; unfold pv)
    obtain ⟨gx, hgx⟩ : ∃ gx, w1.heap.size = gx := ⟨_, rfl⟩
    rw [hgx]
    refine wp_world (fun V => LK w0 V pm b1 b2 n L K ∧ Fr (fun k => k = b1 ∨ k = b2) W V ∧ Blk V gx 45 #[.int .i64 x, .int .i64 y]) ⟨(HH.out.keep hb1).keep (below_alloc _ _), (Fr.of_below hb1 _).same (Fr.alloc _ _ _), Blk.newAt9 hgx⟩ ?_
    rintro V ⟨h1, h2, h3⟩
    have H1 := Lib.hid h1
    have H2 := Lib.hid h2
    have H3 := Lib.hid h3
    have m0 := h1.obj.cell 0
    have g0 := h3.cell 0
    have g1 := h3.cell 1
    have hlook : ∀ q, (Instr.lookup 53 (.map (some b1)) (.agg #[.int .i64 x, .int .i64 y]) false).run Try.prog (V.drewN q) = .ok (.bool false) (V.drewN q) := fun q => by
      have h9 := (h1.keep (below_drewN (Below.refl _ _) q)).p.look (p := (x, y)) HP.out.1 HP.out.2
      rw [HNO.out] at h9
      exact h9
    clear h1 h2 h3 hb1 hgx
    go_quiet (fail)
    go_wp2
    go_ret
    rw [HE.out]
    exact ⟨rfl, H1.out.keep (below_drewN (Below.refl _ _) _), H2.out.drewN _⟩
  | true =>
    have HNO := Lib.hid hin
    have HE := Lib.hid (show unlinkP L a b = (true, delG keyP L (keyP (x, y))) by unfold unlinkP; rw [HXY.out, if_pos (HIN.out.1 hin)])
    clear hin
    go_enter Try.func18, Try.ntmps18
    go_upto_region 2 with (go_at_call 28; refine (HPV.out W).mono ?_; rintro e w1 ⟨rfl, hb1⟩; unfold pv)
    obtain ⟨gx, hgx⟩ : ∃ gx, w1.heap.size = gx := ⟨_, rfl⟩
    rw [hgx]
    refine wp_world (fun V => LK w0 V pm b1 b2 n L K ∧ Fr (fun k => k = b1 ∨ k = b2) W V ∧ Blk V gx 45 #[.int .i64 x, .int .i64 y]) ⟨(HH.out.keep hb1).keep (below_alloc _ _), (Fr.of_below hb1 _).same (Fr.alloc _ _ _), Blk.newAt9 hgx⟩ ?_
    rintro V ⟨h1, h2, h3⟩
    have H1 := Lib.hid h1
    have H2 := Lib.hid h2
    have H3 := Lib.hid h3
    have m0 := h1.obj.cell 0
    have g0 := h3.cell 0
    have g1 := h3.cell 1
    have hlook : ∀ q, (Instr.lookup 53 (.map (some b1)) (.agg #[.int .i64 x, .int .i64 y]) false).run Try.prog (V.drewN q) = .ok (.bool true) (V.drewN q) := fun q => by
      have h9 := (h1.keep (below_drewN (Below.refl _ _) q)).p.look (p := (x, y)) HP.out.1 HP.out.2
      rw [HNO.out] at h9
      exact h9
    clear h1 h2 h3 hb1 hgx
    go_quiet (fail)
    go_upto_region 4 with (fail)
    refine wp_world (fun V => LK w0 V pm b1 b2 n L K ∧ Fr (fun k => k = b1 ∨ k = b2) W V ∧ Blk V gx 45 #[.int .i64 x, .int .i64 y]) ⟨H1.out.keep (below_drewN (Below.refl _ _) _), H2.out.drewN _, H3.out.keep (below_drewN (Below.refl _ _) _)⟩ ?_
    clear H1 H2 H3 m0 g0 g1 hlook
    rintro V ⟨h1, h2, h3⟩
    have H1 := Lib.hid h1
    have H2 := Lib.hid h2
    have m0 := h1.obj.cell 0
    have g0 := h3.cell 0
    have g1 := h3.cell 1
    clear h1 h2 h3
    go_still_tail 5, (by kernel_rfl)
    refine wpList_world (fun U => LK w0 U pm b1 b2 n L K ∧ Fr (fun k => k = b1 ∨ k = b2) W U) ⟨H1.out.keep (Below.refl _ _).drew, H2.out.drew⟩ ?_
    clear H1 H2 m0 g0 g1
    rintro U ⟨h1, h2⟩
    have H1 := Lib.hid h1
    have H2 := Lib.hid h2
    clear h1 h2
    go_wp2_with (at_delete; refine wpList_delete_own _ rfl _ _ 53 45 rfl 4 kp Try.underlying53 _ b1 n (datG keyP (fun _ => .lit (.bool true)) L) rfl H1.out.p _ _ rfl (keyOfP (p := (x, y)) HP.out.1 HP.out.2) ?_; intro w9 o9 t9; rw [del_datG] at o9)
    obtain ⟨k1, k2⟩ := H1.out.turnP (Nat.le_refl n) t9.grown o9 (H1.out.lk.del _)
    go_ret
    rw [HE.out]
    exact ⟨rfl, k1, H2.out.same k2⟩
end
end Go.Proofs.Ytpfikhamokjdjaa
