/- Plain laws of a journal and its disk: what is found again. No program is named here. -/
import Derived.Test.YtcnhfbckaacalaaJouF
namespace Go.Proofs.Ytcnhfbckaacalaa
open Go.RowKit
set_option linter.unusedVariables false

/-- The first so many blocks are full, and count. -/
def Ch (c : Nat → Option (Nat × List UInt8)) (r : Nat) : Nat → Nat → List UInt8 → Prop
  | 0, l, S => l = 0 ∧ S = []
  | n + 1, l, S => ∃ l0 S0 ld, Ch c r n l0 S0 ∧ c n = some (l, ld) ∧ l0 ≤ l ∧ ld.length = r ∧ S = S0 ++ ld
theorem ch_len {c : Nat → Option (Nat × List UInt8)} {r : Nat} : ∀ {n l : Nat} {S : List UInt8}, Ch c r n l S → S.length = n * r
  | 0, l, S, h => by rw [h.2]; simp
  | n + 1, l, S, ⟨l0, S0, ld, h0, h1, h2, h3, h4⟩ => by rw [h4, List.length_append, ch_len h0, h3, Nat.succ_mul]
theorem ch_same {c c' : Nat → Option (Nat × List UInt8)} {r : Nat} : ∀ {n l : Nat} {S : List UInt8}, (∀ i, i < n → c' i = c i) → Ch c r n l S → Ch c' r n l S
  | 0, l, S, _, h => h
  | n + 1, l, S, he, ⟨l0, S0, ld, h0, h1, h2, h3, h4⟩ => ⟨l0, S0, ld, ch_same (fun i hi => he i (by omega)) h0, by rw [he n (by omega)]; exact h1, h2, h3, h4⟩
theorem ch_life {c : Nat → Option (Nat × List UInt8)} {r m : Nat} {n l : Nat} {S : List UInt8} (hm : ∀ i x, i < n → c i = some x → x.1 ≤ m) (h : Ch c r n l S) : l ≤ m := by
  cases n with
  | zero => rw [h.1]; exact Nat.zero_le _
  | succ n =>
    obtain ⟨l0, S0, ld, h0, h1, h2, h3, h4⟩ := h
    exact hm n (l, ld) (by omega) h1
theorem ch_take {c : Nat → Option (Nat × List UInt8)} {r m : Nat} : ∀ {n l : Nat} {S : List UInt8}, Ch c r n l S → m ≤ n → ∃ l', Ch c r m l' (S.take (m * r))
  | 0, l, S, h, hm => by
    obtain rfl : m = 0 := by omega
    exact ⟨0, rfl, by simp⟩
  | n + 1, l, S, h, hm => by
    by_cases he : m = n + 1
    · subst he
      exact ⟨l, by rw [List.take_of_length_le (by rw [ch_len h]; exact Nat.le_refl _)]; exact h⟩
    · obtain ⟨l0, S0, ld, h0, h1, h2, h3, h4⟩ := h
      obtain ⟨l', h5⟩ := ch_take h0 (show m ≤ n by omega)
      refine ⟨l', ?_⟩
      rw [h4, List.take_append_of_le_length (by rw [ch_len h0]; exact Nat.mul_le_mul_right _ (by omega))]
      exact h5
theorem cstep_none (rm life : Nat) : cstep rm life none = none := rfl
theorem cstep_old {rm life lf : Nat} {ld : List UInt8} (h : lf < life) : cstep rm life (some (lf, ld)) = none := by unfold cstep; rw [Option.bind_some, if_pos h]
theorem cstep_some {rm life lf : Nat} {ld : List UInt8} (h : ¬ lf < life) : cstep rm life (some (lf, ld)) = some (decide (ld.length < rm), lf, ld) := by unfold cstep; rw [Option.bind_some, if_neg h]
section
variable {D D' : DS} {fr ep : Nat}
theorem ch_read : ∀ {n l : Nat} {S : List UInt8}, Ch (jcell D fr ep) (D.size - 15) n l S → ∀ k, jread D fr ep (n + k) 0 0 [] = jread D fr ep k n l S
  | 0, l, S, h, k => by obtain ⟨rfl, rfl⟩ := h; rw [Nat.zero_add]
  | n + 1, l, S, ⟨l0, S0, ld, h0, h1, h2, h3, h4⟩, k => by
    have h5 := ch_read h0 (k + 1)
    have h6 : jst D fr ep n l0 = some (false, l, ld) := by
      rw [jst_cell, h1, cstep_some (by omega)]
      congr 2
      rw [decide_eq_false_iff_not]; omega
    rw [show n + 1 + k = n + (k + 1) by omega, h5, jread_more h6, h4]
theorem ch_stop {n l : Nat} {S : List UInt8} (h : Ch (jcell D fr ep) (D.size - 15) n l S) {len : Nat} (hl : n ≤ len) (hs : ∀ x, n < len → jcell D fr ep n = some x → x.1 < l) : jread D fr ep len 0 0 [] = (S, l) := by
  have h1 := ch_read h (len - n)
  rw [show n + (len - n) = len by omega] at h1
  rw [h1]
  cases hk : len - n with
  | zero => exact jread_zero
  | succ k =>
    apply jread_none
    rw [jst_cell]
    cases hc : jcell D fr ep n with
    | none => rfl
    | some x => exact cstep_old (hs x (by omega) hc)
theorem ch_last {n l lf : Nat} {S ld : List UInt8} (h : Ch (jcell D fr ep) (D.size - 15) n l S) {len : Nat} (hl : n < len) (hc : jcell D fr ep n = some (lf, ld)) (h1 : l ≤ lf) (h2 : ld.length < D.size - 15) : jread D fr ep len 0 0 [] = (S ++ ld, lf) := by
  have h3 := ch_read h (len - n)
  rw [show n + (len - n) = len by omega] at h3
  rw [h3]
  obtain ⟨k, hk⟩ : ∃ k, len - n = k + 1 := ⟨len - n - 1, by omega⟩
  rw [hk]
  apply jread_last
  rw [jst_cell, hc, cstep_some (by omega)]
  congr 2
  rw [decide_eq_true_iff]; exact h2
end
/-- A journal and its disk: the records; so many are surely found again. -/
structure JSt (D : DS) (J : JV) (all : List (List UInt8)) (c : Nat) : Prop where
  strm : J.stream = laidSs all
  recs : J.records = all.length
  chain : ∃ l, Ch (jcell D J.from_ J.epoch) (D.size - 15) (J.safe / (D.size - 15)) l (J.stream.take (J.safe / (D.size - 15) * (D.size - 15))) ∧ l ≤ J.life
  stale : ∀ i x, J.safe / (D.size - 15) < i → i < J.len → jcell D J.from_ J.epoch i = some x → x.1 < J.life
  rd : ∃ RS lf k, jread D J.from_ J.epoch J.len 0 0 [] = (RS, lf) ∧ lf ≤ J.life ∧ (∀ i x, i < J.len → jcell D J.from_ J.epoch i = some x → x.1 ≤ lf) ∧ jopenRecs RS = (all.take k, (laidSs (all.take k)).length) ∧ RS.take (laidSs (all.take k)).length = laidSs (all.take k) ∧ c ≤ k ∧ k ≤ all.length ∧ (laidSs (all.take k)).length ≤ J.safe ∧ (k < all.length → J.safe < (laidSs (all.take (k + 1))).length)
  small : ∀ s ∈ all, s.length < 18446744073709551616
section
variable {D D' : DS} {J : JV} {all : List (List UInt8)} {c : Nat}
theorem JSt.less (h : JSt D J all c) {c' : Nat} (hc : c' ≤ c) : JSt D J all c' := by
  obtain ⟨RS, lf, k, a1, a2, a3, a4, a5, a6, a7⟩ := h.rd
  exact ⟨h.strm, h.recs, h.chain, h.stale, ⟨RS, lf, k, a1, a2, a3, a4, a5, Nat.le_trans hc a6, a7⟩, h.small⟩
/-- A record more, in memory alone. -/
theorem JSt.add (h : JSt D J all c) (hj : JOk J D) {p : List UInt8} (hp : p.length < 18446744073709551616) : JSt D { J with stream := J.stream ++ laidS p, records := J.records + 1 } (all ++ [p]) c := by
  obtain ⟨RS, lf, k, a1, a2, a3, a4, a5, a6, a7, a8, a9⟩ := h.rd
  have hsf := hj.safe
  have ht : ∀ j, j ≤ all.length → (all ++ [p]).take j = all.take j := fun j hj => List.take_append_of_le_length hj
  have hq : J.safe / (D.size - 15) * (D.size - 15) ≤ J.stream.length := Nat.le_trans (Nat.div_mul_le_self _ _) hsf
  refine ⟨by show J.stream ++ laidS p = _; rw [h.strm, laidSs_snoc], by show J.records + 1 = _; rw [h.recs, List.length_append]; rfl, ?_, h.stale, ⟨RS, lf, k, a1, a2, a3, by rw [ht k a7]; exact a4, by rw [ht k a7]; exact a5, a6, by rw [List.length_append]; omega, by rw [ht k a7]; exact a8, fun _ => ?_⟩, fun s hs => ?_⟩
  · show ∃ l, Ch _ _ _ l ((J.stream ++ laidS p).take _) ∧ _
    rw [List.take_append_of_le_length hq]
    exact h.chain
  · show J.safe < _
    by_cases hk : k < all.length
    · rw [ht (k + 1) (by omega)]; exact a9 hk
    · rw [List.take_of_length_le (by rw [List.length_append]; simp; omega), laidSs_snoc, List.length_append, ← h.strm]
      have := laidS_pos p
      omega
  · rcases List.mem_append.1 hs with h1 | h1
    · exact h.small s h1
    · rw [List.mem_singleton.1 h1]; exact hp
/-- Nothing on the disk has turned. -/
theorem JSt.disk (h : JSt D J all c) (hs : D'.size = D.size) (hb : ∀ n, D'.blockB n = D.blockB n) : JSt D' J all c := by
  have hc : jcell D' = jcell D := by funext fr ep i; exact jcell_same hb fr ep i
  have hr : ∀ k, jread D' J.from_ J.epoch k 0 0 [] = jread D J.from_ J.epoch k 0 0 [] := fun k => by
    have : jst D' J.from_ J.epoch = jst D J.from_ J.epoch := by funext i l; rw [jst_cell, jst_cell, hs, hc]
    unfold jread; rw [this]
  obtain ⟨RS, lf, k, a1, a2, a3, a4⟩ := h.rd
  refine ⟨h.strm, h.recs, by rw [hs, hc]; exact h.chain, by rw [hs, hc]; exact h.stale, ⟨RS, lf, k, by rw [hr]; exact a1, a2, by rw [hc]; exact a3, a4⟩, h.small⟩
theorem JSt.broke (h : JSt D J all c) (b : Bool) : JSt D { J with broken := b } all c := ⟨h.strm, h.recs, h.chain, h.stale, h.rd, h.small⟩
/-- All is on the disk. -/
theorem JSt.full (h : JSt D J all c) (hs : J.safe = J.stream.length) : JSt D J all all.length := by
  obtain ⟨RS, lf, k, a1, a2, a3, a4, a5, a6, a7, a8, a9⟩ := h.rd
  have hk : k = all.length := by
    by_cases hk : k < all.length
    · have h1 := a9 hk
      have h2 := laidSs_mono all (show k + 1 ≤ all.length from hk)
      rw [List.take_of_length_le (Nat.le_refl _), ← h.strm] at h2
      omega
    · omega
  exact ⟨h.strm, h.recs, h.chain, h.stale, ⟨RS, lf, k, a1, a2, a3, a4, a5, by omega, a7, a8, a9⟩, h.small⟩
/-- A block is written. -/
theorem JSt.wrote (h : JSt D J all c) (hj : JOk J D) (ok : D.Ok) (hoff : D.off = false) (hleft : D.left ≠ 0) (hlt : J.blk D < J.len) (hgt : J.safe < J.to_ D) (hlg : D.log.length + 1 ≤ 1000000) : JSt (J.wr D).2.2 { J with safe := J.to_ D } all c := by
  obtain ⟨w1, w2, w3, w4, w5, w6, w7, w8, wc⟩ := wr_yes ok hj hoff hleft hlt hlg
  obtain ⟨RS, lf, k, a1, a2, a3, a4, a5, a6, a7, a8, a9⟩ := h.rd
  obtain ⟨l, hch, hl⟩ := h.chain
  have hs1 := ok.s1
  have harea := hj.area
  have hl2 := hj.l2
  generalize hD' : (J.wr D).2.2 = D' at *
  have hcell : ∀ i, i < J.len → jcell D' J.from_ J.epoch i = if i = J.blk D then some (J.life, J.load D) else jcell D J.from_ J.epoch i := fun i hi => by
    have := wc J.epoch i (by omega) (by omega)
    rw [if_pos rfl] at this
    exact this
  obtain ⟨r, hr⟩ : ∃ r, D.size - 15 = r := ⟨_, rfl⟩
  obtain ⟨n, hn⟩ : ∃ n, J.safe / r = n := ⟨_, rfl⟩
  have hr0 : 0 < r := by omega
  have hblk : J.blk D = n := by unfold JV.blk; rw [hr, hn]
  have hto : J.to_ D = min J.stream.length ((n + 1) * r) := by unfold JV.to_; rw [hblk, hr]
  have hld : J.load D = (J.stream.drop (n * r)).take (J.to_ D - n * r) := by unfold JV.load; rw [hblk, hr]
  have hn1 : n * r ≤ J.safe := by rw [← hn]; exact Nat.div_mul_le_self _ _
  have hsm : (n + 1) * r = n * r + r := Nat.succ_mul _ _
  rw [hblk] at hcell hlt
  rw [hr, hn] at hch
  obtain ⟨to, hto'⟩ : ∃ to, J.to_ D = to := ⟨_, rfl⟩
  rw [hto'] at hto hgt hld
  have hldl : (J.load D).length = to - n * r := by
    rw [hld, List.length_take, List.length_drop]; omega
  have hcat : J.stream.take (n * r) ++ J.load D = J.stream.take to := by
    rw [hld]
    have h9 := List.take_append_drop (n * r) (J.stream.take to)
    rw [List.take_take, Nat.min_eq_left (by omega)] at h9
    rw [← h9]
    congr 1
    rw [List.drop_take]
  have hch' : Ch (jcell D' J.from_ J.epoch) r n l (J.stream.take (n * r)) := ch_same (fun i hi => by rw [hcell i (by omega), if_neg (by omega)]) hch
  have hcn : jcell D' J.from_ J.epoch n = some (J.life, J.load D) := by rw [hcell n hlt, if_pos rfl]
  have hsz : D'.size - 15 = r := by rw [w5, hr]
  have hst' : ∀ i x, n < i → i < J.len → jcell D' J.from_ J.epoch i = some x → x.1 < J.life := fun i x h1 h2 h3 => by
    rw [hcell i h2, if_neg (by omega)] at h3
    exact h.stale i x (by rw [hr, hn]; exact h1) h2 h3
  have hlives : ∀ i x, i < J.len → jcell D' J.from_ J.epoch i = some x → x.1 ≤ J.life := fun i x h1 h2 => by
    rw [hcell i h1] at h2
    by_cases h3 : i = n
    · rw [if_pos h3] at h2
      injection h2 with h2
      rw [← h2]; exact Nat.le_refl _
    · rw [if_neg h3] at h2
      exact Nat.le_trans (a3 i x h1 h2) a2
  have hmain : (∃ l', Ch (jcell D' J.from_ J.epoch) r (to / r) l' (J.stream.take (to / r * r)) ∧ l' ≤ J.life) ∧ n ≤ to / r ∧ jread D' J.from_ J.epoch J.len 0 0 [] = (J.stream.take to, J.life) := by
    by_cases hf : to = (n + 1) * r
    · have hq : to / r = n + 1 := by rw [hf]; exact Nat.mul_div_cancel _ hr0
      have hch2 : Ch (jcell D' J.from_ J.epoch) r (n + 1) J.life (J.stream.take to) := ⟨l, _, _, hch', hcn, hl, by rw [hldl]; omega, hcat.symm⟩
      refine ⟨⟨J.life, by rw [hq, ← hf]; exact hch2, Nat.le_refl _⟩, by omega, ?_⟩
      rw [← hsz] at hch2
      exact ch_stop hch2 (by omega) (fun x h1 h2 => hst' (n + 1) x (by omega) h1 h2)
    · have hq : to / r = n := by
        refine Nat.div_eq_of_lt_le (by omega) ?_
        omega
      refine ⟨⟨l, by rw [hq]; exact hch', hl⟩, by omega, ?_⟩
      rw [← hsz] at hch'
      rw [← hcat]
      have h9 := ch_last hch' hlt hcn hl (by rw [hldl, hsz]; omega)
      rw [hsz] at h9
      exact h9
  obtain ⟨hm1, hm2, hm3⟩ := hmain
  have htol : to ≤ (laidSs all).length := by rw [← h.strm]; omega
  obtain ⟨k', b1, b2, b3, b4⟩ := recs_take all to h.small htol
  have hck : c ≤ k' := by
    by_cases h9 : c ≤ k'
    · exact h9
    · have h1 := b4 (by omega)
      have h2 := laidSs_mono all (show k' + 1 ≤ k by omega)
      omega
  rw [hto']
  refine ⟨h.strm, h.recs, ?_, ?_, ⟨J.stream.take to, J.life, k', hm3, Nat.le_refl _, hlives, by rw [h.strm]; exact b2, ?_, hck, b1, b3, b4⟩, h.small⟩
  · rw [hsz]; exact hm1
  · intro i x h1 h2 h3
    rw [hsz] at h1
    exact hst' i x (by show n < i; have : to / r < i := h1; omega) h2 h3
  · rw [List.take_take, Nat.min_eq_left b3, h.strm]
    have e : laidSs all = laidSs (all.take k') ++ laidSs (all.drop k') := by rw [← laidSs_app, List.take_append_drop]
    rw [e, List.take_left' rfl]
/-- Opened again. -/
theorem JSt.opened (h : JSt D J all c) (hj : JOk J D) : ∃ RS lf k, jread D J.from_ J.epoch J.len 0 0 [] = (RS, lf) ∧ lf ≤ J.life ∧ jopenRecs RS = (all.take k, (laidSs (all.take k)).length) ∧ c ≤ k ∧ k ≤ all.length ∧ RS.take (laidSs (all.take k)).length = laidSs (all.take k) ∧
    JSt D ⟨J.from_, J.len, J.epoch, lf + 1, RS.take (laidSs (all.take k)).length, (laidSs (all.take k)).length, (all.take k).length, false⟩ (all.take k) k := by
  obtain ⟨RS, lf, k, a1, a2, a3, a4, a5, a6, a7, a8, a9⟩ := h.rd
  obtain ⟨l, hch, hl⟩ := h.chain
  refine ⟨RS, lf, k, a1, a2, a4, a6, a7, a5, a5, rfl, ?_, fun i x h1 h2 h3 => ?_, ⟨RS, lf, k, a1, by show lf ≤ lf + 1; omega, a3, by rw [List.take_take, Nat.min_self]; exact a4, by rw [List.take_take, Nat.min_self]; exact a5, Nat.le_refl _, by rw [List.length_take]; omega, by rw [List.take_take, Nat.min_self]; exact Nat.le_refl _, fun h9 => by rw [List.length_take] at h9; omega⟩, fun s hs => h.small s (List.mem_of_mem_take hs)⟩
  · have hq : (laidSs (all.take k)).length / (D.size - 15) ≤ J.safe / (D.size - 15) := Nat.div_le_div_right a8
    obtain ⟨l', h5⟩ := ch_take hch hq
    have hle : (laidSs (all.take k)).length / (D.size - 15) * (D.size - 15) ≤ (laidSs (all.take k)).length := Nat.div_mul_le_self _ _
    have hle2 : (laidSs (all.take k)).length / (D.size - 15) * (D.size - 15) ≤ J.safe / (D.size - 15) * (D.size - 15) := Nat.mul_le_mul_right _ hq
    have e : laidSs all = laidSs (all.take k) ++ laidSs (all.drop k) := by rw [← laidSs_app, List.take_append_drop]
    rw [List.take_take, Nat.min_eq_left hle2, h.strm, e, List.take_append_of_le_length hle] at h5
    refine ⟨l', by show Ch _ _ _ l' ((RS.take _).take _); rw [a5]; exact h5, ?_⟩
    refine Nat.le_succ_of_le (ch_life (fun i x h1 h2 => a3 i x ?_ h2) h5)
    have h6 : J.safe / (D.size - 15) ≤ J.len := Nat.div_le_of_le_mul (by rw [Nat.mul_comm]; exact Nat.le_trans hj.safe hj.room)
    exact Nat.lt_of_lt_of_le h1 (Nat.le_trans hq h6)
  · have h4 := a3 i x h2 h3
    show x.1 < lf + 1
    omega
end
end Go.Proofs.Ytcnhfbckaacalaa
