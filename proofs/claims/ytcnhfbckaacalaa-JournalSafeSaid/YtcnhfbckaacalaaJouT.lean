/- Plain laws of Append and Flush. No program is named here. -/
import Derived.Test.YtcnhfbckaacalaaJouS
namespace Go.Proofs.Ytcnhfbckaacalaa
open Go.RowKit
set_option linter.unusedVariables false

/-- What an act keeps. -/
structure JKeep (J : JV) (D : DS) (J' : JV) (D' : DS) (n : Nat) : Prop where
  from_ : J'.from_ = J.from_
  len : J'.len = J.len
  epoch : J'.epoch = J.epoch
  life : J'.life = J.life
  size : D'.size = D.size
  nb : D'.nb = D.nb
  log : D'.log.length ≤ D.log.length + n
  cells : ∀ ep i, ep ≠ J.epoch → i < J.len → jcell D J.from_ ep i = none → jcell D' J.from_ ep i = none
  left : D.left = -1 → D'.left = -1
theorem JKeep.refl (J : JV) (D : DS) : JKeep J D J D 0 := ⟨rfl, rfl, rfl, rfl, rfl, rfl, Nat.le_refl _, fun _ _ _ _ h => h, fun h => h⟩
section
variable {D D' : DS} {J : JV} {all : List (List UInt8)} {c : Nat}
theorem JKeep.trans {J2 J3 : JV} {D2 D3 : DS} {n m : Nat} (a : JKeep J D J2 D2 n) (b : JKeep J2 D2 J3 D3 m) : JKeep J D J3 D3 (n + m) := by
  refine ⟨b.from_.trans a.from_, b.len.trans a.len, b.epoch.trans a.epoch, b.life.trans a.life, b.size.trans a.size, b.nb.trans a.nb, by have := a.log; have := b.log; omega, fun ep i h1 h2 h3 => ?_, fun h => b.left (a.left h)⟩
  have h4 := b.cells ep i (by rw [a.epoch]; exact h1) (by rw [a.len]; exact h2)
  rw [a.from_] at h4
  exact h4 (a.cells ep i h1 h2 h3)
theorem to_le : J.to_ D ≤ J.stream.length := by unfold JV.to_; omega
theorem jok_wrote (hj : JOk J D) (h1 : D'.size = D.size) (h2 : D'.nb = D.nb) : JOk { J with safe := J.to_ D } D' :=
  ⟨by show _ ≤ D'.nb; rw [h2]; exact hj.area, hj.l1, hj.l2, hj.ep, hj.lf1, hj.lf2, to_le, by show _ ≤ _ * (D'.size - 15); rw [h1]; exact hj.room, hj.recs⟩
/-- No block that is full is to be written. -/
def JSet (J : JV) (D : DS) : Prop := J.safe / (D.size - 15) = J.stream.length / (D.size - 15) ∨ J.broken = true
/-- One block more, or the power was off. -/
theorem wr_law (h : JSt D J all c) (hj : JOk J D) (ok : D.Ok) (hlt : J.blk D < J.len) (hgt : J.safe < J.to_ D) (hlg : D.log.length + 1 ≤ 1000000) :
    JSt (J.wr D).2.2 (J.wr D).2.1 all c ∧ JKeep J D (J.wr D).2.1 (J.wr D).2.2 1 ∧ (J.wr D).2.1.stream = J.stream ∧ (J.wr D).2.1.records = J.records ∧
    ((J.wr D).1 = 0 → (J.wr D).2.1 = { J with safe := J.to_ D } ∧ (J.wr D).2.2.Ok ∧ JOk (J.wr D).2.1 (J.wr D).2.2) ∧ (D.off = false → D.left = -1 → (J.wr D).1 = 0 ∧ (J.wr D).2.2.off = false) ∧ ((J.wr D).1 ≠ 0 → (J.wr D).2.1.broken = true) ∧ ((J.wr D).1 ≠ 0 → (J.wr D).2.1.safe = J.safe) := by
  by_cases hno : D.off = true ∨ D.left = 0
  · obtain ⟨h1, h2, h3⟩ := wr_no ok hj hno hlt
    refine ⟨?_, ?_, by rw [h2], by rw [h2], fun h9 => absurd h9 h1, fun h8 h9 => ?_, fun _ => by rw [h2], fun _ => by rw [h2]⟩
    · rw [h2, h3]
      exact (h.disk (D' := { D with off := true }) rfl (fun _ => rfl)).broke true
    · rw [h2, h3]
      exact ⟨rfl, rfl, rfl, rfl, rfl, rfl, Nat.le_succ _, fun ep i _ _ h9 => by rw [← h9]; exact jcell_same (fun _ => rfl) _ _ _, fun h9 => h9⟩
    · rcases hno with h7 | h7
      · rw [h8] at h7; cases h7
      · omega
  · have hoff : D.off = false := by cases hq : D.off with
      | false => rfl
      | true => exact absurd (.inl hq) hno
    have hleft : D.left ≠ 0 := fun e => hno (.inr e)
    obtain ⟨w1, w2, w3, w4, w5, w6, w7, w8, wc⟩ := wr_yes ok hj hoff hleft hlt hlg
    have ha := hj.area
    have hl2 := hj.l2
    refine ⟨by rw [w2]; exact h.wrote hj ok hoff hleft hlt hgt hlg, ?_, by rw [w2], by rw [w2], fun _ => ⟨w2, w8, by rw [w2]; exact jok_wrote hj w5 w6⟩, fun _ _ => ⟨w1, w3⟩, fun h9 => absurd w1 h9, fun h9 => absurd w1 h9⟩
    rw [w2]
    refine ⟨rfl, rfl, rfl, rfl, w5, w6, by omega, fun ep i h1 h2 h3 => ?_, fun h9 => by rw [w4]; omega⟩
    rw [wc ep i (by omega) (by omega)]
    by_cases h4 : i = J.blk D
    · rw [if_pos h4, if_neg h1]
    · rw [if_neg h4]; exact h3
/-- The blocks that are full are written. -/
theorem flushes_law : ∀ (k : Nat) (J : JV) (D : DS), JSt D J all c → JOk J D → D.Ok → J.stream.length / (D.size - 15) - J.safe / (D.size - 15) ≤ k → ∀ n, J.stream.length / (D.size - 15) - J.safe / (D.size - 15) ≤ n → D.log.length + n ≤ 1000000 →
    JSt (JV.flushes k J D).2.2 (JV.flushes k J D).2.1 all c ∧ JKeep J D (JV.flushes k J D).2.1 (JV.flushes k J D).2.2 n ∧ (JV.flushes k J D).2.1.stream = J.stream ∧ (JV.flushes k J D).2.1.records = J.records ∧ (D.off = false → D.left = -1 → (JV.flushes k J D).1 = 0 ∧ (JV.flushes k J D).2.2.off = false ∧ (JV.flushes k J D).2.1.broken = J.broken) ∧ JSet (JV.flushes k J D).2.1 (JV.flushes k J D).2.2 ∧ (JV.flushes k J D).2.1.safe ≤ max J.safe (J.stream.length / (D.size - 15) * (D.size - 15))
  | 0, J, D, h, hj, ok, hk, n, hn, hlg => by
    unfold JV.flushes
    exact ⟨h, ⟨rfl, rfl, rfl, rfl, rfl, rfl, Nat.le_add_right _ _, fun _ _ _ _ h => h, fun h => h⟩, rfl, rfl, fun h1 _ => ⟨rfl, h1, rfl⟩, .inl (Nat.le_antisymm (Nat.div_le_div_right hj.safe) (by show J.stream.length / (D.size - 15) ≤ J.safe / (D.size - 15); omega)), Nat.le_max_left _ _⟩
  | k + 1, J, D, h, hj, ok, hk, n, hn, hlg => by
    unfold JV.flushes
    by_cases hc : J.safe / (D.size - 15) < J.stream.length / (D.size - 15)
    · rw [if_pos hc]
      have hs1 := ok.s1
      obtain ⟨r, hr⟩ : ∃ r, D.size - 15 = r := ⟨_, rfl⟩
      have hr0 : 0 < r := by omega
      have hroom := hj.room
      rw [hr] at hc hk hn hroom
      have hq : J.stream.length / r ≤ J.len := Nat.div_le_of_le_mul (by rw [Nat.mul_comm]; exact hroom)
      have hblk : J.blk D = J.safe / r := by unfold JV.blk; rw [hr]
      have h1 : (J.safe / r + 1) * r ≤ J.stream.length := Nat.le_trans (Nat.mul_le_mul_right _ hc) (Nat.div_mul_le_self _ _)
      have hto : J.to_ D = (J.safe / r + 1) * r := by unfold JV.to_; rw [hblk, hr]; omega
      have h2 : J.safe < (J.safe / r + 1) * r := by
        have h8 := Nat.div_add_mod J.safe r
        have h9 := Nat.mod_lt J.safe hr0
        rw [Nat.succ_mul, Nat.mul_comm]; omega
      obtain ⟨a1, a2, a3, a4, a5, a6, a7, a8⟩ := wr_law h hj ok (by omega) (by omega) (by omega)
      by_cases he : (J.wr D).1 = 0
      · rw [if_pos he]
        obtain ⟨b1, b2, b3⟩ := a5 he
        have hsz := a2.size
        have hd : (J.wr D).2.1.stream.length / ((J.wr D).2.2.size - 15) - (J.wr D).2.1.safe / ((J.wr D).2.2.size - 15) = J.stream.length / r - (J.safe / r + 1) := by
          rw [a3, hsz, hr, b1]
          show _ - J.to_ D / r = _
          rw [hto, Nat.mul_div_cancel _ hr0]
        have hl1 := a2.log
        obtain ⟨c1, c2, c3, c4, c5, c6, c7⟩ := flushes_law k (J.wr D).2.1 (J.wr D).2.2 a1 b3 b2 (by rw [hd]; omega) (n - 1) (by rw [hd]; omega) (by omega)
        refine ⟨c1, ?_, c3.trans a3, c4.trans a4, fun h7 h8 => ?_, c6, ?_⟩
        · have := a2.trans c2
          rw [show 1 + (n - 1) = n by omega] at this
          exact this
        · obtain ⟨d1, d2, d3⟩ := c5 (a6 h7 h8).2 (a2.left h8)
          exact ⟨d1, d2, by rw [d3, b1]⟩
        · have h5 : (J.wr D).2.1.safe = (J.safe / r + 1) * r := by rw [b1]; exact hto
          rw [h5, a3, hsz, hr] at c7
          rw [hr]
          have h6 : (J.safe / r + 1) * r ≤ J.stream.length / r * r := Nat.mul_le_mul_right _ hc
          omega
      · rw [if_neg he]
        have hl1 := a2.log
        exact ⟨a1, ⟨a2.from_, a2.len, a2.epoch, a2.life, a2.size, a2.nb, by omega, a2.cells, a2.left⟩, a3, a4, fun h7 h8 => absurd (a6 h7 h8).1 he, .inr (a7 he), by rw [a8 he]; exact Nat.le_max_left _ _⟩
    · rw [if_neg hc]
      exact ⟨h, ⟨rfl, rfl, rfl, rfl, rfl, rfl, Nat.le_add_right _ _, fun _ _ _ _ h => h, fun h => h⟩, rfl, rfl, fun h1 _ => ⟨rfl, h1, rfl⟩, .inl (Nat.le_antisymm (Nat.div_le_div_right hj.safe) (by show J.stream.length / (D.size - 15) ≤ J.safe / (D.size - 15); omega)), Nat.le_max_left _ _⟩
/-- Append. -/
theorem app_law (h : JSt D J all c) (hj : JOk J D) (ok : D.Ok) {p : List UInt8} (hp : p.length < 18446744073709551616) (hlg : D.log.length + J.len ≤ 1000000) :
    ((J.app D p).1 ≠ 0 ∧ (J.app D p).2 = (J, D) ∧ (J.broken = true ∨ J.left D < (laidS p).length)) ∨
    (J.broken = false ∧ (laidS p).length ≤ J.left D ∧ JSt (J.app D p).2.2 (J.app D p).2.1 (all ++ [p]) c ∧ JKeep J D (J.app D p).2.1 (J.app D p).2.2 J.len ∧ (J.app D p).2.1.stream = J.stream ++ laidS p ∧ (J.app D p).2.1.records = J.records + 1 ∧
      (D.off = false → D.left = -1 → (J.app D p).1 = 0 ∧ (J.app D p).2.2.off = false ∧ (J.app D p).2.1.broken = false) ∧ JSet (J.app D p).2.1 (J.app D p).2.2 ∧ (J.app D p).2.1.safe ≤ max J.safe ((J.stream.length + (laidS p).length) / (D.size - 15) * (D.size - 15))) := by
  unfold JV.app
  by_cases hb : J.broken = true
  · rw [if_pos hb]; exact .inl ⟨by show (61 : Nat) ≠ 0; omega, rfl, .inl hb⟩
  rw [if_neg hb]
  by_cases hl : J.left D < (laidS p).length
  · rw [if_pos hl]; exact .inl ⟨by show (60 : Nat) ≠ 0; omega, rfl, .inr hl⟩
  rw [if_neg hl]
  right
  have hbf : J.broken = false := by cases hq : J.broken with
    | false => rfl
    | true => exact absurd hq hb
  have hs1 := ok.s1
  have hroom := hj.room
  have hle : (J.stream ++ laidS p).length ≤ J.len * (D.size - 15) := by rw [List.length_append]; unfold JV.left at hl; omega
  have hps := laidS_pos p
  have hj2 : JOk { J with stream := J.stream ++ laidS p, records := J.records + 1 } D := ⟨hj.area, hj.l1, hj.l2, hj.ep, hj.lf1, hj.lf2, by show J.safe ≤ (J.stream ++ laidS p).length; rw [List.length_append]; have := hj.safe; omega, hle, by show J.records + 1 ≤ (J.stream ++ laidS p).length; rw [List.length_append]; have := hj.recs; omega⟩
  have hq : (J.stream ++ laidS p).length / (D.size - 15) ≤ J.len := Nat.div_le_of_le_mul (by rw [Nat.mul_comm]; exact hle)
  have hq2 : (J.stream ++ laidS p).length / (D.size - 15) ≤ (J.stream ++ laidS p).length := Nat.div_le_self _ _
  rw [List.length_append] at hq2
  obtain ⟨c1, c2, c3, c4, c5, c6, c7⟩ := flushes_law (J.stream.length + (laidS p).length + 1) { J with stream := J.stream ++ laidS p, records := J.records + 1 } D (h.add hj hp) hj2 ok
    (Nat.le_trans (Nat.sub_le _ _) (Nat.le_trans (Nat.div_le_self _ _) (by show (J.stream ++ laidS p).length ≤ _; rw [List.length_append]; omega))) J.len (Nat.le_trans (Nat.sub_le _ _) hq) hlg
  refine ⟨hbf, by omega, c1, ⟨c2.from_, c2.len, c2.epoch, c2.life, c2.size, c2.nb, c2.log, c2.cells, c2.left⟩, c3, c4, fun h1 h2 => ⟨(c5 h1 h2).1, (c5 h1 h2).2.1, by rw [(c5 h1 h2).2.2]; exact hbf⟩, c6, ?_⟩
  have e : (J.stream ++ laidS p).length = J.stream.length + (laidS p).length := List.length_append
  refine Nat.le_trans c7 ?_
  show max J.safe ((J.stream ++ laidS p).length / _ * _) ≤ _
  rw [e]; exact Nat.le_refl _
/-- Flush. -/
theorem flush_law (h : JSt D J all c) (hj : JOk J D) (ok : D.Ok) (hlt : JSet J D) (hlg : D.log.length + 1 ≤ 1000000) :
    JSt (J.flush D).2.2 (J.flush D).2.1 all (if (J.flush D).1 = 0 then all.length else c) ∧ JKeep J D (J.flush D).2.1 (J.flush D).2.2 1 ∧ (J.flush D).2.1.stream = J.stream ∧ (J.flush D).2.1.records = J.records ∧
    ((J.flush D).1 = 0 → (J.flush D).2.1.safe = J.stream.length ∧ (J.flush D).2.1.broken = false) ∧ (D.off = false → D.left = -1 → J.broken = false → (J.flush D).1 = 0 ∧ (J.flush D).2.2.off = false) ∧ JSet (J.flush D).2.1 (J.flush D).2.2 := by
  unfold JV.flush
  by_cases hb : J.broken = true
  · rw [if_pos hb]
    exact ⟨h, ⟨rfl, rfl, rfl, rfl, rfl, rfl, Nat.le_add_right _ _, fun _ _ _ _ h => h, fun h => h⟩, rfl, rfl, fun h9 => absurd h9 (by show (61 : Nat) ≠ 0; omega), (fun _ _ h9 => absurd hb (by rw [h9]; simp)), hlt⟩
  rw [if_neg hb]
  have hbf : J.broken = false := by cases hq : J.broken with
    | false => rfl
    | true => exact absurd hq hb
  have hset := hlt
  have hlt : J.safe / (D.size - 15) = J.stream.length / (D.size - 15) := hlt.resolve_right hb
  by_cases he : J.safe = J.stream.length
  · rw [if_pos he]
    exact ⟨h.full he, ⟨rfl, rfl, rfl, rfl, rfl, rfl, Nat.le_add_right _ _, fun _ _ _ _ h => h, fun h => h⟩, rfl, rfl, fun _ => ⟨he, hbf⟩, fun h1 _ _ => ⟨rfl, h1⟩, hset⟩
  rw [if_neg he]
  have hs1 := ok.s1
  have hsf := hj.safe
  obtain ⟨r, hr⟩ : ∃ r, D.size - 15 = r := ⟨_, rfl⟩
  have hr0 : 0 < r := by omega
  have hroom := hj.room
  rw [hr] at hlt hroom
  have hblk : J.blk D = J.safe / r := by unfold JV.blk; rw [hr]
  have h2 : J.stream.length < (J.safe / r + 1) * r := by
    rw [hlt]
    have h8 := Nat.div_add_mod J.stream.length r
    have h9 := Nat.mod_lt J.stream.length hr0
    rw [Nat.succ_mul, Nat.mul_comm]; omega
  have hto : J.to_ D = J.stream.length := by unfold JV.to_; rw [hblk, hr]; omega
  have hbl : J.blk D < J.len := by
    rw [hblk]
    exact Nat.div_lt_of_lt_mul (by rw [Nat.mul_comm]; omega)
  obtain ⟨a1, a2, a3, a4, a5, a6, a7, a8⟩ := wr_law h hj ok hbl (by omega) hlg
  refine ⟨?_, a2, a3, a4, fun h9 => ?_, fun h7 h8 _ => a6 h7 h8, ?_⟩
  · by_cases h9 : (J.wr D).1 = 0
    · rw [if_pos h9]
      obtain ⟨b1, b2, b3⟩ := a5 h9
      refine a1.full ?_
      rw [a3, b1]
      exact hto
    · rw [if_neg h9]; exact a1
  · obtain ⟨b1, b2, b3⟩ := a5 h9
    rw [b1]
    exact ⟨hto, hbf⟩
  · by_cases h9 : (J.wr D).1 = 0
    · obtain ⟨b1, b2, b3⟩ := a5 h9
      left
      rw [a3, b1]
      show J.to_ D / _ = _
      rw [hto]
    · exact .inr (a7 h9)
/-- An area in which nothing counts. -/
theorem blank_law (D : DS) (fr len ep : Nat) (h : ∀ i, i < len → jcell D fr ep i = none) :
    jread D fr ep len 0 0 [] = ([], 0) ∧ jopenRecs [] = ([], 0) ∧ JSt D ⟨fr, len, ep, 1, [], 0, 0, false⟩ [] 0 := by
  have h1 : jread D fr ep len 0 0 [] = ([], 0) := ch_stop (n := 0) ⟨rfl, rfl⟩ (Nat.zero_le _) (fun x h2 h3 => by rw [h 0 h2] at h3; cases h3)
  have h2 : jopenRecs [] = ([], 0) := by unfold jopenRecs; exact jrecs_end (.inl rfl)
  refine ⟨h1, h2, rfl, rfl, ⟨0, ?_, Nat.zero_le _⟩, (fun i x _ h4 h5 => by rw [h i h4] at h5; cases h5), ⟨[], 0, 0, h1, Nat.zero_le _, (fun i x h4 h5 => by rw [h i h4] at h5; cases h5), h2, rfl, Nat.le_refl _, Nat.le_refl _, Nat.le_refl _, fun h4 => absurd h4 (Nat.lt_irrefl _)⟩, fun s hs => by cases hs⟩
  show Ch _ _ (0 / _) 0 _
  rw [Nat.zero_div]
  exact ⟨rfl, by simp⟩
end
end Go.Proofs.Ytcnhfbckaacalaa
