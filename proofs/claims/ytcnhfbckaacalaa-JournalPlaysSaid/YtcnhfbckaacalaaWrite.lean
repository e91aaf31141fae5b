/- The walk of Write of layer 2. -/
import Derived.Test.YtcnhfbckaacalaaDiskM
import Derived.Test.YtcnhfbckaacalaaLibB
import Derived.Conc.EventLaws
import Derived.Maps.RangeWalk
namespace Go.Proofs.Ytcnhfbckaacalaa
open Go.RowKit
set_option linter.unusedVariables false

/-- A block's bytes, and 0 behind them. -/
def putBlock (b : List UInt8) (off size : Nat) (p : List UInt8) : List UInt8 := spliceB (spliceB b off p) (off + p.length) (List.replicate (size - p.length) 0)

/-- Write, as a function. -/
def DS.write (d : DS) (n : Int) (p : List UInt8) : Nat × DS :=
  if d.hasB n = false then (2, d) else if d.size < p.length then (1, d) else if d.off = true then (20, d) else if d.left = 0 then (20, { d with off := true })
  else (0, { d with bytes := putBlock d.bytes (n.toNat * d.size) d.size p, log := d.log ++ [n], left := if 0 < d.left then d.left - 1 else d.left })

/-- What an act on a disk leaves: the disk so; nothing but its own blocks has turned. -/
structure Acts (w : World) (pd : Nat) (p : Pl) (d' : DS) (w' : World) (p' : Pl) : Prop where
  disk : DiskAt pd p' d' w'
  fr : Fr (p.F pd) w w'
  grown : ∀ k, p'.F pd k → p.F pd k ∨ w.heap.size ≤ k

theorem Acts.quiet {w w' : World} {pd : Nat} {p : Pl} {d : DS} (h : DiskAt pd p d w) (hb : Below w.heap.size w w') : Acts w pd p d w' p :=
  ⟨h.keep hb, Fr.of_below hb _, fun k hk => .inl hk⟩

def WriteEnds (w : World) (pd : Nat) (p : Pl) (d : DS) (n : Int) (l : List UInt8) (e : Ending) (w' : World) : Prop :=
  e = .returned (.int .i64 (d.write n l).1) ∧ ∃ p', Acts w pd p (d.write n l).2 w' p'

theorem intsT : ElT Try.prog 37 3 (.int .i64 0) 1 8 := ⟨Try.underlying37, by kernel_rfl, rfl, by omega⟩

section
variable {pd : Nat} {p : Pl} {d : DS} {w : World} {A : Option Addr} {ls : List (List UInt8)} {l : List UInt8} {m c : Nat} {n : Int}

set_option maxHeartbeats 400000 in
theorem write_no (h : DiskAt pd p d w) (ok : d.Ok) (hf : ls.flatten = l) (hm : ls.length = m) (hm2 : m ≤ 65536) (hn : l.length ≤ 140737488351232) (hr : RdL w A ls) (hh : d.hasB n = false) :
    Calls Try.prog 33 #[.pointer (some ⟨pd, 0, none⟩), .int .i64 n, .slice A m c] w (WriteEnds w pd p d n l) := by
  have HC := Lib.hid (concat_is A ls l m c w hf hm hm2 hn hr)
  have HW := Lib.hid (show d.write n l = (2, d) by unfold DS.write; rw [if_pos hh])
  have HH := Lib.hid hh
  clear hf hm hr hh
  go_enter Try.func33, Try.ntmps33
  go_wp2_with (first
    | (go_at_call 58; refine HC.out.mono ?_; rintro e w1 ⟨v, rfl, hown, hb1⟩)
    | (go_at_call 59; refine (has_any (h.keep hb1) ok n).mono ?_; rintro e w2 ⟨rfl, q, rfl⟩; rw [HH.out]))
  go_ret
  refine ⟨by rw [HW.out]; rfl, p, ?_⟩
  rw [HW.out]
  exact Acts.quiet h (below_drewN hb1 q)

set_option maxHeartbeats 400000 in
theorem write_long (h : DiskAt pd p d w) (ok : d.Ok) (hf : ls.flatten = l) (hm : ls.length = m) (hm2 : m ≤ 65536) (hn : l.length ≤ 140737488351232) (hr : RdL w A ls) (hh : d.hasB n = true) (hl : d.size < l.length) :
    Calls Try.prog 33 #[.pointer (some ⟨pd, 0, none⟩), .int .i64 n, .slice A m c] w (WriteEnds w pd p d n l) := by
  have HC := Lib.hid (concat_is A ls l m c w hf hm hm2 hn hr)
  have HW := Lib.hid (show d.write n l = (1, d) by unfold DS.write; rw [if_neg (by rw [hh]; simp), if_pos hl])
  have HH := Lib.hid hh
  clear hf hm hr hh
  go_enter Try.func33, Try.ntmps33
  go_upto_region 6 with (first
    | (go_at_call 58; refine HC.out.mono ?_; rintro e w1 ⟨v, rfl, hown, hb1⟩)
    | (go_at_call 59; refine (has_any (h.keep hb1) ok n).mono ?_; rintro e w2 ⟨rfl, q, rfl⟩; rw [HH.out]))
  obtain ⟨B, cB, rfl, _, _, _⟩ := own_rd hown
  have c0 := (h.keep hb1).cells.1
  go_wp2_with fail
  go_ret
  refine ⟨by rw [HW.out]; rfl, p, ?_⟩
  rw [HW.out]
  exact Acts.quiet h (below_drewN hb1 q)

set_option maxHeartbeats 400000 in
theorem write_dead (h : DiskAt pd p d w) (ok : d.Ok) (hf : ls.flatten = l) (hm : ls.length = m) (hm2 : m ≤ 65536) (hn : l.length ≤ 140737488351232) (hr : RdL w A ls) (hh : d.hasB n = true) (hl : ¬ d.size < l.length) (ho : d.off = true) :
    Calls Try.prog 33 #[.pointer (some ⟨pd, 0, none⟩), .int .i64 n, .slice A m c] w (WriteEnds w pd p d n l) := by
  have HC := Lib.hid (concat_is A ls l m c w hf hm hm2 hn hr)
  have HW := Lib.hid (show d.write n l = (20, d) by unfold DS.write; rw [if_neg (by rw [hh]; simp), if_neg hl, if_pos ho])
  have HH := Lib.hid hh
  have HO := Lib.hid ho
  clear hf hm hr hh ho
  go_enter Try.func33, Try.ntmps33
  go_upto_region 6 with (first
    | (go_at_call 58; refine HC.out.mono ?_; rintro e w1 ⟨v, rfl, hown, hb1⟩)
    | (go_at_call 59; refine (has_any (h.keep hb1) ok n).mono ?_; rintro e w2 ⟨rfl, q, rfl⟩; rw [HH.out]))
  obtain ⟨B, cB, rfl, _, _, _⟩ := own_rd hown
  have c0 := (h.keep hb1).cells.1
  go_wp2_with (go_at_call 39; refine (dead_any (h.keep (below_drewN hb1 q))).mono ?_; rintro e w2 ⟨rfl, rfl⟩; rw [HO.out])
  go_ret
  refine ⟨by rw [HW.out]; rfl, p, ?_⟩
  rw [HW.out]
  exact Acts.quiet h (below_drewN hb1 q)

theorem DiskAt.ne_gb (h : DiskAt pd p d w) : p.gb ≠ pd := by
  intro e
  have h1 := h.row
  rw [e] at h1
  have h2 := h.obj
  unfold Blk at h1 h2
  rw [h1] at h2
  injection h2 with h2
  injection h2 with _ h3
  exact absurd h3 (by decide)
theorem DiskAt.ne_ch (h : DiskAt pd p d w) : p.ch ≠ pd ∧ p.ch ≠ p.gb := by
  refine ⟨fun e => ?_, fun e => ?_⟩
  · have h1 := h.chan
    rw [e] at h1
    have h2 := h.obj
    unfold Blk at h2
    rw [h1] at h2
    injection h2 with h2
    cases h2
  · have h1 := h.chan
    rw [e] at h1
    have h2 := h.row
    unfold Blk at h2
    rw [h1] at h2
    injection h2 with h2
    cases h2
theorem DiskAt.ne_lv (h : DiskAt pd p d w) : ∀ k, p.lv.ownBlock = some k → k ≠ pd ∧ k ≠ p.gb ∧ k ≠ p.ch := by
  intro k hk
  rcases h.log.2 with ⟨hv, _⟩ | ⟨g, cap, cur, hv, _, hg, _⟩
  · rw [hv] at hk; simp [Value.ownBlock] at hk
  · rw [hv] at hk
    simp [Value.ownBlock] at hk
    subst hk
    refine ⟨fun e => ?_, fun e => ?_, fun e => ?_⟩
    · have h2 := h.obj
      unfold Blk at h2
      rw [← e, hg] at h2
      injection h2 with h2
      injection h2 with _ h3
      exact absurd h3 (by decide)
    · have h2 := h.row
      unfold Blk at h2
      rw [← e, hg] at h2
      injection h2 with h2
      injection h2 with _ h3
      exact absurd h3 (by decide)
    · have h2 := h.chan
      rw [← e, hg] at h2
      injection h2 with h2
      cases h2

/-- The number of writes that are left is stored. -/
theorem DiskAt.setLeft (h : DiskAt pd p d w) (x : Int) : DiskAt pd p { d with left := x } (w.setCell ⟨pd, 3, none⟩ (.int .i64 x)) := by
  refine ⟨h.obj.set_ 3 _, h.row.far h.ne_gb _, h.cap, h.capm, ?_, ?_⟩
  · refine h.log.kept (row := some pd) (grown_setCell (grown_refl _ _) (.inl rfl) _) ?_
    cases hk : p.lv.ownBlock with
    | none => exact .inl rfl
    | some k => exact .inr (by intro e; injection e with e; exact (h.ne_lv k hk).1 e)
  · rw [Below.heap_setCell _ _ _ _ (show p.ch ≠ pd from h.ne_ch.1)]
    exact h.chan
/-- The bytes are written. -/
theorem DiskAt.setBytes (h : DiskAt pd p d w) {w' : World} {b : List UInt8} (hb : b.length = d.bytes.length) (hr : Blk w' p.gb 5 (b.map bv ++ p.tl).toArray) (hg : w.grownBy w' (some p.gb)) : DiskAt pd p { d with bytes := b } w' := by
  have hlt : p.ch < w.heap.size := (Array.getElem?_eq_some_iff.1 h.chan).1
  refine ⟨?_, hr, by rw [show ({ d with bytes := b } : DS).bytes.length = d.bytes.length from hb]; exact h.cap, h.capm, ?_, ?_⟩
  · have := h.obj.grown hg (by intro e; injection e with e; exact h.ne_gb e.symm)
    rw [← hb] at this
    exact this
  · refine h.log.kept hg ?_
    cases hk : p.lv.ownBlock with
    | none => exact .inl rfl
    | some k => exact .inr (by intro e; injection e with e; exact (h.ne_lv k hk).2.1 e)
  · exact (hg.block _ hlt (by intro e; injection e with e; exact h.ne_ch.2 e)).trans h.chan
/-- The power goes off. -/
theorem DiskAt.shut (h : DiskAt pd p d w) : DiskAt pd p { d with off := true } (w.setChan p.ch 0 #[] true p.s p.r false) := by
  have ho : ∀ k, k ≠ p.ch → (w.setChan p.ch 0 #[] true p.s p.r false).heap[k]? = w.heap[k]? := fun k hk => by
    simp [World.setChan, Array.getElem?_setIfInBounds_ne (Ne.symm hk)]
  have hlt : p.ch < w.heap.size := (Array.getElem?_eq_some_iff.1 h.chan).1
  refine ⟨(ho _ (Ne.symm h.ne_ch.1)).trans h.obj, (ho _ (Ne.symm h.ne_ch.2)).trans h.row, h.cap, h.capm, ?_, Conc.heap_setChan w p.ch 0 #[] true p.s p.r false hlt⟩
  refine h.log.kept (row := some p.ch) ⟨rfl, rfl, rfl, by simp [World.setChan], fun k _ hk => ho k (fun e => hk (by rw [e]))⟩ ?_
  cases hk : p.lv.ownBlock with
  | none => exact .inl rfl
  | some k => exact .inr (by intro e; injection e with e; exact (h.ne_lv k hk).2.2 e)
theorem fr_setChan (w : World) {ch : Nat} {F : Nat → Prop} (hF : F ch) (cap : Nat) (buf : Array Value) (cl : Bool) (s r : Nat) (tm : Bool) : Fr F w (w.setChan ch cap buf cl s r tm) :=
  ⟨rfl, rfl, rfl, by simp [World.setChan], fun k _ hk => by
    have hne : ch ≠ k := fun e => hk (by rw [← e]; exact hF)
    simp [World.setChan, Array.getElem?_setIfInBounds_ne hne]⟩

set_option maxHeartbeats 400000 in
theorem write_cut (h : DiskAt pd p d w) (ok : d.Ok) (hf : ls.flatten = l) (hm : ls.length = m) (hm2 : m ≤ 65536) (hn : l.length ≤ 140737488351232) (hr : RdL w A ls) (hh : d.hasB n = true) (hl : ¬ d.size < l.length) (ho : d.off = false) (hlf : d.left = 0) :
    Calls Try.prog 33 #[.pointer (some ⟨pd, 0, none⟩), .int .i64 n, .slice A m c] w (WriteEnds w pd p d n l) := by
  have HC := Lib.hid (concat_is A ls l m c w hf hm hm2 hn hr)
  have HW := Lib.hid (show d.write n l = (20, { d with off := true }) by unfold DS.write; rw [if_neg (by rw [hh]; simp), if_neg hl, if_neg (by rw [ho]; simp), if_pos hlf])
  have HH := Lib.hid hh
  have HO := Lib.hid ho
  have HLf := Lib.hid hlf
  clear hf hm hr hh ho hlf
  go_enter Try.func33, Try.ntmps33
  go_upto_region 6 with (first
    | (go_at_call 58; refine HC.out.mono ?_; rintro e w1 ⟨v, rfl, hown, hb1⟩)
    | (go_at_call 59; refine (has_any (h.keep hb1) ok n).mono ?_; rintro e w2 ⟨rfl, q, rfl⟩; rw [HH.out]))
  obtain ⟨B, cB, rfl, _, _, _⟩ := own_rd hown
  have hD := h.keep (below_drewN hb1 q)
  refine wp_world (fun W => DiskAt pd p d W ∧ Below w.heap.size w W) ⟨hD, below_drewN hb1 q⟩ ?_
  clear hD hown hb1
  rintro w2 ⟨hD, hb2⟩
  obtain ⟨c0, c1, c2, c3, c4⟩ := hD.cells
  rw [HLf.out] at c3
  have hcl := fun ats ty => run_close_open (P := Try.prog) (w := w2) ats ty (by have := hD.chan; rw [HO.out] at this; exact this)
  go_wp2_with (go_at_call 39; refine (dead_any hD).mono ?_; rintro e w2 ⟨rfl, rfl⟩; rw [HO.out])
  go_ret
  refine ⟨by rw [HW.out]; rfl, p, ?_⟩
  rw [HW.out]
  exact ⟨hD.shut, (Fr.of_below hb2 _).same (fr_setChan w2 (.inr (.inr (.inr rfl))) _ _ _ _ _ _), fun k hk => .inl hk⟩

theorem splice_len (b : List UInt8) (off : Nat) (x : List UInt8) (h : off + x.length ≤ b.length) : (spliceB b off x).length = b.length := by
  simp [spliceB]; omega
theorem putBlock_len (b : List UInt8) (off size : Nat) (x : List UInt8) (h : off + size ≤ b.length) (hx : x.length ≤ size) : (putBlock b off size x).length = b.length := by
  unfold putBlock
  have h1 := splice_len b off x (by omega)
  rw [splice_len _ _ _ (by rw [h1]; simp; omega), h1]

/-- The log grows by one. -/
theorem DiskAt.setLog (h : DiskAt pd p d w) {w' : World} {v' : Value} {n : Int} (ho : w'.ownsRow 0 3 1 v' (d.log.length + 1) (d.log.map iv ++ [iv n])) (hg : w.grownBy w' p.lv.ownBlock) (hat : v'.ownBlock = p.lv.ownBlock ∨ v'.ownBlock = some w.heap.size) :
    DiskAt pd { p with lv := v' } { d with log := d.log ++ [n] } (w'.setCell ⟨pd, 2, none⟩ v') := by
  have hltc : p.ch < w.heap.size := (Array.getElem?_eq_some_iff.1 h.chan).1
  have ho2 := h.obj.grown hg (by intro e; exact (h.ne_lv pd e.symm).1 rfl)
  have hr2 := h.row.grown hg (by intro e; exact (h.ne_lv p.gb e.symm).2.1 rfl)
  have hc2 := (hg.block _ hltc (by intro e; exact (h.ne_lv p.ch e.symm).2.2 rfl)).trans h.chan
  have hne : ∀ k, v'.ownBlock = some k → k ≠ pd := by
    intro k hk e
    rcases hat with e1 | e1
    · rw [e1] at hk; exact (h.ne_lv k hk).1 e
    · rw [e1] at hk; injection hk with hk; have := h.obj.lt; omega
  refine ⟨ho2.set_ 2 _, hr2.far h.ne_gb _, h.cap, h.capm, ?_, ?_⟩
  · have h3 : (w'.setCell ⟨pd, 2, none⟩ v').ownsRow 0 3 1 v' (d.log.length + 1) (d.log.map iv ++ [iv n]) := by
      refine ho.kept (row := some pd) (grown_setCell (grown_refl _ _) (.inl rfl) _) ?_
      cases hk : v'.ownBlock with
      | none => exact .inl rfl
      | some k => exact .inr (by intro e; injection e with e; exact hne k hk e)
    simpa using h3
  · rw [Below.heap_setCell _ _ _ _ (show p.ch ≠ pd from h.ne_ch.1)]
    exact hc2

set_option maxHeartbeats 1000000 in
theorem write_ok (h : DiskAt pd p d w) (ok : d.Ok) (hf : ls.flatten = l) (hm : ls.length = m) (hm2 : m ≤ 65536) (hn : l.length ≤ 140737488351232) (hr : RdL w A ls) (hh : d.hasB n = true) (hl : ¬ d.size < l.length) (ho : d.off = false) (hlf : d.left ≠ 0) :
    Calls Try.prog 33 #[.pointer (some ⟨pd, 0, none⟩), .int .i64 n, .slice A m c] w (WriteEnds w pd p d n l) := by
  have HC := Lib.hid (concat_is A ls l m c w hf hm hm2 hn hr)
  have HW := Lib.hid (show d.write n l = (0, { d with bytes := putBlock d.bytes (n.toNat * d.size) d.size l, log := d.log ++ [n], left := if 0 < d.left then d.left - 1 else d.left }) by unfold DS.write; rw [if_neg (by rw [hh]; simp), if_neg hl, if_neg (by rw [ho]; simp), if_neg hlf])
  have hn2 : 0 ≤ n ∧ n < d.nb := by simpa [DS.hasB] using hh
  obtain ⟨N, rfl⟩ := Int.eq_ofNat_of_zero_le hn2.1
  have hN : N < d.nb := by omega
  have HH := Lib.hid hh
  have HO := Lib.hid ho
  have hq0 : (d.left == 0) = false := by simp [hlf]
  clear hf hm hr hh ho hlf
  go_enter Try.func33, Try.ntmps33
  go_upto_region 6 with (first
    | (go_at_call 58; refine HC.out.mono ?_; rintro e w1 ⟨v, rfl, hown, hb1⟩)
    | (go_at_call 59; refine (has_any (h.keep hb1) ok N).mono ?_; rintro e w2 ⟨rfl, q, rfl⟩; rw [HH.out]))
  obtain ⟨B, cB, rfl, hrB, _, _⟩ := own_rd hown
  have hD := h.keep (below_drewN hb1 q)
  have hnB : ∀ b off, B = some ⟨b, off, none⟩ → 0 < l.length → w.heap.size ≤ b := by
    intro b off e hpos
    subst e
    exact (hown.lt b rfl).1
  refine wp_world (fun W => DiskAt pd p d W ∧ Below w.heap.size w W ∧ Rd W B l) ⟨hD, below_drewN hb1 q, hrB⟩ ?_
  clear hD hown hb1 hrB
  rintro w2 ⟨hD, hb2, hrB⟩
  obtain ⟨c0, c1, c2, c3, c4⟩ := hD.cells
  go_upto_region 13 with (go_at_call 39; refine (dead_any hD).mono ?_; rintro e w2 ⟨rfl, rfl⟩; rw [HO.out])
  have hle := h.lt
  -- the count of what is left
  have hl1 := ok.l1
  have hl2 := ok.l2
  have hf3 := hD.obj.frozen 3
  obtain ⟨D1, hD1⟩ : ∃ D, D = ({ d with left := if 0 < d.left then d.left - 1 else d.left } : DS) := ⟨_, rfl⟩
  have ok1 : D1.Ok := by
    subst hD1
    exact ⟨ok.s1, ok.s2, ok.n1, ok.n2, ok.len, by show -1 ≤ (if 0 < d.left then d.left - 1 else d.left); split <;> omega, by show (if 0 < d.left then d.left - 1 else d.left) ≤ _; split <;> omega, ok.lg⟩
  have e1 : D1.size = d.size ∧ D1.nb = d.nb ∧ D1.bytes = d.bytes ∧ D1.log = d.log := by subst hD1; exact ⟨rfl, rfl, rfl, rfl⟩
  have hN1 : N < D1.nb := by rw [e1.2.1]; exact hN
  have hl1' : l.length ≤ D1.size := by rw [e1.1]; omega
  have hlim : N * D1.size + D1.size ≤ D1.bytes.length := by have := blk_lim ok1 hN1; omega
  have hcapN : D1.bytes.length ≤ p.cap := by rw [e1.2.2.1]; exact h.cap
  have hsD := ok1.s1
  have hsD2 := ok1.s2
  by_cases hpos : 0 < d.left
  · have HF := Lib.hid (show DiskAt pd p D1 (w2.setCell ⟨pd, 3, none⟩ (.int .i64 (d.left - 1))) ∧ Fr (p.F pd) w (w2.setCell ⟨pd, 3, none⟩ (.int .i64 (d.left - 1))) ∧ Rd (w2.setCell ⟨pd, 3, none⟩ (.int .i64 (d.left - 1))) B l from
      ⟨by have := hD.setLeft (d.left - 1); rw [hD1, if_pos hpos]; exact this, (Fr.of_below hb2 _).same (Fr.setCell _ _ (fun _ => .inl rfl) _), (Fr.setCell (fun k => k = pd) w2 (fun _ => rfl) _).rd hrB (fun b off e hp1 hp2 => by have h7 := hnB b off e hp1; have h8 := hle pd (.inl rfl); omega)⟩)
    have HE1 := Lib.hid e1
    have HD1 := Lib.hid hD1
    clear hD1 e1
    go_upto_region 15 with (fail)
    refine wp_world (fun W => DiskAt pd p D1 W ∧ Fr (p.F pd) w W ∧ Rd W B l) HF.out ?_
    clear HF hD c0 c1 c2 c3 c4 hf3 hb2 hrB
    rintro w3 ⟨hD3, hfr3, hrB3⟩
    go_upto_region 16 with (go_at_call 60; refine (block_any hD3 ok1 N hN1).mono ?_; rintro e w4 ⟨rfl, q4, rfl⟩)
    refine wp_world (fun W => DiskAt pd p D1 W ∧ Fr (p.F pd) w W ∧ Rd W B l) ⟨hD3.keep (below_drewN (Below.refl _ _) q4), hfr3.trans (Fr.of_below (below_drewN (Below.refl _ _) q4) (p.F pd)) (fun _ _ g => g), hrB3⟩ ?_
    clear hD3 hfr3 hrB3
    rintro w5 ⟨hD5, hfr5, hrB5⟩
    generalize hlo : N * D1.size = lo at *
    have HLO := Lib.hid hlo
    clear hlo
    have hspl := splice_len D1.bytes lo l (by omega)
    have hlim2 : lo + l.length + (D1.size - l.length) ≤ (spliceB D1.bytes lo l).length := by rw [hspl]; omega
    have HSP := Lib.hid hspl
    clear hspl
    by_cases hfull : l.length = D1.size
    · have hz0 : D1.size - l.length = 0 := by omega
      have HPB := Lib.hid (show spliceB D1.bytes lo l = putBlock D1.bytes lo D1.size l by unfold putBlock; rw [hz0]; simp [spliceB])
      clear hfull
      by_cases hcc : p.cap - lo = l.length
      all_goals go_upto_region 17 with (first
        | ((with_reducible refine wpList_cpy2 bytesT rfl (.tmp 56) (.tmp 57) rfl p.gb lo D1.size _ B l.length cB rfl rfl D1.bytes p.tl hD5.row l rfl hrB5 hl1' hlim ?_); intro w6 hrow6 hgr6 hsz6)
        | (with_reducible refine wpList_clr0 bytesT rfl (.tmp 59) rfl _ _ rfl ?_))
      all_goals
        have hD6 := hD5.setBytes HSP.out hrow6 hgr6
        rw [HPB.out] at hD6
        have hfr6 := hfr5.trans (Fr.of_grown hgr6 (F := p.F pd) (fun k hk _ => by injection hk with hk; exact .inr (.inl hk.symm))) (fun _ _ g => g)
        refine wp_world (fun W => DiskAt pd p { D1 with bytes := putBlock D1.bytes lo D1.size l } W ∧ Fr (p.F pd) w W) ⟨hD6, hfr6⟩ ?_
        clear hD6 hfr6 hrow6 hgr6 hsz6 hD5 hfr5 hrB5 hz0 hlim2
        rintro w8 ⟨hD8, hfr8⟩
        go_frame
        have HFin := Lib.hid (show (d.write (N : Int) l) = (0, { ({ D1 with bytes := putBlock D1.bytes lo D1.size l } : DS) with log := ({ D1 with bytes := putBlock D1.bytes lo D1.size l } : DS).log ++ [(N : Int)] }) by
          rw [HW.out, HD1.out, ← HLO.out, HD1.out]; rfl)
        have hlog : ({ D1 with bytes := putBlock D1.bytes lo D1.size l } : DS).log.length ≤ 1000000 := ok1.lg
        generalize ({ D1 with bytes := putBlock D1.bytes lo D1.size l } : DS) = D8 at *
        obtain ⟨c0, c1, c2, c3, c4⟩ := hD8.cells
        have HD8 := Lib.hid (hD8.keep (below_alloc w8 (.cells #[.int .i64 (N : Int)] 3)))
        have hfr9 := hfr8.trans (Fr.alloc (p.F pd) w8 (.cells #[.int .i64 (N : Int)] 3)) (fun _ _ g => g)
        have HFR := Lib.hid hfr9
        clear hfr8 hfr9
        have hcs : Cs (w8.alloc (.cells #[.int .i64 (N : Int)] 3)) (some ⟨w8.heap.size, 0, none⟩) [iv N] := .inr ⟨_, rfl, cell_one_new w8 (.int .i64 (N : Int)) 3⟩
        have HCS := Lib.hid hcs
        clear hcs
        have hmx : D8.log.length + 1 ≤ maxLen := by simp only [maxLen]; omega
        have hbx : (D8.log.length + 1) * 8 ≤ 140737488355328 := by omega
        have hone : ∀ u ∈ [iv N], u.oneCell' = true := by intro u hu; simp at hu; subst hu; rfl
        go_upto_region 18 with (at_builtin; (with_reducible refine wpList_app intsT rfl (.tmp 64) (.tmp 66) rfl 0 p.lv D8.log.length (D8.log.map iv) rfl HD8.out.log (some ⟨w8.heap.size, 0, none⟩) 1 1 [iv N] rfl rfl HCS.out hone hmx hbx (Nat.zero_le _) ?_); intro v' w9 hown9 hgr9 hat9; obtain ⟨g9, cap9, hv9, _, _⟩ := hown9.form (by omega); subst hv9; have hob := HD8.out.obj.grown hgr9 (by intro e; exact (HD8.out.ne_lv pd e.symm).1 rfl); have d2 := hob.cell 2; have f2 := hob.frozen 2)
        have HL9 := Lib.hid (HD8.out.setLog hown9 hgr9 hat9)
        have HFR9 := Lib.hid ((HFR.out.trans (Fr.of_grown hgr9 (F := p.F pd) (fun k hk _ => .inr (.inr (.inl hk)))) (fun _ _ g => g)).trans (Fr.setCell (p.F pd) w9 (p := ⟨pd, 2, none⟩) (fun _ => .inl rfl) (.slice (some ⟨g9, 0, none⟩) (D8.log.length + 1) cap9)) (fun _ _ g => g))
        have HGB := Lib.hid (show ∀ k, Pl.F pd { p with lv := .slice (some ⟨g9, 0, none⟩) (D8.log.length + 1) cap9 } k → p.F pd k ∨ w.heap.size ≤ k from by
          have hsz8 := HFR.out.size
          rintro k (h1 | h1 | h1 | h1)
          · exact .inl (.inl h1)
          · exact .inl (.inr (.inl h1))
          · rcases hat9 with h2 | h2
            · exact .inl (.inr (.inr (.inl (h2.symm.trans h1))))
            · rw [h2] at h1; injection h1 with h1; exact .inr (by omega)
          · exact .inl (.inr (.inr (.inr h1))))
        clear hown9 hgr9 hat9 hob d2 f2
        go_wp2
        go_ret
        refine ⟨by rw [HFin.out]; rfl, { p with lv := .slice (some ⟨g9, 0, none⟩) (D8.log.length + 1) cap9 }, ?_⟩
        rw [HFin.out]
        exact ⟨HL9.out, HFR9.out, HGB.out⟩
    · have hq5 : ¬ p.cap - lo = l.length := by omega
      go_upto_region 17 with (first
        | ((with_reducible refine wpList_cpy2 bytesT rfl (.tmp 56) (.tmp 57) rfl p.gb lo D1.size (p.cap - lo) B l.length cB rfl rfl D1.bytes p.tl hD5.row l rfl hrB5 hl1' hlim ?_); intro w6 hrow6 hgr6 hsz6)
        | ((with_reducible refine wpList_clr bytesT rfl (.tmp 59) rfl p.gb (lo + l.length) (D1.size - l.length) (p.cap - lo - l.length) rfl (spliceB D1.bytes lo l) p.tl hrow6 hlim2 ?_); intro w7 hrow7 hgr7 hsz7))
      have hD6 := hD5.setBytes HSP.out hrow6 hgr6
      have hD7 := hD6.setBytes (b := putBlock D1.bytes lo D1.size l) (splice_len _ _ _ (by simp; omega)) hrow7 hgr7
      have hfr6 := hfr5.trans (Fr.of_grown hgr6 (F := p.F pd) (fun k hk _ => by injection hk with hk; exact .inr (.inl hk.symm))) (fun _ _ g => g)
      have hfr7 := hfr6.trans (Fr.of_grown hgr7 (F := p.F pd) (fun k hk _ => by injection hk with hk; exact .inr (.inl hk.symm))) (fun _ _ g => g)
      refine wp_world (fun W => DiskAt pd p { D1 with bytes := putBlock D1.bytes lo D1.size l } W ∧ Fr (p.F pd) w W) ⟨hD7, hfr7⟩ ?_
      clear hD6 hfr6 hD7 hfr7 hrow6 hgr6 hsz6 hrow7 hgr7 hsz7 hD5 hfr5 hrB5 hlim2
      rintro w8 ⟨hD8, hfr8⟩
      go_frame
      have HFin := Lib.hid (show (d.write (N : Int) l) = (0, { ({ D1 with bytes := putBlock D1.bytes lo D1.size l } : DS) with log := ({ D1 with bytes := putBlock D1.bytes lo D1.size l } : DS).log ++ [(N : Int)] }) by
        rw [HW.out, HD1.out, ← HLO.out, HD1.out]; rfl)
      have hlog : ({ D1 with bytes := putBlock D1.bytes lo D1.size l } : DS).log.length ≤ 1000000 := ok1.lg
      generalize ({ D1 with bytes := putBlock D1.bytes lo D1.size l } : DS) = D8 at *
      obtain ⟨c0, c1, c2, c3, c4⟩ := hD8.cells
      have HD8 := Lib.hid (hD8.keep (below_alloc w8 (.cells #[.int .i64 (N : Int)] 3)))
      have hfr9 := hfr8.trans (Fr.alloc (p.F pd) w8 (.cells #[.int .i64 (N : Int)] 3)) (fun _ _ g => g)
      have HFR := Lib.hid hfr9
      clear hfr8 hfr9
      have hcs : Cs (w8.alloc (.cells #[.int .i64 (N : Int)] 3)) (some ⟨w8.heap.size, 0, none⟩) [iv N] := .inr ⟨_, rfl, cell_one_new w8 (.int .i64 (N : Int)) 3⟩
      have HCS := Lib.hid hcs
      clear hcs
      have hmx : D8.log.length + 1 ≤ maxLen := by simp only [maxLen]; omega
      have hbx : (D8.log.length + 1) * 8 ≤ 140737488355328 := by omega
      have hone : ∀ u ∈ [iv N], u.oneCell' = true := by intro u hu; simp at hu; subst hu; rfl
      go_upto_region 18 with (at_builtin; (with_reducible refine wpList_app intsT rfl (.tmp 64) (.tmp 66) rfl 0 p.lv D8.log.length (D8.log.map iv) rfl HD8.out.log (some ⟨w8.heap.size, 0, none⟩) 1 1 [iv N] rfl rfl HCS.out hone hmx hbx (Nat.zero_le _) ?_); intro v' w9 hown9 hgr9 hat9; obtain ⟨g9, cap9, hv9, _, _⟩ := hown9.form (by omega); subst hv9; have hob := HD8.out.obj.grown hgr9 (by intro e; exact (HD8.out.ne_lv pd e.symm).1 rfl); have d2 := hob.cell 2; have f2 := hob.frozen 2)
      have HL9 := Lib.hid (HD8.out.setLog hown9 hgr9 hat9)
      have HFR9 := Lib.hid ((HFR.out.trans (Fr.of_grown hgr9 (F := p.F pd) (fun k hk _ => .inr (.inr (.inl hk)))) (fun _ _ g => g)).trans (Fr.setCell (p.F pd) w9 (p := ⟨pd, 2, none⟩) (fun _ => .inl rfl) (.slice (some ⟨g9, 0, none⟩) (D8.log.length + 1) cap9)) (fun _ _ g => g))
      have HGB := Lib.hid (show ∀ k, Pl.F pd { p with lv := .slice (some ⟨g9, 0, none⟩) (D8.log.length + 1) cap9 } k → p.F pd k ∨ w.heap.size ≤ k from by
        have hsz8 := HFR.out.size
        rintro k (h1 | h1 | h1 | h1)
        · exact .inl (.inl h1)
        · exact .inl (.inr (.inl h1))
        · rcases hat9 with h2 | h2
          · exact .inl (.inr (.inr (.inl (h2.symm.trans h1))))
          · rw [h2] at h1; injection h1 with h1; exact .inr (by omega)
        · exact .inl (.inr (.inr (.inr h1))))
      clear hown9 hgr9 hat9 hob d2 f2
      go_wp2
      go_ret
      refine ⟨by rw [HFin.out]; rfl, { p with lv := .slice (some ⟨g9, 0, none⟩) (D8.log.length + 1) cap9 }, ?_⟩
      rw [HFin.out]
      exact ⟨HL9.out, HFR9.out, HGB.out⟩
  · have HF := Lib.hid (show DiskAt pd p D1 w2 ∧ Fr (p.F pd) w w2 ∧ Rd w2 B l from ⟨by rw [hD1, if_neg hpos]; exact hD, Fr.of_below hb2 _, hrB⟩)
    have HE1 := Lib.hid e1
    have HD1 := Lib.hid hD1
    clear hD1 e1
    go_upto_region 15 with (fail)
    refine wp_world (fun W => DiskAt pd p D1 W ∧ Fr (p.F pd) w W ∧ Rd W B l) HF.out ?_
    clear HF hD c0 c1 c2 c3 c4 hf3 hb2 hrB
    rintro w3 ⟨hD3, hfr3, hrB3⟩
    go_upto_region 16 with (go_at_call 60; refine (block_any hD3 ok1 N hN1).mono ?_; rintro e w4 ⟨rfl, q4, rfl⟩)
    refine wp_world (fun W => DiskAt pd p D1 W ∧ Fr (p.F pd) w W ∧ Rd W B l) ⟨hD3.keep (below_drewN (Below.refl _ _) q4), hfr3.trans (Fr.of_below (below_drewN (Below.refl _ _) q4) (p.F pd)) (fun _ _ g => g), hrB3⟩ ?_
    clear hD3 hfr3 hrB3
    rintro w5 ⟨hD5, hfr5, hrB5⟩
    generalize hlo : N * D1.size = lo at *
    have HLO := Lib.hid hlo
    clear hlo
    have hspl := splice_len D1.bytes lo l (by omega)
    have hlim2 : lo + l.length + (D1.size - l.length) ≤ (spliceB D1.bytes lo l).length := by rw [hspl]; omega
    have HSP := Lib.hid hspl
    clear hspl
    by_cases hfull : l.length = D1.size
    · have hz0 : D1.size - l.length = 0 := by omega
      have HPB := Lib.hid (show spliceB D1.bytes lo l = putBlock D1.bytes lo D1.size l by unfold putBlock; rw [hz0]; simp [spliceB])
      clear hfull
      by_cases hcc : p.cap - lo = l.length
      all_goals go_upto_region 17 with (first
        | ((with_reducible refine wpList_cpy2 bytesT rfl (.tmp 56) (.tmp 57) rfl p.gb lo D1.size _ B l.length cB rfl rfl D1.bytes p.tl hD5.row l rfl hrB5 hl1' hlim ?_); intro w6 hrow6 hgr6 hsz6)
        | (with_reducible refine wpList_clr0 bytesT rfl (.tmp 59) rfl _ _ rfl ?_))
      all_goals
        have hD6 := hD5.setBytes HSP.out hrow6 hgr6
        rw [HPB.out] at hD6
        have hfr6 := hfr5.trans (Fr.of_grown hgr6 (F := p.F pd) (fun k hk _ => by injection hk with hk; exact .inr (.inl hk.symm))) (fun _ _ g => g)
        refine wp_world (fun W => DiskAt pd p { D1 with bytes := putBlock D1.bytes lo D1.size l } W ∧ Fr (p.F pd) w W) ⟨hD6, hfr6⟩ ?_
        clear hD6 hfr6 hrow6 hgr6 hsz6 hD5 hfr5 hrB5 hz0 hlim2
        rintro w8 ⟨hD8, hfr8⟩
        go_frame
        have HFin := Lib.hid (show (d.write (N : Int) l) = (0, { ({ D1 with bytes := putBlock D1.bytes lo D1.size l } : DS) with log := ({ D1 with bytes := putBlock D1.bytes lo D1.size l } : DS).log ++ [(N : Int)] }) by
          rw [HW.out, HD1.out, ← HLO.out, HD1.out]; rfl)
        have hlog : ({ D1 with bytes := putBlock D1.bytes lo D1.size l } : DS).log.length ≤ 1000000 := ok1.lg
        generalize ({ D1 with bytes := putBlock D1.bytes lo D1.size l } : DS) = D8 at *
        obtain ⟨c0, c1, c2, c3, c4⟩ := hD8.cells
        have HD8 := Lib.hid (hD8.keep (below_alloc w8 (.cells #[.int .i64 (N : Int)] 3)))
        have hfr9 := hfr8.trans (Fr.alloc (p.F pd) w8 (.cells #[.int .i64 (N : Int)] 3)) (fun _ _ g => g)
        have HFR := Lib.hid hfr9
        clear hfr8 hfr9
        have hcs : Cs (w8.alloc (.cells #[.int .i64 (N : Int)] 3)) (some ⟨w8.heap.size, 0, none⟩) [iv N] := .inr ⟨_, rfl, cell_one_new w8 (.int .i64 (N : Int)) 3⟩
        have HCS := Lib.hid hcs
        clear hcs
        have hmx : D8.log.length + 1 ≤ maxLen := by simp only [maxLen]; omega
        have hbx : (D8.log.length + 1) * 8 ≤ 140737488355328 := by omega
        have hone : ∀ u ∈ [iv N], u.oneCell' = true := by intro u hu; simp at hu; subst hu; rfl
        go_upto_region 18 with (at_builtin; (with_reducible refine wpList_app intsT rfl (.tmp 64) (.tmp 66) rfl 0 p.lv D8.log.length (D8.log.map iv) rfl HD8.out.log (some ⟨w8.heap.size, 0, none⟩) 1 1 [iv N] rfl rfl HCS.out hone hmx hbx (Nat.zero_le _) ?_); intro v' w9 hown9 hgr9 hat9; obtain ⟨g9, cap9, hv9, _, _⟩ := hown9.form (by omega); subst hv9; have hob := HD8.out.obj.grown hgr9 (by intro e; exact (HD8.out.ne_lv pd e.symm).1 rfl); have d2 := hob.cell 2; have f2 := hob.frozen 2)
        have HL9 := Lib.hid (HD8.out.setLog hown9 hgr9 hat9)
        have HFR9 := Lib.hid ((HFR.out.trans (Fr.of_grown hgr9 (F := p.F pd) (fun k hk _ => .inr (.inr (.inl hk)))) (fun _ _ g => g)).trans (Fr.setCell (p.F pd) w9 (p := ⟨pd, 2, none⟩) (fun _ => .inl rfl) (.slice (some ⟨g9, 0, none⟩) (D8.log.length + 1) cap9)) (fun _ _ g => g))
        have HGB := Lib.hid (show ∀ k, Pl.F pd { p with lv := .slice (some ⟨g9, 0, none⟩) (D8.log.length + 1) cap9 } k → p.F pd k ∨ w.heap.size ≤ k from by
          have hsz8 := HFR.out.size
          rintro k (h1 | h1 | h1 | h1)
          · exact .inl (.inl h1)
          · exact .inl (.inr (.inl h1))
          · rcases hat9 with h2 | h2
            · exact .inl (.inr (.inr (.inl (h2.symm.trans h1))))
            · rw [h2] at h1; injection h1 with h1; exact .inr (by omega)
          · exact .inl (.inr (.inr (.inr h1))))
        clear hown9 hgr9 hat9 hob d2 f2
        go_wp2
        go_ret
        refine ⟨by rw [HFin.out]; rfl, { p with lv := .slice (some ⟨g9, 0, none⟩) (D8.log.length + 1) cap9 }, ?_⟩
        rw [HFin.out]
        exact ⟨HL9.out, HFR9.out, HGB.out⟩
    · have hq5 : ¬ p.cap - lo = l.length := by omega
      go_upto_region 17 with (first
        | ((with_reducible refine wpList_cpy2 bytesT rfl (.tmp 56) (.tmp 57) rfl p.gb lo D1.size (p.cap - lo) B l.length cB rfl rfl D1.bytes p.tl hD5.row l rfl hrB5 hl1' hlim ?_); intro w6 hrow6 hgr6 hsz6)
        | ((with_reducible refine wpList_clr bytesT rfl (.tmp 59) rfl p.gb (lo + l.length) (D1.size - l.length) (p.cap - lo - l.length) rfl (spliceB D1.bytes lo l) p.tl hrow6 hlim2 ?_); intro w7 hrow7 hgr7 hsz7))
      have hD6 := hD5.setBytes HSP.out hrow6 hgr6
      have hD7 := hD6.setBytes (b := putBlock D1.bytes lo D1.size l) (splice_len _ _ _ (by simp; omega)) hrow7 hgr7
      have hfr6 := hfr5.trans (Fr.of_grown hgr6 (F := p.F pd) (fun k hk _ => by injection hk with hk; exact .inr (.inl hk.symm))) (fun _ _ g => g)
      have hfr7 := hfr6.trans (Fr.of_grown hgr7 (F := p.F pd) (fun k hk _ => by injection hk with hk; exact .inr (.inl hk.symm))) (fun _ _ g => g)
      refine wp_world (fun W => DiskAt pd p { D1 with bytes := putBlock D1.bytes lo D1.size l } W ∧ Fr (p.F pd) w W) ⟨hD7, hfr7⟩ ?_
      clear hD6 hfr6 hD7 hfr7 hrow6 hgr6 hsz6 hrow7 hgr7 hsz7 hD5 hfr5 hrB5 hlim2
      rintro w8 ⟨hD8, hfr8⟩
      go_frame
      have HFin := Lib.hid (show (d.write (N : Int) l) = (0, { ({ D1 with bytes := putBlock D1.bytes lo D1.size l } : DS) with log := ({ D1 with bytes := putBlock D1.bytes lo D1.size l } : DS).log ++ [(N : Int)] }) by
        rw [HW.out, HD1.out, ← HLO.out, HD1.out]; rfl)
      have hlog : ({ D1 with bytes := putBlock D1.bytes lo D1.size l } : DS).log.length ≤ 1000000 := ok1.lg
      generalize ({ D1 with bytes := putBlock D1.bytes lo D1.size l } : DS) = D8 at *
      obtain ⟨c0, c1, c2, c3, c4⟩ := hD8.cells
      have HD8 := Lib.hid (hD8.keep (below_alloc w8 (.cells #[.int .i64 (N : Int)] 3)))
      have hfr9 := hfr8.trans (Fr.alloc (p.F pd) w8 (.cells #[.int .i64 (N : Int)] 3)) (fun _ _ g => g)
      have HFR := Lib.hid hfr9
      clear hfr8 hfr9
      have hcs : Cs (w8.alloc (.cells #[.int .i64 (N : Int)] 3)) (some ⟨w8.heap.size, 0, none⟩) [iv N] := .inr ⟨_, rfl, cell_one_new w8 (.int .i64 (N : Int)) 3⟩
      have HCS := Lib.hid hcs
      clear hcs
      have hmx : D8.log.length + 1 ≤ maxLen := by simp only [maxLen]; omega
      have hbx : (D8.log.length + 1) * 8 ≤ 140737488355328 := by omega
      have hone : ∀ u ∈ [iv N], u.oneCell' = true := by intro u hu; simp at hu; subst hu; rfl
      go_upto_region 18 with (at_builtin; (with_reducible refine wpList_app intsT rfl (.tmp 64) (.tmp 66) rfl 0 p.lv D8.log.length (D8.log.map iv) rfl HD8.out.log (some ⟨w8.heap.size, 0, none⟩) 1 1 [iv N] rfl rfl HCS.out hone hmx hbx (Nat.zero_le _) ?_); intro v' w9 hown9 hgr9 hat9; obtain ⟨g9, cap9, hv9, _, _⟩ := hown9.form (by omega); subst hv9; have hob := HD8.out.obj.grown hgr9 (by intro e; exact (HD8.out.ne_lv pd e.symm).1 rfl); have d2 := hob.cell 2; have f2 := hob.frozen 2)
      have HL9 := Lib.hid (HD8.out.setLog hown9 hgr9 hat9)
      have HFR9 := Lib.hid ((HFR.out.trans (Fr.of_grown hgr9 (F := p.F pd) (fun k hk _ => .inr (.inr (.inl hk)))) (fun _ _ g => g)).trans (Fr.setCell (p.F pd) w9 (p := ⟨pd, 2, none⟩) (fun _ => .inl rfl) (.slice (some ⟨g9, 0, none⟩) (D8.log.length + 1) cap9)) (fun _ _ g => g))
      have HGB := Lib.hid (show ∀ k, Pl.F pd { p with lv := .slice (some ⟨g9, 0, none⟩) (D8.log.length + 1) cap9 } k → p.F pd k ∨ w.heap.size ≤ k from by
        have hsz8 := HFR.out.size
        rintro k (h1 | h1 | h1 | h1)
        · exact .inl (.inl h1)
        · exact .inl (.inr (.inl h1))
        · rcases hat9 with h2 | h2
          · exact .inl (.inr (.inr (.inl (h2.symm.trans h1))))
          · rw [h2] at h1; injection h1 with h1; exact .inr (by omega)
        · exact .inl (.inr (.inr (.inr h1))))
      clear hown9 hgr9 hat9 hob d2 f2
      go_wp2
      go_ret
      refine ⟨by rw [HFin.out]; rfl, { p with lv := .slice (some ⟨g9, 0, none⟩) (D8.log.length + 1) cap9 }, ?_⟩
      rw [HFin.out]
      exact ⟨HL9.out, HFR9.out, HGB.out⟩
end
end Go.Proofs.Ytcnhfbckaacalaa
