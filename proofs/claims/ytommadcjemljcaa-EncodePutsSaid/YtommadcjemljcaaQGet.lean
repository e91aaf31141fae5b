/- Layer 8, the reference: the walks of Lay (of every term), Put, Get. -/
import Derived.Test.YtommadcjemljcaaQRdT
import Derived.Test.YtommadcjemljcaaEncO
import Derived.Test.YtommadcjemljcaaTermY
import Derived.Test.YtommadcjemljcaaQLayF
import Derived.Test.YtommadcjemljcaaEncG
namespace Go.Proofs.Ytommadcjemljcaa
open Go.RowKit
set_option linter.unusedVariables false

/-- Lay: of every term. -/
theorem qlay_any (N : Nat) : ∀ (t : TV) (A : Option Addr) (c : Nat) (v : Value) (bl : List UInt8) (w0 W : World), t.parts ≤ N → t.parts ≤ 10000 → t.isT = true → Below w0.heap.size w0 W → RdM w0 A c t.items → W.ownsRow w0.heap.size 5 1 v bl.length (bl.map bv) → bl.length + 300 * t.parts ≤ 100000000 →
    Calls Try.prog 22 #[v, .agg #[.int .i64 t.kind, .int .i64 t.int, .string ⟨t.name.toArray⟩, .slice A t.items.length c]] W (LayEnds w0 W v (bl ++ layT t)) := by
  induction N with
  | zero => intro t _ _ _ _ _ _ h; have := t.parts_pos; omega
  | succ N ih =>
    intro t A c v bl w0 W hN h4 hT hW hR ho hsz
    rw [TV.isT_eq, Bool.and_eq_true] at hT
    have hp := t.parts_eq
    have hlp := len_parts t.items
    have hit : QLayItem w0 t.items := fun k hk A' c' v' bl' W' hW' hR' ho' hsz' => by
      have hpi := parts_item t.items k hk
      have hTi : t.items[k].isT = true := by
        cases h9 : t.items[k].isT with
        | true => rfl
        | false => have := isL_no t.items k hk h9; rw [this] at hT; cases hT.2
      exact ih t.items[k] A' c' v' bl' w0 W' (by omega) (by omega) hTi hW' hR' ho' hsz'
    have hsz' : bl.length + 300 * (TV.partsL t.items + 1) ≤ 100000000 := by rw [← hp]; exact hsz
    rw [layT_eq]
    obtain ⟨k, n, s, l⟩ := t
    simp only [TV.kind, TV.int, TV.name, TV.items] at *
    rcases head_cases hT.1 with ⟨rfl, a1, a2, a3, rfl⟩ | ⟨rfl, a1, a2, a3, rfl⟩ | ⟨rfl | rfl, a1, a2, a3, rfl⟩ | ⟨rfl, a1, a2, rfl⟩ | ⟨rfl, rfl, rfl⟩ | ⟨rfl, a1, rfl, rfl⟩ | ⟨rfl, a1, rfl, rfl⟩
    · have h := qlay_k1 n a1 a2 l A l.length c v bl w0 W rfl (List.eq_nil_of_length_eq_zero a3) (by omega) hT.2 hW hR ho hsz' hit
      rw [List.append_assoc] at h
      exact h
    · have h := qlay_k2 0 s a2 l A l.length c v bl w0 W rfl (List.eq_nil_of_length_eq_zero a3) (by omega) hT.2 hW hR ho hsz' hit
      rw [List.append_assoc] at h
      exact h
    · obtain ⟨m, rfl⟩ := Int.eq_ofNat_of_zero_le a1
      have h := qlay_k3 m (by omega) l A l.length c v bl w0 W rfl (List.eq_nil_of_length_eq_zero a3) (by omega) hT.2 hW hR ho hsz' hit
      rw [List.append_assoc] at h
      exact h
    · obtain ⟨m, rfl⟩ := Int.eq_ofNat_of_zero_le a1
      have h := qlay_k5 m (by omega) l A l.length c v bl w0 W rfl (List.eq_nil_of_length_eq_zero a3) (by omega) hT.2 hW hR ho hsz' hit
      rw [List.append_assoc] at h
      exact h
    · obtain ⟨m, rfl⟩ := Int.eq_ofNat_of_zero_le a1
      have h := qlay_k4 m (by omega) l A l.length c v bl w0 W rfl (by omega) hT.2 hW hR ho hsz' hit
      rw [List.append_assoc] at h
      exact h
    · have h := qlay_k6 0 l A l.length c v bl w0 W rfl (by omega) hT.2 hW hR ho hsz' hit
      rw [List.append_assoc] at h
      exact h
    · have h := qlay_k7 0 l A l.length c v bl w0 W rfl (by omega) hT.2 hW hR ho hsz' hit
      rw [List.append_assoc] at h
      exact h
    · have h := qlay_k8 0 l A l.length c v bl w0 W rfl (by omega) hT.2 hW hR ho hsz' hit
      rw [List.append_assoc] at h
      exact h

set_option maxRecDepth 100000 in
set_option maxHeartbeats 2000000 in
theorem qput_any (l : List TV) (A : Option Addr) (len c : Nat) (w0 W : World) (hlen : l.length = len) (hnm : TV.namedL l) (hW : Below w0.heap.size w0 W) (hR0 : RdM w0 A c l) :
    Calls Try.prog 9 #[.slice A len c] W (PutEnds W l) := by
  have hR := hR0.below hW
  have HCK := Lib.hid (rcheck_any l A len c W W hlen hnm (Below.refl _ _) hR)
  have hlc : len ≤ 9223372036854775807 := by have := hR.1; have := hR.2.1; omega
  have HLEN := Lib.hid hlen
  clear hR0 hW hnm
  by_cases hck : checkP l = 0
  rotate_left
  · obtain ⟨ck, hcke⟩ : ∃ ck, checkP l = ck := ⟨_, rfl⟩
    rw [hcke] at HCK hck
    have hd : ((ck : Int) != 0) = true := by rw [bne_iff_ne]; omega
    have HCKE := Lib.hid hcke
    have HNE := Lib.hid hck
    clear hck hcke hlen
    go_enter Try.func9, Try.ntmps9
    go_wp2_with (go_at_call 14; refine HCK.out.mono ?_; rintro r V1 ⟨rfl, hb1⟩)
    go_ret2
    exact ⟨hb1, .inl ⟨by rw [HCKE.out]; exact HNE.out, by rw [HCKE.out]; rfl⟩⟩
  obtain ⟨hp, hL⟩ := check_ok hck
  have hlp := len_parts l
  rw [hlen] at hlp
  have hsz := layTs_len l hL
  rw [hck] at HCK
  have HCKZ := Lib.hid hck
  have HL := Lib.hid hL
  clear hck hL hlen
  go_enter Try.func9, Try.ntmps9
  go_upto_region 4 with (go_at_call 14; refine HCK.out.mono ?_; rintro r V1 ⟨rfl, hb1⟩)
  have HNUM := Lib.hid (rUint_own (.slice none 0 0) [] len V1 V1.heap.size (World.ownsRow_nil _ _ _ _) (Nat.le_refl _) (by omega) (by simp))
  obtain ⟨B0, hB0⟩ : ∃ B0, ([] : List UInt8) ++ laidB len 0 = B0 := ⟨_, rfl⟩
  rw [hB0] at HNUM
  have HB0 := Lib.hid (show B0 = laidB len 0 by rw [← hB0]; simp)
  clear hB0
  have hbl0 : B0.length ≤ 9 := by rw [HB0.out, laidB_len]; have := wid_le len; omega
  obtain ⟨b0, hb0⟩ : ∃ b0, B0.length = b0 := ⟨_, rfl⟩
  rw [hb0] at HNUM hbl0
  have HB0L := Lib.hid hb0
  clear hb0
  go_upto_region 5 with (go_at_call 21; refine HNUM.out.mono ?_; rintro r V2 ⟨v2, rfl, ho2, hg2⟩)
  have hb3 : Below W.heap.size W V2 := below_step hb1 (hg2.below (Nat.le_refl _) (World.ownsRow_nil _ _ 5 1))
  have ho3 := own_lower (base' := W.heap.size) ho2 (by have := hb1.size; omega)
  clear ho2 hb1 hg2 HNUM HCK
  obtain ⟨A2, c2, rfl, -⟩ : ∃ A2 c2, v2 = .slice A2 b0 c2 ∧ True := by
    rw [← HB0L.out] at ho3 ⊢
    obtain ⟨A2, c2, h, _⟩ := own_rd ho3
    exact ⟨A2, c2, h, trivial⟩
  refine wp_world (fun V => Below W.heap.size W V ∧ V.ownsRow W.heap.size 5 1 (.slice A2 b0 c2) b0 (B0.map bv)) ⟨hb3, ho3⟩ ?_
  clear hb3 ho3
  rintro V3 ⟨hb3, ho3⟩
  have HB3 := Lib.hid (And.intro hb3 ho3)
  clear hb3 ho3
  go_wp2
  go_loopw [5, 6] (fun u i wr => ∃ (k : Nat) (Ak : Option Addr) (ck : Nat), k ≤ len ∧ i = .int .i64 k ∧ u = .slice Ak (B0 ++ layTs (l.take k)).length ck ∧ wr.ownsRow W.heap.size 5 1 (.slice Ak (B0 ++ layTs (l.take k)).length ck) (B0 ++ layTs (l.take k)).length ((B0 ++ layTs (l.take k)).map bv) ∧ Below W.heap.size W wr) (fun _ i _ => len - (intOf i).toNat)
  case atStart =>
    refine ⟨0, A2, c2, Nat.zero_le _, rfl, ?_, ?_, HB3.out.1⟩
    · simp [layTs, HB0L.out]
    · simpa [layTs, HB0L.out] using HB3.out.2
  case round =>
    obtain ⟨k, Ak, ck, hk, rfl, rfl, hok, hbk⟩ := hrel
    by_cases hlt : k < len
    · have hd1 : decide (k < len) = true := by simp; omega
      have hkl : k < l.length := by rw [HLEN.out]; exact hlt
      obtain ⟨b, o, A', c', rfl, e0', e1', e2', e3', hR'⟩ := hR.item hkl
      have e0 := (hbk.cell (World.block_lt_of_cell? W _ e0')).trans e0'
      have e1 := (hbk.cell (World.block_lt_of_cell? W _ e1')).trans e1'
      have e2 := (hbk.cell (World.block_lt_of_cell? W _ e2')).trans e2'
      have e3 := (hbk.cell (World.block_lt_of_cell? W _ e3')).trans e3'
      have htk := layTs_take l k hkl
      have hpt := partsL_take l k hkl
      have hpl := partsL_take_le l (k + 1)
      have hLs : TV.isL (l.take k) = true ∧ l[k].isT = true := by
        have := HL.out
        rw [← List.take_append_drop (k + 1) l, isL_append, isL_take l k hkl, Bool.and_eq_true, Bool.and_eq_true] at this
        exact this.1
      have hlt1 := layTs_len (l.take k) hLs.1
      have hlk : (B0 ++ layTs (l.take k)).length ≤ b0 + 300 * TV.partsL (l.take k) := by rw [List.length_append, HB0L.out]; omega
      have HTK := Lib.hid (show B0 ++ layTs (l.take (k + 1)) = B0 ++ layTs (l.take k) ++ layT l[k] by rw [htk, List.append_assoc])
      have HC := Lib.hid (qlay_any l[k].parts l[k] A' c' (.slice Ak (B0 ++ layTs (l.take k)).length ck) (B0 ++ layTs (l.take k)) W wr (Nat.le_refl _) (by omega) hLs.2 hbk hR' hok (by omega))
      obtain ⟨Bk, hBk⟩ : ∃ Bk, B0 ++ layTs (l.take k) = Bk := ⟨_, rfl⟩
      rw [hBk] at HC HTK hok
      obtain ⟨nk, hnk⟩ : ∃ nk, Bk.length = nk := ⟨_, rfl⟩
      rw [hBk, hnk]
      rw [hnk] at HC hok
      obtain ⟨Bm, hBm⟩ : ∃ Bm, Bk ++ layT l[k] = Bm := ⟨_, rfl⟩
      rw [hBm] at HC HTK
      have HBK := Lib.hid (And.intro hok hbk)
      have hq1 : (0 : Int) ≤ (k : Int) := by omega
      have hq2 : (k : Int) < (len : Int) := by omega
      clear e0' e1' e2' e3' htk hpt hpl hlt1 hlk hBk hnk hBm hok hR' hLs
      generalize l[k] = ti at *
      clear hkl
      go_wp2_with (go_at_call 22; refine HC.out.mono ?_; rintro r V5 ⟨A5, c5, rfl, ho5, hg5⟩)
      go_roundw
      case rel =>
        refine ⟨k + 1, A5, c5, by omega, by go_num, by rw [HTK.out], by rw [HTK.out]; exact ho5, ?_⟩
        exact hbk.trans (hg5.below (by have := hbk.size; omega) HBK.out.1)
      case measure => simp [intOf]; omega
    · obtain rfl : len = k := by omega
      have hd1 : decide (len < len) = false := by simp
      have HE := Lib.hid (show B0 ++ layTs (l.take len) = putB l by rw [List.take_of_length_le (by rw [HLEN.out]; exact Nat.le_refl _), HB0.out, putB, HLEN.out])
      rw [HE.out] at hok ⊢
      have HOK := Lib.hid hok
      clear hok HE
      generalize hZ : (putB l).length = z at *
      go_wp2
      go_ret2
      exact ⟨hbk, .inr ⟨HCKZ.out, Ak, ck, by rw [hZ]; rfl, by rw [hZ]; exact HOK.out⟩⟩

/-- The row of terms that have been read so far. -/
structure GQ (pl pt : Nat) (A : Option Addr) (c : Nat) (n : Nat) (t : TS) (left : Int) (B : Nat) (v : Value) (wr : World) (xs : List EX) (tk : TS) (lk : Int) : Prop where
  own : wr.ownsRow B 39 4 v xs.length (exL xs)
  each : ∀ x ∈ xs, RdX (fun k => k < B ∨ v.ownBlock = some k ∨ wr.heap.size ≤ k) wr x.A x.c x.t.items
  rq : RQ pl pt A c tk lk wr
  lo : lk ≤ left - xs.length
  hi : -1 ≤ lk
  le : xs.length ≤ n
  base : pl < B ∧ pt < B ∧ B ≤ wr.heap.size
  oldA : ∀ b off, A = some ⟨b, off, none⟩ → b < B
  rel : ∀ r t' l', SomeQ (n - xs.length) tk lk r t' l' → SomeQ n t left (xs.map (fun x : EX => x.t) ++ r) t' l'
section
variable {pl pt : Nat} {A : Option Addr} {c n B : Nat} {t : TS} {left : Int} {W : World}
theorem GQ.start (h : RQ pl pt A c t left W) (hA : ∀ b off, A = some ⟨b, off, none⟩ → b < W.heap.size) (hl : -1 ≤ left) : GQ pl pt A c n t left W.heap.size (.slice none 0 0) W [] t left :=
  ⟨World.ownsRow_nil _ _ _ _, fun x hx => by simp at hx, h, by simp, hl, Nat.zero_le _, ⟨h.lt.1, h.lt.2, Nat.le_refl _⟩, hA, fun r t' l' hr => by simpa using hr⟩
theorem GQ.step {v v' : Value} {wr w5 w6 : World} {xs : List EX} {tk t' : TS} {lk l' : Int} {x : EX} {o : Obj} (h : GQ pl pt A c n t left B v wr xs tk lk) (hgo : xs.length < n ∧ tk.fault = 0 ∧ 0 < lk)
    (hx : TermQ tk lk x.t t' l') (hR : RQ pl pt A c t' l' w5) (hX : RdX (fun k => k < wr.heap.size) w5 x.A x.c x.t.items) (hF : Fr (fun k => k = pt ∨ k = pl) wr w5) (hl : l' < lk) (hg : -1 ≤ l')
    (ho : w6.ownsRow B 39 4 v' (xs.length + 1) (exL xs ++ x.cells)) (hgr : (w5.alloc o).grownBy w6 v.ownBlock) (hv : v'.ownBlock = v.ownBlock ∨ v'.ownBlock = some (w5.alloc o).heap.size) :
    GQ pl pt A c n t left B v' w6 (xs ++ [x]) t' l' := by
  obtain ⟨b0, b1, b2⟩ := h.base
  have s2 := hF.size
  have s3 := hgr.size
  have s4 : (w5.alloc o).heap.size = w5.heap.size + 1 := by simp
  have hown : ∀ k, v.ownBlock = .some k → B ≤ k ∧ k < wr.heap.size := fun k hk => h.own.lt k hk
  have hFg : Fr (fun k => v.ownBlock = .some k) (w5.alloc o) w6 := Fr.of_grown hgr (fun k e _ => e)
  refine ⟨by rw [exL_append, exL_one, List.length_append]; exact ho, ?_, ?_, ?_, hg, ?_, ⟨b0, b1, by omega⟩, h.oldA, ?_⟩
  · intro y hy
    rcases List.mem_append.1 hy with hy | hy
    · have h1 := h.each y hy
      have h2 := ((h1.to ((KeepEx.of_fr hF).mono (fun k e => .inl (by omega)))).below (below_alloc w5 o)).to ((KeepEx.of_fr hFg).mono (fun k e => .inr (.inl e)))
      refine h2.mono fun k hk => ?_
      rcases hk with hk | hk | hk
      · exact .inl hk
      · rcases hv with e | e
        · exact .inr (.inl (e ▸ hk))
        · rw [e] at hk
          injection hk with hk
          exact .inr (.inr (by omega))
      · exact .inr (.inr (by omega))
    · obtain rfl : y = x := by simpa using hy
      have h2 := (hX.new.below (below_alloc w5 o)).to ((KeepEx.of_fr hFg).mono (fun k e => .inl (by have := (hown k e).2; omega)))
      refine h2.mono fun k hk => ?_
      rcases hk with hk | hk | hk
      · exact .inl (by omega)
      · rcases hv with e | e
        · exact .inl (by rw [e] at hk; have := (hown k hk).2; omega)
        · rw [e] at hk
          injection hk with hk
          exact .inr (by omega)
      · exact .inr (by omega)
  · refine (hR.keep (below_alloc w5 o)).far hFg (fun e => ?_) (fun e => ?_) (fun b off e e2 => ?_)
    · have := (hown _ e).1; omega
    · have := (hown _ e).1; omega
    · have := (hown _ e2).1; have := h.oldA b off e; omega
  · have := h.lo; rw [List.length_append]; simp; omega
  · rw [List.length_append]; simp; omega
  · intro r t'' l'' hr
    have := h.rel (x.t :: r) t'' l'' (.more ⟨by omega, hgo.2⟩ hx (by rw [List.length_append] at hr; simpa [Nat.sub_sub] using hr))
    simpa using this
end

set_option maxRecDepth 100000 in
set_option maxHeartbeats 4000000 in
theorem qget_any (A : Option Addr) (l : List UInt8) (n c : Nat) (W : World) (hl : l.length = n) (hn : n ≤ 100000000) (hr : Rd W A l) :
    Calls Try.prog 11 #[.slice A n c] W (GetEnds W l) := by
  have HOP := Lib.hid (rnew_any A l n c W hl (by omega) hr)
  have HL := Lib.hid hl
  obtain ⟨x, hx⟩ : ∃ x, (⟨l, 0, 0, 0⟩ : TS).number false = x := ⟨_, rfl⟩
  have hx9 : x.1.1 < 18446744073709551616 := by rw [← hx]; exact number_lt false
  have HX := Lib.hid hx
  have HR := Lib.hid hr
  clear hl hx hr
  go_enter Try.func11, Try.ntmps11
  go_upto_region 2 with (go_at_call 29; refine HOP.out.mono ?_; rintro r V1 ⟨pt, C, cC, rfl, hT1, hB1, hp1, hC1, hp2⟩)
  refine wp_world (fun V => (ReadAt pt C cC ⟨l, 0, 0, 0⟩ V ∧ Below W.heap.size W V) ∧ pt < V.heap.size) ⟨⟨hT1, hB1⟩, hp2⟩ ?_
  clear hT1 hB1 hp2 HOP
  rintro V2 ⟨⟨hT2, hB2⟩, hp2⟩
  have HC1 := Lib.hid hC1
  have HNU := Lib.hid (ruint_any hT2)
  rw [HX.out] at HNU
  have HB2 := Lib.hid hB2
  clear hT2 hC1 hB2
  go_upto_region 3 with (go_at_call 30; refine HNU.out.mono ?_; rintro r V3 ⟨rfl, ha3⟩)
  have hb3 : Below W.heap.size W V3 := HB2.out.trans (ha3.fr.below HB2.out.size (fun k e => by omega))
  have hp3 : pt < V3.heap.size := ha3.tape.obj.lt
  obtain ⟨pl, hpl⟩ : ∃ pl, V3.heap.size = pl := ⟨_, rfl⟩
  have hlo : W.heap.size ≤ pl := by have := hb3.size; omega
  have hpp : pt < pl := by omega
  have hRQ : RQ V3.heap.size pt C cC x.2 4096 (V3.alloc (.cells #[.int .i64 4096] 3)) := ⟨ha3.tape.keep (below_alloc _ _), Blk.new _ _ _, by omega, fun b off e => by have := HC1.out b off e; omega⟩
  go_upto_region 4 with (fail)
  refine wp_world (fun V => (RQ V3.heap.size pt C cC x.2 4096 V ∧ Below W.heap.size W V) ∧ V3.heap.size < V.heap.size) ⟨⟨hRQ, below_step hb3 (below_alloc _ _)⟩, by simp⟩ ?_
  rw [hpl]
  clear hRQ hb3 ha3 hpl HNU HB2 hp3
  rintro V4 ⟨⟨hR4, hb4⟩, hp4⟩
  have hg0 := GQ.start (n := x.1.1) hR4 (fun b off e => by have := HC1.out b off e; omega) (by omega)
  obtain ⟨B, hB⟩ : ∃ B, V4.heap.size = B := ⟨_, rfl⟩
  have hWB : W.heap.size ≤ B := by rw [← hB]; exact hb4.size
  rw [hB] at hg0
  have HG0 := Lib.hid (And.intro hg0 hb4)
  clear hg0 hb4 hR4 hB hp4
  obtain ⟨n0, hn0⟩ : ∃ n0, x.1.1 = n0 := ⟨_, rfl⟩
  rw [hn0] at HG0 hx9 ⊢
  have HN0 := Lib.hid hn0
  clear hn0
  go_wp2
  go_loopw [7, 8] (fun v i wr => ∃ (xs : List EX) (tk : TS) (lk : Int), i = .int .u64 (xs.length : Int) ∧ GQ pl pt C cC n0 x.2 4096 B v wr xs tk lk ∧ Below W.heap.size W wr) (fun _ i _ => n0 - (intOf i).toNat)
  case atStart => exact ⟨[], x.2, 4096, rfl, HG0.out⟩
  case round =>
    obtain ⟨xs, tk, lk, rfl, hS, hbk⟩ := hrel
    clear HG0
    have HS := Lib.hid hS
    have hlo9 := hS.lo
    have hhi := hS.hi
    have hle := hS.le
    have e2 : wr.cell? ⟨pt, 2, none⟩ = some (.int .i64 (tk.fault : Int)) := hS.rq.tape.cells.2.2.1
    have cl : wr.cell? ⟨pl, 0, none⟩ = some (.int .i64 lk) := hS.rq.box.cell 0
    obtain ⟨Av, cv, rfl⟩ := ex_form hS.own
    obtain ⟨nx, hnx⟩ : ∃ nx, xs.length = nx := ⟨_, rfl⟩
    have HNX := Lib.hid hnx
    have HBK := Lib.hid hbk
    rw [hnx] at hlo9 hle ⊢
    rw [hnx] at HS
    clear hnx hS hbk
    by_cases hgo : nx < n0 ∧ tk.fault = 0 ∧ 0 < lk
    · have HGO := Lib.hid hgo
      have hd1 : decide (nx < n0) = true := by simpa using hgo.1
      have hd2 : decide (0 < lk) = true := by simpa using hgo.2.2
      rw [hgo.2.1] at e2
      have HCALL := Lib.hid (qread_any tk lk wr HS.out.rq (fun b off e => by have := HS.out.oldA b off e; have := HS.out.base; omega) hgo.2.2 (by omega) (by omega))
      have hnx1 : nx + 1 ≤ maxLen := by unfold maxLen; omega
      have hbx1 : (nx + 1) * 56 ≤ 140737488355328 := by omega
      have hnn : nx + 1 ≤ n0 := by omega
      clear hgo
      go_wp2_with (first
        | (go_at_call 31; refine HCALL.out.mono ?_; rintro r w5 ⟨y, t', l', rfl, hx5, hR5, hX5, hF5, hl5, hg5⟩; have hO5 : w5.ownsRow B 39 4 (.slice Av nx cv) nx (exL xs) := (by have h9 := HS.out.own; rw [HNX.out] at h9; exact own_fr h9 hF5 (fun q hq => by have := (h9.lt q hq).1; have := HS.out.base; omega)); have hs5 : B ≤ w5.heap.size := (by have := hF5.size; have := HS.out.base; omega))
        | (at_builtin; refine wpList_app ex_termsT rfl (.tmp 31) (.tmp 34) rfl B (.slice Av nx cv) nx (exL xs) rfl (hO5.alloc _) (some ⟨w5.heap.size, 0, none⟩) 1 1 y.cells rfl rfl (ex_news w5 y) (excells_one _) hnx1 hbx1 (by simp; omega) ?_; intro v6 w6 ho6 hg6 hw6))
      have HS7 := Lib.hid (HS.out.step (by rw [HNX.out]; exact HGO.out) hx5 hR5 hX5 hF5 hl5 hg5 (by rw [HNX.out]; exact ho6) hg6 hw6)
      have hb5 : Below W.heap.size W w5 := HBK.out.trans (hF5.below HBK.out.size (fun k e => by omega))
      have HB6 : Hid (Below W.heap.size W w6) := (below_step hb5 (below_alloc w5 (.cells y.cells.toArray 39))).grown hg6 (by have := hb5.size; simp; omega) (fun k hk => by have := (hO5.lt k hk).1; omega)
      clear ho6 hg6 hw6 hO5 hX5 hF5 hR5 hx5 hb5 cl e2
      go_roundw
      case rel => exact ⟨xs ++ [y], t', l', by rw [List.length_append, HNX.out]; go_num, HS7.out, HB6.out⟩
      case measure => simp [intOf]; omega
    have hend : SomeQ n0 x.2 4096 (xs.map (fun x : EX => x.t)) tk lk := by
      have := HS.out.rel [] tk lk (.stop (by rw [HNX.out]; omega))
      simpa using this
    have HNM := Lib.hid (someQ_named hend)
    have HLAW : Hid (∀ ys, checkP ys = 0 → putB ys = l → xs.map (fun x : EX => x.t) = ys ∧ n0 = nx ∧ tk.end_ = 0 ∧ 0 ≤ lk) := fun ys h1 h2 => by
      have h9 := getq_law (check_ok h1) h2 (by rw [HX.out, HN0.out]; exact hend)
      rw [HX.out, HN0.out, List.length_map, HNX.out] at h9
      exact h9
    have HRD : Hid (RdM wr Av cv (xs.map (fun x : EX => x.t))) := (rdx_of_own (n := nx) (by have h9 := HS.out.own; rw [HNX.out] at h9; exact h9) HNX.out (fun q => q < B) (fun g hg => by have := (HS.out.own.lt g hg).1; omega) (fun x hx => (HS.out.each x hx).mono (fun q hq => .inl hq))).rd
    have HDN := Lib.hid (rdone_any HS.out.rq.tape)
    have HCL : Hid (∀ q, (wr.drewN q).cell? ⟨pl, 0, none⟩ = some (.int .i64 lk)) := fun q => (HS.out.rq.keep (below_drewN (Below.refl _ _) q)).box.cell 0
    obtain ⟨ts, hts⟩ : ∃ ts, xs.map (fun x : EX => x.t) = ts := ⟨_, rfl⟩
    have HTS := Lib.hid (show ts.length = nx by rw [← hts, List.length_map, HNX.out])
    rw [hts] at HNM HLAW HRD
    have hnx4 : nx ≤ 5000 := by omega
    clear hend hts HS HNX
    by_cases hen : tk.end_ = 0
    rotate_left
    · have hde : ((tk.end_ : Int) != 0) = true := by rw [bne_iff_ne]; omega
      have HNE := Lib.hid hen
      clear hen
      by_cases hnn : nx < n0
      · have hd1 : decide (nx < n0) = true := by simpa using hnn
        by_cases hf0 : tk.fault = 0
        · have hd2 : decide (0 < lk) = false := by simp; omega
          rw [hf0] at e2
          clear hf0
          have HNO : Hid (∀ xs, checkP xs = 0 → putB xs ≠ l) := fun ys h1 h2 => HNE.out (HLAW.out ys h1 h2).2.2.1
          clear HLAW HRD HNM HTS hgo
          go_wp2_with (go_at_call 32; refine HDN.out.mono ?_; rintro r wq ⟨rfl, q, rfl⟩; have g9 := HCL.out q)
          go_ret2
          exact ⟨below_drewN HBK.out q, .inr ⟨HNO.out, rfl⟩⟩
        · have hdf : ((tk.fault : Int) == 0) = false := by simp; omega
          have HNO : Hid (∀ xs, checkP xs = 0 → putB xs ≠ l) := fun ys h1 h2 => HNE.out (HLAW.out ys h1 h2).2.2.1
          clear HLAW HRD HNM HTS hgo
          go_wp2_with (go_at_call 32; refine HDN.out.mono ?_; rintro r wq ⟨rfl, q, rfl⟩; have g9 := HCL.out q)
          go_ret2
          exact ⟨below_drewN HBK.out q, .inr ⟨HNO.out, rfl⟩⟩
      · have hd1 : decide (nx < n0) = false := by simpa using hnn
        have HNO : Hid (∀ xs, checkP xs = 0 → putB xs ≠ l) := fun ys h1 h2 => HNE.out (HLAW.out ys h1 h2).2.2.1
        clear HLAW HRD HNM HTS hgo
        go_wp2_with (go_at_call 32; refine HDN.out.mono ?_; rintro r wq ⟨rfl, q, rfl⟩; have g9 := HCL.out q)
        go_ret2
        exact ⟨below_drewN HBK.out q, .inr ⟨HNO.out, rfl⟩⟩
    have hf0 : tk.fault = 0 := by
      unfold TS.end_ at hen
      split at hen
      · omega
      · exact hen
    rw [hf0] at e2
    rw [hen] at HDN HLAW
    clear hen
    by_cases hlk : lk < 0
    · have hd3 : decide (lk < 0) = true := by simpa using hlk
      by_cases hnn : nx < n0
      · have hd1 : decide (nx < n0) = true := by simpa using hnn
        have hd2 : decide (0 < lk) = false := by simp; omega
        clear hf0
        have HNO : Hid (∀ xs, checkP xs = 0 → putB xs ≠ l) := fun ys h1 h2 => by have := (HLAW.out ys h1 h2).2.2.2; omega
        clear HLAW HRD HNM HTS hgo
        go_wp2_with (go_at_call 32; refine HDN.out.mono ?_; rintro r wq ⟨rfl, q, rfl⟩; have g9 := HCL.out q)
        go_ret2
        exact ⟨below_drewN HBK.out q, .inr ⟨HNO.out, rfl⟩⟩
      · have hd1 : decide (nx < n0) = false := by simpa using hnn
        clear hf0
        have HNO : Hid (∀ xs, checkP xs = 0 → putB xs ≠ l) := fun ys h1 h2 => by have := (HLAW.out ys h1 h2).2.2.2; omega
        clear HLAW HRD HNM HTS hgo
        go_wp2_with (go_at_call 32; refine HDN.out.mono ?_; rintro r wq ⟨rfl, q, rfl⟩; have g9 := HCL.out q)
        go_ret2
        exact ⟨below_drewN HBK.out q, .inr ⟨HNO.out, rfl⟩⟩
    have hd3 : decide (lk < 0) = false := by simpa using hlk
    by_cases hnn : nx < n0
    · have hd1 : decide (nx < n0) = true := by simpa using hnn
      have hd2 : decide (0 < lk) = false := by simp; omega
      clear hf0
      have HNO : Hid (∀ xs, checkP xs = 0 → putB xs ≠ l) := fun ys h1 h2 => by have := (HLAW.out ys h1 h2).2.1; omega
      clear HLAW HRD HNM HTS hgo
      go_wp2_with (go_at_call 32; refine HDN.out.mono ?_; rintro r wq ⟨rfl, q, rfl⟩; have g9 := HCL.out q)
      go_ret2
      exact ⟨below_drewN HBK.out q, .inr ⟨HNO.out, rfl⟩⟩
    have hd1 : decide (nx < n0) = false := by simpa using hnn
    clear hf0 hgo
    have HPU : Hid (∀ V, Below wr.heap.size wr V → Calls Try.prog 9 #[.slice Av nx cv] V (PutEnds V ts)) := fun V hV => qput_any ts Av nx cv wr V HTS.out HNM.out hV HRD.out
    by_cases hck : checkP ts = 0
    rotate_left
    · obtain ⟨ck, hcke⟩ : ∃ ck, checkP ts = ck := ⟨_, rfl⟩
      have hd : ((ck : Int) != 0) = true := by rw [bne_iff_ne]; omega
      have HNO : Hid (∀ xs, checkP xs = 0 → putB xs ≠ l) := fun ys h1 h2 => hck (by rw [(HLAW.out ys h1 h2).1]; exact h1)
      have HPN : Hid (∀ V, Below wr.heap.size wr V → Calls Try.prog 9 #[.slice Av nx cv] V fun r w' => r = .returned (.tuple #[.slice none 0 0, .int .i64 (ck : Nat)]) ∧ Below V.heap.size V w') := fun V hV => (HPU.out V hV).mono fun r w' ⟨hb, h⟩ => by
        rcases h with ⟨_, h⟩ | ⟨h, _⟩
        · exact ⟨by rw [h, hcke], hb⟩
        · exact absurd h hck
      clear hck hcke HLAW
      go_wp2_with (first
        | (go_at_call 32; refine HDN.out.mono ?_; rintro r wq ⟨rfl, q, rfl⟩; have g9 := HCL.out q)
        | (go_at_call 9; refine (HPN.out _ (below_drewN (Below.refl _ _) q)).mono ?_; rintro r w7 ⟨rfl, hb7⟩))
      go_ret2
      exact ⟨below_step (below_drewN HBK.out q) hb7, .inr ⟨HNO.out, rfl⟩⟩
    have hpl := putB_len hck
    have HPY : Hid (∀ V, Below wr.heap.size wr V → Calls Try.prog 9 #[.slice Av nx cv] V fun r w' => ∃ A7 c7 z, z = (putB ts).length ∧ r = .returned (.tuple #[.slice A7 z c7, .int .i64 0]) ∧ Rd w' A7 (putB ts) ∧ Below V.heap.size V w') := fun V hV => (HPU.out V hV).mono fun r w' ⟨hb, h⟩ => by
      rcases h with ⟨h, _⟩ | ⟨_, A7, c7, h, ho⟩
      · exact absurd hck h
      · obtain ⟨A8, c8, hv, hr8, _⟩ := own_rd ho
        obtain ⟨rfl, _, rfl⟩ := Value.slice.inj hv
        exact ⟨A7, c7, _, rfl, h, hr8, hb⟩
    have HST : Hid (∀ V A7 c7 z, Below W.heap.size W V → z = (putB ts).length → Rd V A7 (putB ts) → (convert 23 9 (.slice A7 z c7)).run Try.prog V = .ok (.string ⟨(putB ts).toArray⟩) V ∧ (convert 23 9 (.slice A n c)).run Try.prog V = .ok (.string ⟨l.toArray⟩) V) := fun V A7 c7 z hV hz h7 =>
      ⟨run_str (P := Try.prog) Try.underlying23 Try.underlying5 Try.underlying9 V A7 z c7 (putB ts) hz.symm h7, run_str (P := Try.prog) Try.underlying23 Try.underlying5 Try.underlying9 V A n c l HL.out (HR.out.below hV)⟩
    obtain ⟨p, hp⟩ : ∃ p, putB ts = p := ⟨_, rfl⟩
    have HCK := Lib.hid hck
    have HPE := Lib.hid hp
    rw [hp] at HPY HST
    clear hck hpl hp
    by_cases hpe : p = l
    · have hq : (p == l) = true := by simp [hpe]
      have HQE := Lib.hid hpe
      clear hpe
      go_wp2_with (first
        | (go_at_call 32; refine HDN.out.mono ?_; rintro r wq ⟨rfl, q, rfl⟩; have g9 := HCL.out q)
        | (go_at_call 9; refine (HPY.out _ (below_drewN (Below.refl _ _) q)).mono ?_; rintro r w7 ⟨A7, c7, z, hz, rfl, h7, hb7⟩; obtain ⟨s1, s2⟩ := HST.out w7 A7 c7 z (below_step (below_drewN HBK.out q) hb7) hz h7; clear hz))
      go_ret2
      refine ⟨below_step (below_drewN HBK.out q) hb7, .inl ⟨ts, Av, cv, HCK.out, by rw [HPE.out]; exact HQE.out, by rw [HTS.out]; rfl, ?_⟩⟩
      exact (HRD.out.below (below_drewN (Below.refl _ _) q)).below hb7
    · have hq : (p == l) = false := by rw [beq_eq_false_iff_ne]; exact hpe
      have HNO : Hid (∀ xs, checkP xs = 0 → putB xs ≠ l) := fun ys h1 h2 => hpe (by rw [← HPE.out, (HLAW.out ys h1 h2).1]; exact h2)
      clear hpe
      go_wp2_with (first
        | (go_at_call 32; refine HDN.out.mono ?_; rintro r wq ⟨rfl, q, rfl⟩; have g9 := HCL.out q)
        | (go_at_call 9; refine (HPY.out _ (below_drewN (Below.refl _ _) q)).mono ?_; rintro r w7 ⟨A7, c7, z, hz, rfl, h7, hb7⟩; obtain ⟨s1, s2⟩ := HST.out w7 A7 c7 z (below_step (below_drewN HBK.out q) hb7) hz h7; clear hz))
      go_ret2
      exact ⟨below_step (below_drewN HBK.out q) hb7, .inr ⟨HNO.out, rfl⟩⟩
end Go.Proofs.Ytommadcjemljcaa
