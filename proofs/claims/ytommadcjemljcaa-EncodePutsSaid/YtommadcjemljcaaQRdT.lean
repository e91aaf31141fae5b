/- Layer 8, the reference: the walk of Read. -/
import Derived.Test.YtommadcjemljcaaQRdS
import Derived.Test.YtommadcjemljcaaOrd
import Derived.Deep.DeepCutAuto
import Derived.Deep.CutBlock
namespace Go.Proofs.Ytommadcjemljcaa
open Go.RowKit
set_option linter.unusedVariables false

theorem q_bp_world {P : Program} {fn : Func} {R : Ending → World → Prop} {ex : Exit} {a : Act} {w : World} (F : World → Prop) (hF : F w) (h : ∀ w', F w' → bodyPost P fn R ex a w') : bodyPost P fn R ex a w := h w hF
theorem u8_is {x : UInt8} {b k : Nat} (h : x.toNat = b) (hb : b = k) (hk : k < 256) : x = UInt8.ofNat k := UInt8.toNat_inj.1 (by rw [h, hb]; simp; omega)
theorem u8_isnt {x : UInt8} {b k : Nat} (h : x.toNat = b) (hb : b ≠ k) (hk : k < 256) : x ≠ UInt8.ofNat k := fun e => hb (by rw [← h, e]; simp; omega)
def QTermOk (pl pt : Nat) (A : Option Addr) (c : Nat) (N : Int) : Prop := ∀ (t : TS) (left : Int) (W : World), RQ pl pt A c t left W → (∀ b off, A = .some ⟨b, off, none⟩ → b < W.heap.size) → 0 < left → left < N → left ≤ 1000000 →
  Calls Try.prog 31 #[.pointer (.some ⟨pt, 0, none⟩), .pointer (.some ⟨pl, 0, none⟩)] W (QTermEnds pl pt A c t left W)
section
variable {pl pt : Nat} {A : Option Addr} {c : Nat}
set_option maxRecDepth 100000 in
set_option maxHeartbeats 4000000 in
theorem qread_step {N : Int} (ih : QTermOk pl pt A c N) : QTermOk pl pt A c (N + 1) := by
  intro t left W h hA hl0 hl1 hl2
  have HIH := Lib.hid ih
  have HS0 := Lib.hid (KQ0.start h hA)
  obtain ⟨T1, hT1⟩ : ∃ T1, t.byte.2 = T1 := ⟨_, rfl⟩
  obtain ⟨b, hb⟩ : ∃ b, t.byte.1.toNat = b := ⟨_, rfl⟩
  have hb256 : b < 256 := by rw [← hb]; exact UInt8.toNat_lt _
  have HBY : Hid (∀ V, ReadAt pt A c t V → Calls Try.prog 54 #[.pointer (some ⟨pt, 0, none⟩)] V fun r w' => r = .returned (.int .u8 (b : Int)) ∧ RAct V pt A c T1 w') := fun V hV => (rbyte_any hV).mono fun r w' ⟨hr, ha⟩ => ⟨by rw [hr, ← hb]; rfl, by rw [← hT1]; exact ha⟩
  have HT1 := Lib.hid hT1
  have HTB := Lib.hid hb
  have HW := Lib.hid h.lt
  have HAB := Lib.hid hA
  clear h hT1 hb ih hA
  go_enter Try.func31, Try.ntmps31
  go_upto_region 1 with (fail)
  refine wp_world (KQ0 pl pt A c t left W) HS0.out ?_
  clear HS0
  intro V0 hS0
  have c1 : V0.cell? ⟨pl, 0, none⟩ = some (.int .i64 left) := hS0.rs.box.cell 0
  have cf := hS0.rs.box.frozen 0
  go_upto_region 2 with (fail)
  refine wp_world (KQ0 pl pt A c t (left - 1) W) (hS0.dec _) ?_
  clear c1 cf hS0
  intro V9 hS1
  go_upto_region 3 with (go_at_call 54; refine (HBY.out _ hS1.rs.tape).mono ?_; rintro r V1 ⟨rfl, ha1⟩)
  have hK1 := (hS1.act ha1).kt [.int .i64 (b : Int), .int .i64 0, .string ⟨#[]⟩, .slice none 0 0]
  obtain ⟨tb, htb⟩ : ∃ tb, V1.heap.size = tb := ⟨_, rfl⟩
  rw [htb] at hK1
  refine wp_world (KQ pl pt A c tb T1 (left - 1) [.int .i64 (b : Int), .int .i64 0, .string ⟨#[]⟩, .slice none 0 0] W) hK1 ?_
  rw [htb]
  clear ha1 hK1 htb HBY hS1
  intro V2 hK2
  iterate 8 (first | go_skip | go_step | go_upon | go_back)
  go_cut [6] (fun nv wx => ∃ (n : Nat) (T : TS) (k z : Int) (s : List UInt8), nv = .int .u64 (n : Int) ∧ n < 18446744073709551616 ∧ HeadQ t k z s n T ∧ KQ pl pt A c tb T (left - 1) [.int .i64 k, .int .i64 z, .string ⟨s.toArray⟩, .slice none 0 0] W wx)
  case first =>
    clear HIH hl0 hl1 hl2
    have k0 : V2.cell? ⟨tb, 0, none⟩ = some (.int .i64 (b : Int)) := hK2.t.cell 0
    by_cases b1 : b = 1
    · have TB := Lib.hid (u8_is (k := 1) HTB.out b1 (by omega))
      have d1 : ((b : Int) == 1) = true := by simp; omega
      have HB := Lib.hid (show (b : Int) = 1 by omega)
      clear b1
      have HC := Lib.hid (rint_any hK2.rs.tape)
      obtain ⟨y, hy⟩ : ∃ y, T1.int = y := ⟨_, rfl⟩
      rw [hy] at HC
      have HY := Lib.hid hy
      clear hy
      have HQ : Hid (HeadQ t (b : Int) y.1 [] 0 y.2) := by rw [HB.out, ← HY.out, ← HT1.out]; exact .k1 TB.out
      go_wp2_with (go_at_call 55; refine HC.out.mono ?_; rintro r V3 ⟨rfl, ha3⟩; have hK3 := hK2.act ha3; have gf := hK3.t.frozen 1; have g1 : V3.cell? ⟨tb, 1, none⟩ = some (.int .i64 0) := hK3.t.cell 1)
      go_meet
      exact ⟨0, y.2, b, y.1, [], rfl, by omega, HQ.out, hK3.set_ 1 _⟩
    by_cases b2 : b = 2
    · have TB := Lib.hid (u8_is (k := 2) HTB.out b2 (by omega))
      have d1 : ((b : Int) == 1) = false := by simp; omega
      have d2 : ((b : Int) == 2) = true := by simp; omega
      have HB := Lib.hid (show (b : Int) = 2 by omega)
      clear b1 b2
      have HC := Lib.hid ((rtext_any hK2.rs.tape 255 (by omega)).mono fun r w' h => And.intro h.1 h.2)
      obtain ⟨y, hy⟩ : ∃ y, T1.str 255 = y := ⟨_, rfl⟩
      rw [hy] at HC
      have HY := Lib.hid hy
      clear hy
      have HQ : Hid (HeadQ t (b : Int) 0 y.1 0 y.2) := by rw [HB.out, ← HY.out, ← HT1.out]; exact .k2 TB.out
      go_wp2_with (go_at_call 56; refine HC.out.mono ?_; rintro r V3 ⟨rfl, ha3⟩; have hK3 := hK2.act ha3; have gf := hK3.t.frozen 2; have g1 : V3.cell? ⟨tb, 2, none⟩ = some (.string ⟨#[]⟩) := hK3.t.cell 2)
      go_meet
      exact ⟨0, y.2, b, 0, y.1, rfl, by omega, HQ.out, hK3.set_ 2 _⟩
    by_cases b3 : b = 3
    · have TB := Lib.hid (u8_is (k := 3) HTB.out b3 (by omega))
      have d1 : ((b : Int) == 1) = false := by simp; omega
      have d2 : ((b : Int) == 2) = false := by simp; omega
      have d3 : ((b : Int) == 3) = true := by simp; omega
      have HB := Lib.hid (show (b : Int) = 3 by omega)
      clear b1 b2 b3
      have HC := Lib.hid (ruint_any hK2.rs.tape)
      obtain ⟨y, hy⟩ : ∃ y, T1.number false = y := ⟨_, rfl⟩
      rw [hy] at HC
      have HY := Lib.hid hy
      clear hy
      obtain ⟨m, hm⟩ : ∃ m, y.1.1 = m := ⟨_, rfl⟩
      rw [hm] at HC
      obtain ⟨iv, hiv⟩ : ∃ iv, wrap64 (m : Int) = iv := ⟨_, rfl⟩
      have HIV := Lib.hid (show iv = i64 y.1.1 by rw [← hiv, hm]; rfl)
      clear hm
      have HQ : Hid (HeadQ t (b : Int) iv [] 0 y.2) := by rw [HIV.out, HB.out]; have := HeadQ.k35 (t := t) (.inl TB.out); rw [HT1.out, HY.out, TB.out] at this; exact this
      go_wp2_with (go_at_call 30; refine HC.out.mono ?_; rintro r V3 ⟨rfl, ha3⟩; have hK3 := hK2.act ha3; have gf := hK3.t.frozen 1; have g1 : V3.cell? ⟨tb, 1, none⟩ = some (.int .i64 0) := hK3.t.cell 1)
      go_meet
      exact ⟨0, y.2, b, iv, [], rfl, by omega, HQ.out, hK3.set_ 1 _⟩
    by_cases b5 : b = 5
    · have TB := Lib.hid (u8_is (k := 5) HTB.out b5 (by omega))
      have d1 : ((b : Int) == 1) = false := by simp; omega
      have d2 : ((b : Int) == 2) = false := by simp; omega
      have d3 : ((b : Int) == 3) = false := by simp; omega
      have d5 : ((b : Int) == 5) = true := by simp; omega
      have HB := Lib.hid (show (b : Int) = 5 by omega)
      clear b1 b2 b3 b5
      have HC := Lib.hid (ruint_any hK2.rs.tape)
      obtain ⟨y, hy⟩ : ∃ y, T1.number false = y := ⟨_, rfl⟩
      rw [hy] at HC
      have HY := Lib.hid hy
      clear hy
      obtain ⟨m, hm⟩ : ∃ m, y.1.1 = m := ⟨_, rfl⟩
      rw [hm] at HC
      obtain ⟨iv, hiv⟩ : ∃ iv, wrap64 (m : Int) = iv := ⟨_, rfl⟩
      have HIV := Lib.hid (show iv = i64 y.1.1 by rw [← hiv, hm]; rfl)
      clear hm
      have HQ : Hid (HeadQ t (b : Int) iv [] 0 y.2) := by rw [HIV.out, HB.out]; have := HeadQ.k35 (t := t) (.inr TB.out); rw [HT1.out, HY.out, TB.out] at this; exact this
      go_wp2_with (go_at_call 30; refine HC.out.mono ?_; rintro r V3 ⟨rfl, ha3⟩; have hK3 := hK2.act ha3; have gf := hK3.t.frozen 1; have g1 : V3.cell? ⟨tb, 1, none⟩ = some (.int .i64 0) := hK3.t.cell 1)
      go_meet
      exact ⟨0, y.2, b, iv, [], rfl, by omega, HQ.out, hK3.set_ 1 _⟩
    by_cases b4 : b = 4
    · have TB := Lib.hid (u8_is (k := 4) HTB.out b4 (by omega))
      have d1 : ((b : Int) == 1) = false := by simp; omega
      have d2 : ((b : Int) == 2) = false := by simp; omega
      have d3 : ((b : Int) == 3) = false := by simp; omega
      have d5 : ((b : Int) == 5) = false := by simp; omega
      have d4 : ((b : Int) == 4) = true := by simp; omega
      have HB := Lib.hid (show (b : Int) = 4 by omega)
      clear b1 b2 b3 b5 b4
      have HC := Lib.hid (ruint_any hK2.rs.tape)
      obtain ⟨y, hy⟩ : ∃ y, T1.number false = y := ⟨_, rfl⟩
      rw [hy] at HC
      have HY := Lib.hid hy
      clear hy
      obtain ⟨m, hm⟩ : ∃ m, y.1.1 = m := ⟨_, rfl⟩
      rw [hm] at HC
      obtain ⟨iv, hiv⟩ : ∃ iv, wrap64 (m : Int) = iv := ⟨_, rfl⟩
      have HIV := Lib.hid (show iv = i64 y.1.1 by rw [← hiv, hm]; rfl)
      clear hm
      go_upto_region 14 with (go_at_call 30; refine HC.out.mono ?_; rintro r V3 ⟨rfl, ha3⟩; have hK3 := hK2.act ha3; have gf := hK3.t.frozen 1; have g1 : V3.cell? ⟨tb, 1, none⟩ = some (.int .i64 0) := hK3.t.cell 1)
      refine wp_world (KQ pl pt A c tb y.2 (left - 1) [.int .i64 (b : Int), .int .i64 iv, .string ⟨#[]⟩, .slice none 0 0] W) (hK3.set_ 1 _) ?_
      clear hiv hK3 hK2 ha3 HC gf g1
      intro V4 hK4
      have HC2 := Lib.hid (ruint_any hK4.rs.tape)
      obtain ⟨z, hz⟩ : ∃ z, y.2.number false = z := ⟨_, rfl⟩
      have hz9 : z.1.1 < 18446744073709551616 := by rw [← hz]; exact number_lt false
      rw [hz] at HC2
      have HZ := Lib.hid hz
      clear hz
      have HQ : Hid (HeadQ t (b : Int) iv [] z.1.1 z.2) := by rw [HIV.out, HB.out]; have := HeadQ.k4 (t := t) TB.out; rw [HT1.out, HY.out, HZ.out] at this; exact this
      go_wp2_with (go_at_call 30; refine HC2.out.mono ?_; rintro r V5 ⟨rfl, ha5⟩; have hK5 := hK4.act ha5)
      go_meet
      exact ⟨z.1.1, z.2, b, iv, [], rfl, hz9, HQ.out, hK5⟩
    by_cases b6 : b = 6
    · have TB := Lib.hid (u8_is (k := 6) HTB.out b6 (by omega))
      have d1 : ((b : Int) == 1) = false := by simp; omega
      have d2 : ((b : Int) == 2) = false := by simp; omega
      have d3 : ((b : Int) == 3) = false := by simp; omega
      have d5 : ((b : Int) == 5) = false := by simp; omega
      have d4 : ((b : Int) == 4) = false := by simp; omega
      have d6 : ((b : Int) == 6) = true := by simp; omega
      have HB := Lib.hid (show (b : Int) = 6 by omega)
      clear b1 b2 b3 b5 b4 b6
      have HC2 := Lib.hid (ruint_any hK2.rs.tape)
      obtain ⟨z, hz⟩ : ∃ z, T1.number false = z := ⟨_, rfl⟩
      have hz9 : z.1.1 < 18446744073709551616 := by rw [← hz]; exact number_lt false
      rw [hz] at HC2
      have HZ := Lib.hid hz
      clear hz
      have HQ : Hid (HeadQ t (b : Int) 0 [] z.1.1 z.2) := by rw [HB.out]; have := HeadQ.k6 (t := t) TB.out; rw [HT1.out, HZ.out] at this; exact this
      go_wp2_with (go_at_call 30; refine HC2.out.mono ?_; rintro r V5 ⟨rfl, ha5⟩; have hK5 := hK2.act ha5)
      go_meet
      exact ⟨z.1.1, z.2, b, 0, [], rfl, hz9, HQ.out, hK5⟩
    by_cases b8 : b = 8
    · have TB := Lib.hid (u8_is (k := 8) HTB.out b8 (by omega))
      have d1 : ((b : Int) == 1) = false := by simp; omega
      have d2 : ((b : Int) == 2) = false := by simp; omega
      have d3 : ((b : Int) == 3) = false := by simp; omega
      have d5 : ((b : Int) == 5) = false := by simp; omega
      have d4 : ((b : Int) == 4) = false := by simp; omega
      have d6 : ((b : Int) == 6) = false := by simp; omega
      have d8 : ((b : Int) == 8) = true := by simp; omega
      have HB := Lib.hid (show (b : Int) = 8 by omega)
      clear b1 b2 b3 b5 b4 b6 b8
      have HQ : Hid (HeadQ t (b : Int) 0 [] 2 T1) := by rw [HB.out]; have := HeadQ.k8 (t := t) TB.out; rw [HT1.out] at this; exact this
      go_wp2
      go_meet
      exact ⟨2, T1, b, 0, [], rfl, by omega, HQ.out, hK2⟩
    have d1 : ((b : Int) == 1) = false := by simp; omega
    have d2 : ((b : Int) == 2) = false := by simp; omega
    have d3 : ((b : Int) == 3) = false := by simp; omega
    have d5 : ((b : Int) == 5) = false := by simp; omega
    have d4 : ((b : Int) == 4) = false := by simp; omega
    have d6 : ((b : Int) == 6) = false := by simp; omega
    have d8 : ((b : Int) == 8) = false := by simp; omega
    have HQ : Hid (HeadQ t (b : Int) 0 [] 0 T1) := by
      have := HeadQ.ko (t := t) ⟨u8_isnt (k := 1) HTB.out b1 (by omega), u8_isnt (k := 2) HTB.out b2 (by omega), u8_isnt (k := 3) HTB.out b3 (by omega), u8_isnt (k := 5) HTB.out b5 (by omega), u8_isnt (k := 4) HTB.out b4 (by omega), u8_isnt (k := 6) HTB.out b6 (by omega), u8_isnt (k := 8) HTB.out b8 (by omega)⟩
      rw [HT1.out, HTB.out] at this
      exact this
    clear b1 b2 b3 b5 b4 b6 b8
    go_wp2
    go_meet
    exact ⟨0, T1, b, 0, [], rfl, by omega, HQ.out, hK2⟩
  case rest =>
    obtain ⟨n, T, k, z, s, rfl, hn, hHd, hKc⟩ := hcut
    have HHD := Lib.hid hHd
    have HQ0 := Lib.hid (SQ.start (n := n) (cs := fun v => [.int .i64 k, .int .i64 z, .string ⟨s.toArray⟩, v]) hKc (by omega))
    have hsz := hKc.t.lt
    have hlt := hKc.lt
    obtain ⟨B, hB⟩ : ∃ B, wc.heap.size = B := ⟨_, rfl⟩
    rw [hB] at HQ0 hsz
    clear hKc hHd hB hK2
    go_wp2
    go_loopw [7] (fun i wr => ∃ (xs : List EX) (v : Value) (tk : TS) (lk : Int), i = .int .u64 (xs.length : Int) ∧ SQ pl pt A c tb n T (left - 1) (fun v => [.int .i64 k, .int .i64 z, .string ⟨s.toArray⟩, v]) B W v wr xs tk lk) (fun i _ => n - (intOf i).toNat)
    case atStart => exact ⟨[], .slice none 0 0, T, left - 1, rfl, HQ0.out⟩
    case round =>
      obtain ⟨xs, v, tk, lk, rfl, hS⟩ := hrel
      clear HQ0
      have HS := Lib.hid hS
      have hlo := hS.lo
      have hhi := hS.hi
      have hle := hS.le
      have e2 : wr.cell? ⟨pt, 2, none⟩ = some (.int .i64 (tk.fault : Int)) := hS.kq.rs.tape.cells.2.2.1
      have cl : wr.cell? ⟨pl, 0, none⟩ = some (.int .i64 lk) := hS.kq.rs.box.cell 0
      have clf := hS.kq.rs.box.frozen 0
      have t3 : wr.cell? ⟨tb, 3, none⟩ = some v := hS.kq.t.cell 3
      obtain ⟨Av, cv, rfl⟩ := ex_form hS.own
      have hxsz : wr.heap.size ≥ B := hS.base.2
      obtain ⟨nx, hnx⟩ : ∃ nx, xs.length = nx := ⟨_, rfl⟩
      have HNX := Lib.hid hnx
      rw [hnx] at hlo hle t3 ⊢
      rw [hnx] at HS
      clear hnx hS
      by_cases hgo : nx < n ∧ tk.fault = 0 ∧ 0 < lk
      · have HGO := Lib.hid hgo
        have hd1 : decide (nx < n) = true := by simpa using hgo.1
        have hd2 : decide (0 < lk) = true := by simpa using hgo.2.2
        rw [hgo.2.1] at e2
        have HCALL : Hid (∀ V, Below wr.heap.size wr V → Calls Try.prog 31 #[.pointer (.some ⟨pt, 0, none⟩), .pointer (.some ⟨pl, 0, none⟩)] V (QTermEnds pl pt A c tk lk V)) := fun V hV => HIH.out tk lk V (HS.out.keep hV).kq.rs (fun b off e => by have := HAB.out b off e; have := hV.size; omega) hgo.2.2 (by omega) (by omega)
        have hnx1 : nx + 1 ≤ maxLen := by unfold maxLen; omega
        have hbx1 : (nx + 1) * 56 ≤ 140737488355328 := by omega
        have hnn : nx + 1 ≤ n := by omega
        clear hgo
        go_upto_region 22 with (fail)
        refine wp_region_W 8 (fun V => V.cell? ⟨tb, 3, none⟩ = some (.slice Av nx cv)) (by kernel_rfl) ?_ (fun hS0 => ?_)
        · exact (HS.out.keep (Below.refl _ _).drew).kq.t.cell 3
        clear t3 e2 cl clf
        (refine wpAnyW_take (i := 0) (v := ?_) rfl (by kernel_rfl) (by kernel_rfl) (by kernel_rfl) (by kernel_rfl) (fun _ _ _ h => h) (Or.inl ⟨by kernel_rfl, ?_⟩) (by assumption) ?_; rotate_left; focus (intro V9 hS9; go_simp; (try (with_reducible rfl)); done))
        try simp only [Act.put, List.getElem_toArray, List.getElem_cons_zero, List.setIfInBounds_toArray, List.set_cons_succ, List.set_cons_zero]
        (refine wpAnyW_take (i := 1) (v := ?_) rfl (by kernel_rfl) (by kernel_rfl) (by kernel_rfl) (by kernel_rfl) (fun _ _ _ h => h) (Or.inl ⟨by kernel_rfl, ?_⟩) (by assumption) ?_; rotate_left; focus (intro V9 hS9; have g3 := hS9; go_simp; (try (with_reducible rfl)); done))
        try simp only [Act.put, List.getElem_toArray, List.getElem_cons_succ, List.getElem_cons_zero, List.setIfInBounds_toArray, List.set_cons_succ, List.set_cons_zero]
        (refine wpAnyW_take (i := 2) (v := ?_) rfl (by kernel_rfl) (by kernel_rfl) (by kernel_rfl) (by kernel_rfl) (fun _ _ _ h => h) (Or.inl ⟨by kernel_rfl, ?_⟩) (by assumption) ?_; rotate_left; focus (intro V9 hS9; go_simp; (try (with_reducible rfl)); done))
        try simp only [Act.put, List.getElem_toArray, List.getElem_cons_succ, List.getElem_cons_zero, List.setIfInBounds_toArray, List.set_cons_succ, List.set_cons_zero]
        (refine wpAnyW_take (i := 3) (v := ?_) rfl (by kernel_rfl) (by kernel_rfl) (by kernel_rfl) (by kernel_rfl) (fun _ _ _ h => h) (Or.inl ⟨by kernel_rfl, ?_⟩) (by assumption) ?_; rotate_left; focus (intro V9 hS9; go_simp; (try (with_reducible rfl)); done))
        try simp only [Act.put, List.getElem_toArray, List.getElem_cons_succ, List.getElem_cons_zero, List.setIfInBounds_toArray, List.set_cons_succ, List.set_cons_zero]
        refine wpAnyW_ready (rs := [4]) (by kernel_rfl) (by simp) ?_
        refine AllReadyW.cons rfl (fun K hK => ?_) AllReadyW.nil
        go_simp
        refine (HCALL.out _ (Below.refl _ _).drew).mono ?_
        rintro r w5 ⟨x, t', l', rfl, hx5, hR5, hX5, hF5, hl5, hg5⟩
        have hK5 := (HS.out.keep (Below.refl _ _).drew).kq.step hR5 hF5
        refine hK.out _ _ (hK5.t.cell 3) (fun _ => ?_)
        clear hK K
        try simp only [Act.put, List.getElem_toArray, List.getElem_cons_succ, List.getElem_cons_zero, List.setIfInBounds_toArray, List.set_cons_succ, List.set_cons_zero]
        refine wpAnyW_ready (rs := [5]) (by kernel_rfl) (by simp) ?_
        refine AllReadyW.cons rfl (fun K hK => ?_) AllReadyW.nil
        go_simp
        refine hK.out _ _ ((hK5.keep (below_alloc _ _)).t.cell 3) (fun _ => ?_)
        clear hK K
        try simp only [Act.put, List.getElem_toArray, List.getElem_cons_succ, List.getElem_cons_zero, List.setIfInBounds_toArray, List.set_cons_succ, List.set_cons_zero]
        have hO5 : w5.ownsRow B 39 4 (.slice Av nx cv) nx (exL xs) := by
          have h9 := (HS.out.keep (Below.refl _ _).drew).own
          rw [HNX.out] at h9
          exact own_fr h9 hF5 (fun q hq => by have := (h9.lt q hq).1; have := HW.out; omega)
        refine wpAnyW_ready (rs := [6]) (by kernel_rfl) (by simp) ?_
        refine AllReadyW.cons rfl (fun K hK => ?_) AllReadyW.nil
        refine step_appO ex_termsT (by kernel_rfl) (.tmp 70) (.tmp 74) rfl B nx (exL xs) (.slice Av nx cv) (hO5.alloc _) (some ⟨w5.heap.size, 0, none⟩) 1 1 x.cells (by rfl) (by rfl) rfl (ex_news w5 x) (excells_one _) hnx1 hbx1 (by have := hF5.size; simp at this ⊢; omega) ?_
        intro v6 w6 ho6 hg6 hw6
        have hK6 := (hK5.keep (below_alloc w5 (.cells x.cells.toArray 39))).far (Fr.of_grown (F := fun q => (Value.slice Av nx cv).ownBlock = some q) hg6 (fun q e _ => e)) (fun q e => by have := (hO5.lt q e).1; omega)
        refine hK.out _ _ (hK6.t.cell 3) (fun _ => ?_)
        clear hK K
        try simp only [Act.put, List.getElem_toArray, List.getElem_cons_succ, List.getElem_cons_zero, List.setIfInBounds_toArray, List.set_cons_succ, List.set_cons_zero]
        obtain ⟨A6, c6, rfl⟩ := ex_form ho6
        (refine wpAnyW_take (i := 7) (v := ?_) rfl (by kernel_rfl) (by kernel_rfl) (by kernel_rfl) (by kernel_rfl) (fun _ _ _ h => h) (Or.inl ⟨by kernel_rfl, ?_⟩) (by assumption) ?_; rotate_left; focus (intro V9 hS9; go_simp; (try (with_reducible rfl)); done))
        try simp only [Act.put, List.getElem_toArray, List.getElem_cons_succ, List.getElem_cons_zero, List.setIfInBounds_toArray, List.set_cons_succ, List.set_cons_zero]
        refine wpAnyW_ready (rs := [8]) (by kernel_rfl) (by simp) ?_
        refine AllReadyW.consE rfl (by kernel_rfl) (fun K hK => ?_) AllReadyW.nil
        have hfz := hK6.t.frozen 3
        have gc : w6.cell? ⟨tb, 3, none⟩ = some (.slice Av nx cv) := hK6.t.cell 3
        go_simp
        refine hK.out _ _ ?_
        clear hK K
        refine wpAnyW_done (by kernel_rfl) ?_ _
        have HS7 := Lib.hid ((HS.out.keep (Below.refl _ _).drew).step (by rw [HNX.out]; exact HGO.out) rfl hx5 hR5 hX5 hF5 hl5 hg5 (by rw [HNX.out]; exact ho6) hg6 hw6)
        clear hfz gc hK6 hK5 ho6 hg6 hw6 hO5 hX5 hF5 hR5 hx5
        go_wp2
        go_roundw
        case rel => exact ⟨xs ++ [x], _, t', l', by rw [List.length_append, HNX.out]; go_num, HS7.out⟩
        case measure => simp [intOf]; omega
      have hend : SomeQ n T (left - 1) (xs.map (fun x : EX => x.t)) tk lk := by
        have := HS.out.rel [] tk lk (.stop (by rw [HNX.out]; omega))
        simpa using this
      have HEND := Lib.hid hend
      clear hend
      by_cases hnn : nx < n
      rotate_left
      · have hd1 : decide (nx < n) = false := by simpa using hnn
        clear hgo
        have HK8 : Hid (KQ pl pt A c tb tk lk [.int .i64 k, .int .i64 z, .string ⟨s.toArray⟩, .slice Av nx cv] W wr) := HS.out.kq
        have HXR : Hid (RdX (fun q => q < B) wr Av cv (xs.map (fun x : EX => x.t))) := rdx_of_own (n := nx) (by have h9 := HS.out.own; rw [HNX.out] at h9; exact h9) HNX.out (fun q => q < B) (fun g hg => by have := (HS.out.own.lt g hg).1; omega) (fun x hx => (HS.out.each x hx).mono (fun q hq => .inl hq))
        go_upto_region 25 with (fail)
        refine wp_world (fun V => KQ pl pt A c tb tk lk [.int .i64 k, .int .i64 z, .string ⟨s.toArray⟩, .slice Av nx cv] W V ∧ RdX (fun q => q < B) V Av cv (xs.map (fun x : EX => x.t))) ⟨HK8.out, HXR.out⟩ ?_
        clear HK8 HXR cl clf t3 e2
        rintro V8 ⟨hK8, hX8⟩
        have HX8 := Lib.hid hX8
        clear hX8
        have t0 : V8.cell? ⟨tb, 0, none⟩ = some (.int .i64 k) := hK8.t.cell 0
        have t1 : V8.cell? ⟨tb, 1, none⟩ = some (.int .i64 z) := hK8.t.cell 1
        have t2 : V8.cell? ⟨tb, 2, none⟩ = some (.string ⟨s.toArray⟩) := hK8.t.cell 2
        have t3 : V8.cell? ⟨tb, 3, none⟩ = some (.slice Av nx cv) := hK8.t.cell 3
        have r0 : V8.cell? ⟨W.heap.size, 0, none⟩ = some (.int .i64 0) := hK8.r.cell 0
        have r1 : V8.cell? ⟨W.heap.size, 1, none⟩ = some (.int .i64 0) := hK8.r.cell 1
        have r2 : V8.cell? ⟨W.heap.size, 2, none⟩ = some (.string ⟨#[]⟩) := hK8.r.cell 2
        have r3 : V8.cell? ⟨W.heap.size, 3, none⟩ = some (.slice none 0 0) := hK8.r.cell 3
        have f0 := hK8.r.frozen 0
        have f1 := hK8.r.frozen 1
        have f2 := hK8.r.frozen 2
        have f3 := hK8.r.frozen 3
        go_wp2
        refine q_bp_world (fun V => Blk V W.heap.size 39 #[.int .i64 k, .int .i64 z, .string ⟨s.toArray⟩, .slice Av nx cv] ∧ Fr (fun q => q = W.heap.size) V8 V) ⟨(((hK8.r.set_ 0 _).set_ 1 _).set_ 2 _).set_ 3 _, ((((Fr.setCell (fun q => q = W.heap.size) V8 (p := ⟨W.heap.size, 0, none⟩) (fun _ => rfl) _).same (Fr.setCell (fun q => q = W.heap.size) _ (p := ⟨W.heap.size, 1, none⟩) (fun _ => rfl) _)).same (Fr.setCell (fun q => q = W.heap.size) _ (p := ⟨W.heap.size, 2, none⟩) (fun _ => rfl) _)).same (Fr.setCell (fun q => q = W.heap.size) _ (p := ⟨W.heap.size, 3, none⟩) (fun _ => rfl) _))⟩ ?_
        rintro V9 ⟨hB9, hF9⟩
        have x0 : V9.cell? ⟨W.heap.size, 0, none⟩ = some (.int .i64 k) := hB9.cell 0
        have x1 : V9.cell? ⟨W.heap.size, 1, none⟩ = some (.int .i64 z) := hB9.cell 1
        have x2 : V9.cell? ⟨W.heap.size, 2, none⟩ = some (.string ⟨s.toArray⟩) := hB9.cell 2
        have x3 : V9.cell? ⟨W.heap.size, 3, none⟩ = some (.slice Av nx cv) := hB9.cell 3
        have hE : RQ pl pt A c tk lk V9 ∧ Fr (fun q => q = pt ∨ q = pl) W V9 := by
          obtain ⟨o1, o2⟩ := HW.out
          exact ⟨hK8.rs.far hF9 (by omega) (by omega) (fun b off e => by have := HAB.out b off e; omega), hK8.fr.trans hF9 (fun q hq e => by omega)⟩
        have HRX : Hid (RdX (fun q => q < W.heap.size) V9 Av cv (xs.map (fun x : EX => x.t))) := (HX8.out.to (.of_fr (hF9.weak fun q _ e => by have e2 : q = W.heap.size := e; show q < B; omega))).mono (fun q hq => by have e2 : q < W.heap.size := hq; show q < B; omega)
        have HE := Lib.hid hE
        clear t0 t1 t2 t3 r0 r1 r2 r3 f0 f1 f2 f3 hE hK8
        have HR : Hid (TermQ t left (.mk k z s (xs.map (fun x : EX => x.t))) tk lk) := .mk HHD.out HEND.out (by rw [List.length_map, HNX.out, if_neg hnn])
        exact bodyPost_ret (v := .agg #[.int .i64 k, .int .i64 z, .string ⟨s.toArray⟩, .slice Av nx cv]) (by simp [results, Try.results31, go_sem, x0, x1, x2, x3]) rfl ⟨⟨.mk k z s (xs.map (fun x : EX => x.t)), Av, cv⟩, tk, lk, by show _ = Ending.returned (.agg #[_, _, _, .slice _ (xs.map (fun x : EX => x.t)).length _]); rw [List.length_map, HNX.out]; rfl, HR.out, HE.out.1, HRX.out, HE.out.2, by omega, by omega⟩
      have hd1 : decide (nx < n) = true := by simpa using hnn
      by_cases hf0 : tk.fault = 0
      · have hd2 : decide (0 < lk) = false := by simp; omega
        rw [hf0] at e2
        clear hgo hf0
        have HK8 : Hid (KQ pl pt A c tb tk (-1) [.int .i64 k, .int .i64 z, .string ⟨s.toArray⟩, .slice Av nx cv] W (wr.setCell ⟨pl, 0, none⟩ (.int .i64 (-1)))) := HS.out.kq.dec (-1)
        have HXR : Hid (RdX (fun q => q < B) (wr.setCell ⟨pl, 0, none⟩ (.int .i64 (-1))) Av cv (xs.map (fun x : EX => x.t))) := (rdx_of_own (n := nx) (by have h9 := HS.out.own; rw [HNX.out] at h9; exact h9) HNX.out (fun q => q < B) (fun g hg => by have := (HS.out.own.lt g hg).1; omega) (fun x hx => (HS.out.each x hx).mono (fun q hq => .inl hq))).to (.of_fr (Fr.setCell _ _ (p := ⟨pl, 0, none⟩) (fun _ => by have := HW.out.1; show pl < B; omega) _))
        go_upto_region 25 with (fail)
        refine wp_world (fun V => KQ pl pt A c tb tk (-1) [.int .i64 k, .int .i64 z, .string ⟨s.toArray⟩, .slice Av nx cv] W V ∧ RdX (fun q => q < B) V Av cv (xs.map (fun x : EX => x.t))) ⟨HK8.out, HXR.out⟩ ?_
        clear HK8 HXR cl clf t3 e2
        rintro V8 ⟨hK8, hX8⟩
        have HX8 := Lib.hid hX8
        clear hX8
        have t0 : V8.cell? ⟨tb, 0, none⟩ = some (.int .i64 k) := hK8.t.cell 0
        have t1 : V8.cell? ⟨tb, 1, none⟩ = some (.int .i64 z) := hK8.t.cell 1
        have t2 : V8.cell? ⟨tb, 2, none⟩ = some (.string ⟨s.toArray⟩) := hK8.t.cell 2
        have t3 : V8.cell? ⟨tb, 3, none⟩ = some (.slice Av nx cv) := hK8.t.cell 3
        have r0 : V8.cell? ⟨W.heap.size, 0, none⟩ = some (.int .i64 0) := hK8.r.cell 0
        have r1 : V8.cell? ⟨W.heap.size, 1, none⟩ = some (.int .i64 0) := hK8.r.cell 1
        have r2 : V8.cell? ⟨W.heap.size, 2, none⟩ = some (.string ⟨#[]⟩) := hK8.r.cell 2
        have r3 : V8.cell? ⟨W.heap.size, 3, none⟩ = some (.slice none 0 0) := hK8.r.cell 3
        have f0 := hK8.r.frozen 0
        have f1 := hK8.r.frozen 1
        have f2 := hK8.r.frozen 2
        have f3 := hK8.r.frozen 3
        go_wp2
        refine q_bp_world (fun V => Blk V W.heap.size 39 #[.int .i64 k, .int .i64 z, .string ⟨s.toArray⟩, .slice Av nx cv] ∧ Fr (fun q => q = W.heap.size) V8 V) ⟨(((hK8.r.set_ 0 _).set_ 1 _).set_ 2 _).set_ 3 _, ((((Fr.setCell (fun q => q = W.heap.size) V8 (p := ⟨W.heap.size, 0, none⟩) (fun _ => rfl) _).same (Fr.setCell (fun q => q = W.heap.size) _ (p := ⟨W.heap.size, 1, none⟩) (fun _ => rfl) _)).same (Fr.setCell (fun q => q = W.heap.size) _ (p := ⟨W.heap.size, 2, none⟩) (fun _ => rfl) _)).same (Fr.setCell (fun q => q = W.heap.size) _ (p := ⟨W.heap.size, 3, none⟩) (fun _ => rfl) _))⟩ ?_
        rintro V9 ⟨hB9, hF9⟩
        have x0 : V9.cell? ⟨W.heap.size, 0, none⟩ = some (.int .i64 k) := hB9.cell 0
        have x1 : V9.cell? ⟨W.heap.size, 1, none⟩ = some (.int .i64 z) := hB9.cell 1
        have x2 : V9.cell? ⟨W.heap.size, 2, none⟩ = some (.string ⟨s.toArray⟩) := hB9.cell 2
        have x3 : V9.cell? ⟨W.heap.size, 3, none⟩ = some (.slice Av nx cv) := hB9.cell 3
        have hE : RQ pl pt A c tk (-1) V9 ∧ Fr (fun q => q = pt ∨ q = pl) W V9 := by
          obtain ⟨o1, o2⟩ := HW.out
          exact ⟨hK8.rs.far hF9 (by omega) (by omega) (fun b off e => by have := HAB.out b off e; omega), hK8.fr.trans hF9 (fun q hq e => by omega)⟩
        have HRX : Hid (RdX (fun q => q < W.heap.size) V9 Av cv (xs.map (fun x : EX => x.t))) := (HX8.out.to (.of_fr (hF9.weak fun q _ e => by have e2 : q = W.heap.size := e; show q < B; omega))).mono (fun q hq => by have e2 : q < W.heap.size := hq; show q < B; omega)
        have HE := Lib.hid hE
        clear t0 t1 t2 t3 r0 r1 r2 r3 f0 f1 f2 f3 hE hK8
        have HR : Hid (TermQ t left (.mk k z s (xs.map (fun x : EX => x.t))) tk (-1)) := .mk HHD.out HEND.out (by rw [List.length_map, HNX.out, if_pos hnn])
        exact bodyPost_ret (v := .agg #[.int .i64 k, .int .i64 z, .string ⟨s.toArray⟩, .slice Av nx cv]) (by simp [results, Try.results31, go_sem, x0, x1, x2, x3]) rfl ⟨⟨.mk k z s (xs.map (fun x : EX => x.t)), Av, cv⟩, tk, (-1), by show _ = Ending.returned (.agg #[_, _, _, .slice _ (xs.map (fun x : EX => x.t)).length _]); rw [List.length_map, HNX.out]; rfl, HR.out, HE.out.1, HRX.out, HE.out.2, by omega, by omega⟩
      · have hdf : ((tk.fault : Int) == 0) = false := by simp; omega
        clear hgo
        have HK8 : Hid (KQ pl pt A c tb tk (-1) [.int .i64 k, .int .i64 z, .string ⟨s.toArray⟩, .slice Av nx cv] W (wr.setCell ⟨pl, 0, none⟩ (.int .i64 (-1)))) := HS.out.kq.dec (-1)
        have HXR : Hid (RdX (fun q => q < B) (wr.setCell ⟨pl, 0, none⟩ (.int .i64 (-1))) Av cv (xs.map (fun x : EX => x.t))) := (rdx_of_own (n := nx) (by have h9 := HS.out.own; rw [HNX.out] at h9; exact h9) HNX.out (fun q => q < B) (fun g hg => by have := (HS.out.own.lt g hg).1; omega) (fun x hx => (HS.out.each x hx).mono (fun q hq => .inl hq))).to (.of_fr (Fr.setCell _ _ (p := ⟨pl, 0, none⟩) (fun _ => by have := HW.out.1; show pl < B; omega) _))
        go_upto_region 25 with (fail)
        refine wp_world (fun V => KQ pl pt A c tb tk (-1) [.int .i64 k, .int .i64 z, .string ⟨s.toArray⟩, .slice Av nx cv] W V ∧ RdX (fun q => q < B) V Av cv (xs.map (fun x : EX => x.t))) ⟨HK8.out, HXR.out⟩ ?_
        clear HK8 HXR cl clf t3 e2
        rintro V8 ⟨hK8, hX8⟩
        have HX8 := Lib.hid hX8
        clear hX8
        have t0 : V8.cell? ⟨tb, 0, none⟩ = some (.int .i64 k) := hK8.t.cell 0
        have t1 : V8.cell? ⟨tb, 1, none⟩ = some (.int .i64 z) := hK8.t.cell 1
        have t2 : V8.cell? ⟨tb, 2, none⟩ = some (.string ⟨s.toArray⟩) := hK8.t.cell 2
        have t3 : V8.cell? ⟨tb, 3, none⟩ = some (.slice Av nx cv) := hK8.t.cell 3
        have r0 : V8.cell? ⟨W.heap.size, 0, none⟩ = some (.int .i64 0) := hK8.r.cell 0
        have r1 : V8.cell? ⟨W.heap.size, 1, none⟩ = some (.int .i64 0) := hK8.r.cell 1
        have r2 : V8.cell? ⟨W.heap.size, 2, none⟩ = some (.string ⟨#[]⟩) := hK8.r.cell 2
        have r3 : V8.cell? ⟨W.heap.size, 3, none⟩ = some (.slice none 0 0) := hK8.r.cell 3
        have f0 := hK8.r.frozen 0
        have f1 := hK8.r.frozen 1
        have f2 := hK8.r.frozen 2
        have f3 := hK8.r.frozen 3
        go_wp2
        refine q_bp_world (fun V => Blk V W.heap.size 39 #[.int .i64 k, .int .i64 z, .string ⟨s.toArray⟩, .slice Av nx cv] ∧ Fr (fun q => q = W.heap.size) V8 V) ⟨(((hK8.r.set_ 0 _).set_ 1 _).set_ 2 _).set_ 3 _, ((((Fr.setCell (fun q => q = W.heap.size) V8 (p := ⟨W.heap.size, 0, none⟩) (fun _ => rfl) _).same (Fr.setCell (fun q => q = W.heap.size) _ (p := ⟨W.heap.size, 1, none⟩) (fun _ => rfl) _)).same (Fr.setCell (fun q => q = W.heap.size) _ (p := ⟨W.heap.size, 2, none⟩) (fun _ => rfl) _)).same (Fr.setCell (fun q => q = W.heap.size) _ (p := ⟨W.heap.size, 3, none⟩) (fun _ => rfl) _))⟩ ?_
        rintro V9 ⟨hB9, hF9⟩
        have x0 : V9.cell? ⟨W.heap.size, 0, none⟩ = some (.int .i64 k) := hB9.cell 0
        have x1 : V9.cell? ⟨W.heap.size, 1, none⟩ = some (.int .i64 z) := hB9.cell 1
        have x2 : V9.cell? ⟨W.heap.size, 2, none⟩ = some (.string ⟨s.toArray⟩) := hB9.cell 2
        have x3 : V9.cell? ⟨W.heap.size, 3, none⟩ = some (.slice Av nx cv) := hB9.cell 3
        have hE : RQ pl pt A c tk (-1) V9 ∧ Fr (fun q => q = pt ∨ q = pl) W V9 := by
          obtain ⟨o1, o2⟩ := HW.out
          exact ⟨hK8.rs.far hF9 (by omega) (by omega) (fun b off e => by have := HAB.out b off e; omega), hK8.fr.trans hF9 (fun q hq e => by omega)⟩
        have HRX : Hid (RdX (fun q => q < W.heap.size) V9 Av cv (xs.map (fun x : EX => x.t))) := (HX8.out.to (.of_fr (hF9.weak fun q _ e => by have e2 : q = W.heap.size := e; show q < B; omega))).mono (fun q hq => by have e2 : q < W.heap.size := hq; show q < B; omega)
        have HE := Lib.hid hE
        clear t0 t1 t2 t3 r0 r1 r2 r3 f0 f1 f2 f3 hE hK8
        have HR : Hid (TermQ t left (.mk k z s (xs.map (fun x : EX => x.t))) tk (-1)) := .mk HHD.out HEND.out (by rw [List.length_map, HNX.out, if_pos hnn])
        exact bodyPost_ret (v := .agg #[.int .i64 k, .int .i64 z, .string ⟨s.toArray⟩, .slice Av nx cv]) (by simp [results, Try.results31, go_sem, x0, x1, x2, x3]) rfl ⟨⟨.mk k z s (xs.map (fun x : EX => x.t)), Av, cv⟩, tk, (-1), by show _ = Ending.returned (.agg #[_, _, _, .slice _ (xs.map (fun x : EX => x.t)).length _]); rw [List.length_map, HNX.out]; rfl, HR.out, HE.out.1, HRX.out, HE.out.2, by omega, by omega⟩
theorem qread_ok (pl pt : Nat) (A : Option Addr) (c : Nat) : ∀ N : Nat, QTermOk pl pt A c N
  | 0 => fun t left W _ _ h0 h1 _ => by omega
  | N + 1 => by
    have := qread_step (qread_ok pl pt A c N)
    simpa using this
theorem qread_any : QTermOk pl pt A c 1000001 := qread_ok pl pt A c 1000001
end
end Go.Proofs.Ytommadcjemljcaa
