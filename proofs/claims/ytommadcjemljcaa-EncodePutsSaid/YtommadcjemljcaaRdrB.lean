/- The walks of Int, Text, Byte, Done, New of the document's reader of layer 1. -/
import Derived.Test.YtommadcjemljcaaRdrA
namespace Go.Proofs.Ytommadcjemljcaa
open Go.RowKit
set_option linter.unusedVariables false

theorem number_failed {t : TS} (s : Bool) (h : (t.number s).2.fault ≠ 0) : (t.number s).1 = (0, false) := by
  have hr : ∀ wd b, t.fault = 0 → (t.rest wd b).2.fault ≠ 0 → (t.rest wd b).1 = (0, false) := by
    intro wd b hf
    unfold TS.rest
    by_cases h1 : 8 < wd
    · rw [if_pos h1]; intro _; rfl
    · rw [if_neg h1]
      by_cases h2 : t.bytes.length - (t.pos + 1) < wd
      · rw [if_pos h2]; intro _; rfl
      · rw [if_neg h2]
        by_cases h3 : 0 < wd ∧ (t.bytes.drop (t.pos + 1)).head? = some 0
        · rw [if_pos h3]; intro _; rfl
        · rw [if_neg h3]; intro hne; exact absurd hf hne
  by_cases hf : t.fault = 0
  · cases hb : t.bytes[t.pos]? with
    | none => unfold TS.number; rw [if_pos hf, hb]
    | some x =>
      by_cases hs : s = true ∧ 128 ≤ x.toNat
      · have e : t.number s = t.rest (x.toNat - 128) true := by unfold TS.number; rw [if_pos hf, hb]; exact if_pos hs
        rw [e] at h ⊢
        exact hr _ _ hf h
      · have e : t.number s = t.rest x.toNat false := by unfold TS.number; rw [if_pos hf, hb]; exact if_neg hs
        rw [e] at h ⊢
        exact hr _ _ hf h
  · unfold TS.number; rw [if_neg hf]

section
variable {pt : Nat} {A : Option Addr} {c : Nat} {t : TS} {w w' : World}
theorem RAct.drewN {w2 : World} (a : RAct w pt A c t w2) (q : Nat) : RAct w pt A c t (w2.drewN q) := a.trans (drew_ract a.tape q)

set_option maxHeartbeats 1000000 in
theorem rint_any (h : ReadAt pt A c t w) : Calls Try.prog 55 #[.pointer (some ⟨pt, 0, none⟩)] w fun r w' => r = .returned (.int .i64 t.int.1) ∧ RAct w pt A c t.int.2 w' := by
  have HN := Lib.hid (taken_any h true 128 (.inr ⟨rfl, rfl⟩))
  have hlt := number_lt (t := t) true
  have hby := number_stops_le (t := t) true
  have hfl := number_failed (t := t) true
  have hpos := h.pos
  obtain ⟨c0, c1, c2, c3⟩ := h.cells
  have HI : Hid (t.int = if 9223372036854775808 ≤ (t.number true).1.1 then (0, (t.number true).2.stops 11 t.pos) else (if (t.number true).1.2 = true then -((t.number true).1.1 : Int) - 1 else ((t.number true).1.1 : Int), (t.number true).2)) := rfl
  obtain ⟨n, b, t2, hx⟩ : ∃ n b t2, t.number true = ((n, b), t2) := ⟨_, _, _, rfl⟩
  rw [hx] at HN HI hlt hby hfl
  simp only at hlt hby hfl
  unfold RNumEnds at HN
  simp only at HN HI
  have hpos2 : t.pos ≤ t2.bytes.length := by rw [hby]; exact hpos
  clear hx hby
  by_cases hbig : 9223372036854775808 ≤ n
  · rw [if_pos hbig] at HI
    have HF0 := Lib.hid (show t2.fault = 0 by
      rcases Nat.eq_zero_or_pos t2.fault with e | e
      · exact e
      · have := (Prod.mk.inj (hfl (by omega))).1; omega)
    have hdb : decide (9223372036854775807 < (n : Int)) = true := by simp; omega
    clear hfl
    go_enter Try.func55, Try.ntmps55
    go_wp2_with (first
      | (go_at_call 53; refine HN.out.mono ?_; rintro e w2 ⟨rfl, hA⟩)
      | (go_at_call 68; refine (rfail_ok hA.tape 11 t.pos (by omega) hpos2 HF0.out).mono ?_; rintro e w3 ⟨rfl, hA3⟩))
    go_ret
    rw [HI.out]
    exact ⟨rfl, hA.trans hA3⟩
  · rw [if_neg hbig] at HI
    have hn9 : n ≤ 9223372036854775807 := by omega
    have hdb : decide (9223372036854775807 < (n : Int)) = false := by simp; omega
    clear hfl
    cases b with
    | true =>
      have HX := Lib.hid (show (-1 : Int) - (n : Int) = -(n : Int) - 1 by omega)
      go_enter Try.func55, Try.ntmps55
      go_wp2_with (go_at_call 53; refine HN.out.mono ?_; rintro e w2 ⟨rfl, hA⟩)
      go_ret
      rw [HI.out]
      refine ⟨?_, hA⟩
      exact ret_int HX.out
    | false =>
      go_enter Try.func55, Try.ntmps55
      go_wp2_with (go_at_call 53; refine HN.out.mono ?_; rintro e w2 ⟨rfl, hA⟩)
      go_ret
      rw [HI.out]
      exact ⟨rfl, hA⟩

set_option maxHeartbeats 1000000 in
theorem rdone_any (h : ReadAt pt A c t w) : Calls Try.prog 32 #[.pointer (some ⟨pt, 0, none⟩)] w fun r w' => r = .returned (.int .i64 t.end_) ∧ ∃ q, w' = w.drewN q := by
  obtain ⟨c0, c1, c2, c3⟩ := h.cells
  have hcap := h.cap
  have hcm := h.capm
  by_cases hf : t.fault = 0
  · rw [hf] at c2
    by_cases hp : t.pos < t.bytes.length
    · have HI := Lib.hid (show t.end_ = 4 by unfold TS.end_; rw [if_pos ⟨hf, hp⟩])
      have hd : decide (t.pos < t.bytes.length) = true := by simpa using hp
      clear hf
      go_enter Try.func32, Try.ntmps32
      go_wp2
      go_quiet (fail)
      go_wp2
      go_ret
      rw [HI.out]
      exact ⟨rfl, _, rfl⟩
    · have HI := Lib.hid (show t.end_ = 0 by unfold TS.end_; rw [if_neg (fun x => hp x.2), hf])
      have hd : decide (t.pos < t.bytes.length) = false := by simpa using hp
      clear hf
      go_enter Try.func32, Try.ntmps32
      go_wp2
      go_quiet (fail)
      go_wp2
      go_ret
      rw [HI.out]
      exact ⟨rfl, _, rfl⟩
  · have HI := Lib.hid (show t.end_ = t.fault by unfold TS.end_; rw [if_neg (fun x => hf x.1)])
    have hd : ((t.fault : Int) == 0) = false := by simp [hf]
    go_enter Try.func32, Try.ntmps32
    go_wp2
    go_quiet (fail)
    go_wp2
    go_ret
    rw [HI.out]
    exact ⟨rfl, _, rfl⟩

theorem rmove (h : ReadAt pt A c t w) (p : Nat) (hp : p ≤ t.bytes.length) : RAct w pt A c { t with pos := p } (w.setCell ⟨pt, 1, none⟩ (.int .i64 (p : Int))) := by
  have hfr := Fr.setCell (fun k => k = pt) w (p := ⟨pt, 1, none⟩) (fun _ => rfl) (.int .i64 (p : Int))
  exact ⟨⟨h.obj.set_ 1 _, hfr.rd h.rd (fun b off e _ => h.ne b off e), h.ne, h.cap, h.capm, hp, h.flt, h.spt⟩, hfr⟩

set_option maxHeartbeats 1000000 in
theorem rbyte_any (h : ReadAt pt A c t w) : Calls Try.prog 54 #[.pointer (some ⟨pt, 0, none⟩)] w fun r w' => r = .returned (bv t.byte.1) ∧ RAct w pt A c t.byte.2 w' := by
  obtain ⟨c0, c1, c2, c3⟩ := h.cells
  have hpos := h.pos
  have hcap := h.cap
  have hcm := h.capm
  by_cases hf : t.fault ≠ 0
  · have HI := Lib.hid (show t.byte = (0, t) by unfold TS.byte; rw [if_pos hf])
    have hA := drew_ract h 0
    have hfb : ((t.fault : Int) != 0) = true := by simp [hf]
    go_enter Try.func54, Try.ntmps54
    go_wp2
    go_ret
    rw [HI.out]
    exact ⟨rfl, hA⟩
  · have hf0 : t.fault = 0 := by omega
    rw [hf0] at c2
    by_cases hp : t.pos < t.bytes.length
    · have HI := Lib.hid (show t.byte = (t.bytes[t.pos], { t with pos := t.pos + 1 }) by unfold TS.byte; rw [if_neg hf, List.getElem?_eq_getElem hp])
      have hd : decide (t.bytes.length ≤ t.pos) = false := by simp; omega
      have HA1 : Hid (∀ q, RAct w pt A c { t with pos := t.pos + 1 } ((w.drewN q).setCell ⟨pt, 1, none⟩ (.int .i64 ((t.pos : Int) + 1)))) := fun q => by
        have h2 := drew_ract h q
        exact h2.trans (rmove h2.tape (t.pos + 1) (by omega))
      have f1 := h.obj.frozen 1
      have HH := Lib.hid h
      have hA := h.rd.at_ hp
      clear hf hf0
      go_enter Try.func54, Try.ntmps54
      go_wp2
      go_quiet (fail)
      go_upto_region 7 with (fail)
      refine wp_world (fun W => RAct w pt A c { t with pos := t.pos + 1 } W) (HA1.out _) ?_
      intro w3 hA3
      obtain ⟨d0, d1, d2, d3⟩ := hA3.tape.cells
      obtain ⟨b, off, rfl, _, hcl⟩ := hA3.tape.rd.at_ (k := t.pos) hp
      simp only at d0 d1 hcl
      obtain ⟨p, hp1, hp2⟩ : ∃ p : Nat, p = t.pos + 1 ∧ (p : Int) - 1 = (t.pos : Int) := ⟨t.pos + 1, rfl, by omega⟩
      rw [← hp1] at d1
      have q1 : IntKind.i64.wrap ((p : Int) - 1) = (t.pos : Int) := by rw [hp2]; exact IntWalk.i64_in _ (by omega)
      have q2 : (0 : Int) ≤ (t.pos : Int) := by omega
      have q3 : (t.pos : Int) < (t.bytes.length : Int) := by omega
      generalize t.bytes[t.pos] = x at *
      clear HA1 c0 c1 c2 c3 hp1 f1
      go_quiet (fail)
      go_wp2
      go_ret
      rw [HI.out]
      exact ⟨rfl, hA3.drewN _⟩
    · have HI := Lib.hid (show t.byte = (0, t.stops 3 t.pos) by unfold TS.byte; rw [if_neg hf, List.getElem?_eq_none (by omega)])
      have hd : decide (t.bytes.length ≤ t.pos) = true := by simp; omega
      have HF : Hid (∀ q, Calls Try.prog 68 #[.pointer (some ⟨pt, 0, none⟩), .int .i64 3, .int .i64 t.pos] (w.drewN q) fun r w' => r = .returned (.tuple #[]) ∧ RAct w pt A c (t.stops 3 t.pos) w') := fun q =>
        (rfail_ok (drew_ract h q).tape 3 t.pos (by omega) hpos hf0).mono fun e w2 ⟨he, ha⟩ => ⟨he, (drew_ract h q).trans ha⟩
      clear hf hf0
      go_enter Try.func54, Try.ntmps54
      go_wp2
      go_quiet (fail)
      go_wp2_with (go_at_call 68; refine (HF.out _).mono ?_; rintro e w3 ⟨rfl, hA3⟩)
      go_ret
      rw [HI.out]
      exact ⟨rfl, hA3⟩

def RStrEnds (w : World) (pt : Nat) (A : Option Addr) (c : Nat) (x : List UInt8 × TS) (r : Ending) (w' : World) : Prop :=
  r = .returned (.string ⟨x.1.toArray⟩) ∧ RAct w pt A c x.2 w'

set_option maxHeartbeats 2000000 in
theorem rtext_any (h : ReadAt pt A c t w) (most : Int) (hm : most ≤ 9223372036854775807) : Calls Try.prog 56 #[.pointer (some ⟨pt, 0, none⟩), .int .i64 most] w (RStrEnds w pt A c (t.str most)) := by
  have HN := Lib.hid (ruint_any h)
  have hlt := number_lt (t := t) false
  have hby := number_stops_le (t := t) false
  have hpos := h.pos
  obtain ⟨c0, c1, c2, c3⟩ := h.cells
  have HI : Hid (t.str most = if (t.number false).2.fault ≠ 0 then ([], (t.number false).2)
    else if (max most 0).toNat < (t.number false).1.1 then ([], (t.number false).2.stops 1 t.pos)
    else if (t.number false).2.bytes.length - (t.number false).2.pos < (t.number false).1.1 then ([], (t.number false).2.stops 3 t.pos)
    else (((t.number false).2.bytes.drop (t.number false).2.pos).take (t.number false).1.1, { (t.number false).2 with pos := (t.number false).2.pos + (t.number false).1.1 })) := rfl
  obtain ⟨n, b, t2, hx⟩ : ∃ n b t2, t.number false = ((n, b), t2) := ⟨_, _, _, rfl⟩
  rw [hx] at HN HI hlt hby
  simp only at hlt hby HN HI
  have hpos2 : t.pos ≤ t2.bytes.length := by rw [hby]; exact hpos
  clear hx hby
  obtain ⟨mx, hmx⟩ : ∃ mx : Nat, (mx : Int) = max most 0 := ⟨(max most 0).toNat, by omega⟩
  have hmx2 : (max most 0).toNat = mx := by omega
  rw [hmx2] at HI
  have hmx9 : mx ≤ 9223372036854775807 := by omega
  have qm : max most 0 = (mx : Int) := hmx.symm
  have qu : IntKind.u64.wrap (mx : Int) = (mx : Int) := by show (mx : Int) % 18446744073709551616 = _; omega
  clear hmx hmx2
  go_enter Try.func56, Try.ntmps56
  go_upto_region 3 with (go_at_call 30; refine HN.out.mono ?_; rintro e w2 ⟨rfl, hA⟩)
  obtain ⟨d0, d1, d2, d3⟩ := hA.tape.cells
  have hp2 := hA.tape.pos
  have hcap2 := hA.tape.cap
  have hcm2 := hA.tape.capm
  clear c0 c1 c2 c3 HN
  by_cases hf : t2.fault ≠ 0
  · rw [if_pos hf] at HI
    have hfb : ((t2.fault : Int) != 0) = true := by simp [hf]
    go_wp2
    go_ret
    rw [HI.out]
    exact ⟨rfl, hA⟩
  · rw [if_neg hf] at HI
    have hf0 : t2.fault = 0 := by omega
    rw [hf0] at d2
    have HF0 := Lib.hid hf0
    clear hf hf0
    by_cases hlong : mx < n
    · rw [if_pos hlong] at HI
      have hdl : decide (mx < n) = true := by simpa using hlong
      go_wp2_with (go_at_call 68; refine (rfail_ok hA.tape 1 t.pos (by omega) hpos2 HF0.out).mono ?_; rintro e w3 ⟨rfl, hA3⟩)
      go_ret
      rw [HI.out]
      exact ⟨rfl, hA.trans hA3⟩
    · rw [if_neg hlong] at HI
      have hdl : decide (mx < n) = false := by simpa using hlong
      have hn9 : n ≤ 9223372036854775807 := by omega
      obtain ⟨rs, hrs, hrs2⟩ : ∃ rs : Nat, (t2.bytes.length : Int) - (t2.pos : Int) = (rs : Int) ∧ t2.bytes.length - t2.pos = rs := ⟨t2.bytes.length - t2.pos, by omega, rfl⟩
      rw [hrs2] at HI
      have q1 : IntKind.i64.wrap ((t2.bytes.length : Int) - (t2.pos : Int)) = (rs : Int) := by rw [hrs]; exact IntWalk.i64_in _ (by omega)
      have q2 : IntKind.u64.wrap (rs : Int) = (rs : Int) := by show (rs : Int) % 18446744073709551616 = _; omega
      by_cases hsh : rs < n
      · rw [if_pos hsh] at HI
        have hds : decide (rs < n) = true := by simpa using hsh
        clear hrs2
        go_wp2
        go_quiet (fail)
        go_wp2_with (go_at_call 68; refine (rfail_ok (hA.drewN _).tape 3 t.pos (by omega) hpos2 HF0.out).mono ?_; rintro e w3 ⟨rfl, hA3⟩)
        go_ret
        rw [HI.out]
        exact ⟨rfl, (hA.drewN _).trans hA3⟩
      · rw [if_neg hsh] at HI
        have hds : decide (rs < n) = false := by simpa using hsh
        obtain ⟨x, hx⟩ : ∃ x, x = (t2.bytes.drop t2.pos).take n := ⟨_, rfl⟩
        rw [← hx] at HI
        have HXL := Lib.hid (show x.length = n by rw [hx]; simp; omega)
        have HX := Lib.hid hx
        obtain ⟨p, hpp, hpi⟩ : ∃ p : Nat, t2.pos + n = p ∧ (t2.pos : Int) + (n : Int) = (p : Int) := ⟨t2.pos + n, rfl, by omega⟩
        have hpl : p ≤ t2.bytes.length := by omega
        have q3 : IntKind.i64.wrap ((t2.pos : Int) + (n : Int)) = (p : Int) := by rw [hpi]; exact IntWalk.i64_in _ (by omega)
        rw [hpp] at HI
        have f1 := hA.tape.obj.frozen 1
        have HMV : Hid (∀ q, RAct w pt A c { t2 with pos := p } ((w2.drewN q).setCell ⟨pt, 1, none⟩ (.int .i64 (p : Int)))) := fun q => (hA.drewN q).trans (rmove (hA.drewN q).tape p hpl)
        clear hx hrs2
        go_wp2
        go_quiet (fail)
        go_upto_region 12 with (fail)
        refine wp_world (fun W => RAct w pt A c { t2 with pos := p } W) (HMV.out _) ?_
        intro w3 hA3
        obtain ⟨e0, e1, e2, e3⟩ := hA3.tape.cells
        simp only at e0 e1
        have q4 : (p : Int) - (n : Int) = (t2.pos : Int) := by omega
        have q5 : IntKind.i64.wrap ((p : Int) - (n : Int)) = (t2.pos : Int) := by rw [q4]; exact IntWalk.i64_in _ (by omega)
        have q6 : (0 : Int) ≤ (t2.pos : Int) := by omega
        have q7 : (t2.pos : Int) ≤ (p : Int) := by omega
        have q8 : (p : Int) ≤ (c : Int) := by omega
        have q9 : p - t2.pos = n := by omega
        have HRP : Rd w3 (A.map fun x => x.add t2.pos) x := by rw [HX.out]; exact rd_part hA3.tape.rd t2.pos n
        have HCV := fun (q cc : Nat) => run_str (P := Try.prog) Try.underlying23 Try.underlying5 Try.underlying9 (w3.drewN q) (A.map fun x => x.add t2.pos) n cc x HXL.out (HRP.below (below_drewN (Below.refl _ _) q))
        clear hrs q1 q2 q3 hpi hpp HMV f1 d0 d1 d2 d3
        by_cases hcp : c = t2.pos
        · have hn0 : n = 0 := by omega
          have HX0 := Lib.hid (show x = [] from List.eq_nil_of_length_eq_zero (by rw [HXL.out]; exact hn0))
          have HCV0 := fun (q cc : Nat) => run_str (P := Try.prog) Try.underlying23 Try.underlying5 Try.underlying9 (w3.drewN q) A n cc [] (by rw [hn0]; rfl) (.inl rfl)
          have HA9 : Hid (∀ q, RAct w pt A t2.pos { t2 with pos := p } (w3.drewN q)) := fun q => by have h9 := hA3.drewN q; rwa [hcp] at h9
          clear HCV HRP hn0
          go_quiet (fail)
          go_wp2
          go_ret
          rw [HI.out, HX0.out]
          exact ⟨rfl, HA9.out _⟩
        · clear HRP
          go_quiet (fail)
          go_wp2
          go_ret
          rw [HI.out]
          exact ⟨rfl, hA3.drewN _⟩
end

set_option maxHeartbeats 600000 in
theorem rnew_any (A : Option Addr) (l : List UInt8) (n c : Nat) (w : World) (hl : l.length = n) (hn : n ≤ 140737488351232) (hr : Rd w A l) :
    Calls Try.prog 29 #[.slice A n c] w fun r w' => ∃ pt B cB, r = .returned (.pointer (some ⟨pt, 0, none⟩)) ∧ ReadAt pt B cB ⟨l, 0, 0, 0⟩ w' ∧ Below w.heap.size w w' ∧ w.heap.size ≤ pt ∧ (∀ b off, B = some ⟨b, off, none⟩ → w.heap.size ≤ b ∧ b < pt) ∧ pt < w'.heap.size := by
  have HL := Lib.hid hl
  have H0 : Hid ((w.alloc (.cells #[] 5)).ownsRow w.heap.size 5 1 (.slice (some ⟨w.heap.size, 0, none⟩) 0 0) 0 [] ∧ Cs (w.alloc (.cells #[] 5)) A (l.map bv)) :=
    ⟨⟨rfl, .inr ⟨w.heap.size, 0, #[], rfl, Nat.le_refl _, heap_alloc_new _ _, Nat.le_refl _, Nat.zero_le _, rfl, rfl⟩⟩, (hr.below (below_alloc _ _)).cs⟩
  have hone := bvs_one l
  have HLM := Lib.hid (show (l.map bv).length = n * 1 by rw [List.length_map, hl]; omega)
  have hmx : 0 + n ≤ maxLen := by simp only [maxLen]; omega
  have hbx : (0 + n) * 1 ≤ 140737488355328 := by omega
  have hbs : w.heap.size ≤ (w.alloc (.cells #[] 5)).heap.size := by simp
  clear hl
  go_enter Try.func29, Try.ntmps29
  go_wp2_with (at_builtin; refine wpList_app bytesT rfl (.tmp 3) (.tmp 4) rfl w.heap.size (.slice (some ⟨w.heap.size, 0, none⟩) 0 0) 0 [] rfl H0.out.1 A n c (l.map bv) rfl HLM.out H0.out.2 hone hmx hbx hbs ?_; intro v' w2 hown hgr _; simp only [Nat.zero_add, List.nil_append] at hown; obtain ⟨B, cB, rfl, hrB, _, hcB⟩ := own_rd hown)
  have hb2 : Below w.heap.size w w2 := (below_alloc w _).grown hgr (by simp) (fun k hk => Nat.le_of_eq (by simpa [Value.ownBlock] using hk))
  go_ret
  have hcm : cB ≤ 9223372036854775807 := by
    rcases hown.2 with ⟨hv, _⟩ | ⟨g, cap, cur, hv, _, _, _, h10, _⟩
    · have := (Value.slice.inj hv).2.2; omega
    · have := (Value.slice.inj hv).2.2; unfold maxLen at h10; omega
  have hBl : ∀ b off, B = some ⟨b, off, none⟩ → w.heap.size ≤ b ∧ b < w2.heap.size := by
    intro b off e
    subst e
    exact World.ownsRow.lt hown b rfl
  refine ⟨w2.heap.size, B, cB, rfl, ⟨?_, hrB.below (below_alloc w2 _), fun b off e => by have := hBl b off e; omega, by rw [HL.out]; exact hcB, hcm, Nat.zero_le _, Nat.zero_le _, Nat.zero_le _⟩, hb2.alloc hb2.size _, hb2.size, hBl, by simp⟩
  have := Blk.new w2 61 #[.slice B n cB, .int .i64 0, .int .i64 0, .int .i64 0]
  show Blk _ _ _ #[.slice B l.length cB, .int .i64 0, .int .i64 0, .int .i64 0]
  rw [HL.out]
  exact this
end Go.Proofs.Ytommadcjemljcaa
