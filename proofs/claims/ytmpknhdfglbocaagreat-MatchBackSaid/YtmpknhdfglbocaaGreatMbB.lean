/- Layer 13: the law's built at a name. -/
import Derived.Test.YtmpknhdfglbocaaGreatMbA
import Derived.Deep.RegionHeld3
import Derived.BigQuiet
import Derived.Deep.QuietTactic
namespace Go.Proofs.YtmpknhdfglbocaaGreat
open Go.RowKit
set_option linter.unusedVariables false

theorem ex_world {Q : Exit → Act → World → Prop} {ex : Exit} {a : Act} {w : World} (F : World → Prop) (hF : F w) (h : ∀ w', F w' → Q ex a w') : Q ex a w := h w hF
/-- How Get ends, its values in older memory. -/
def GetE0 (w0 W : World) (r : Option TV) (e : Ending) (w' : World) : Prop :=
  ∃ u : TE w0, u.t = r.getD (.mk 0 0 [] []) ∧ e = .returned (.tuple #[.agg #[.int .i64 u.t.kind, .int .i64 u.t.int, .string ⟨u.t.name.toArray⟩, .slice u.A u.t.items.length u.c], .bool r.isSome]) ∧ Below W.heap.size W w'
set_option maxRecDepth 100000 in
set_option maxHeartbeats 4000000 in
theorem rget0_any (w0 w : World) (s : List UInt8) (E : List (BG (TE w0))) (A : Option Addr) (cap : Nat) (hB : RdB w A cap E) (hlen : E.length ≤ 2000000) :
    Calls Tryz.prog 13 #[.string ⟨s.toArray⟩, .slice A E.length cap] w (GetE0 w0 w (getG s (vE E))) := by
  have hlc := hB.1
  have hcm := hB.2.1
  have HB := Lib.hid hB
  obtain ⟨n, hn⟩ : ∃ n, E.length = n := ⟨_, rfl⟩
  have HN := Lib.hid hn
  rw [hn] at hlc hlen ⊢
  rw [vE_get]
  obtain ⟨GR, hGR⟩ : ∃ GR, (getG s E).map (fun e : TE w0 => e.t) = GR := ⟨_, rfl⟩
  rw [hGR]
  have HGR := Lib.hid hGR
  clear hB hn hGR
  have hw : wrap64 ((n : Int) - 1) = (n : Int) - 1 := by unfold wrap64; omega
  go_enter Tryz.func13, Tryz.ntmps13
  go_upto_region 2 with (fail)
  clear hw
  refine wp_world (fun V => Blk V w.heap.size 35 #[.int .i64 0, .int .i64 0, .string ⟨#[]⟩, .slice none 0 0] ∧ Below w.heap.size w V) ⟨Blk.new _ _ _, below_alloc _ _⟩ ?_
  rintro W0 ⟨hR, hb⟩
  have HR := Lib.hid hR
  have HBL := Lib.hid hb
  clear hR hb
  go_loopw [6] (fun v wr => ∃ j : Nat, v = .int .i64 ((n : Int) - 1 - j) ∧ j ≤ n ∧ getG s E = getG s (E.take (n - j)) ∧ W0 = wr) (fun v _ => match v with | .int _ i => (i + 1).toNat | _ => 0)
  case atStart => exact ⟨0, by simp, Nat.zero_le _, by rw [Nat.sub_zero, ← HN.out, List.take_length], rfl⟩
  case round =>
    obtain ⟨j, rfl, hj, hg, rfl⟩ := hrel
    have HG := Lib.hid hg
    clear hg
    by_cases h : j < n
    · obtain ⟨i, hi⟩ : ∃ i, i = n - 1 - j := ⟨_, rfl⟩
      have ei : (n : Int) - 1 - (j : Int) = (i : Int) := by omega
      have hd : decide ((0 : Int) ≤ (i : Int)) = true := by simp
      have hil : i < E.length := by rw [HN.out]; omega
      obtain ⟨b, o, rfl, e0, e1, e2, e3, e4⟩ := (HB.out.below HBL.out).item hil
      have HTK := Lib.hid (getG_take (s := s) hil)
      have hnj : n - j = i + 1 := by omega
      have hnj2 : n - (j + 1) = i := by omega
      rw [hnj] at HG
      have HEI := Lib.hid ei
      have HNJ := Lib.hid hnj2
      have HJ := Lib.hid h
      have q1 : (0 : Int) ≤ (i : Int) := by omega
      have q2 : (i : Int) < (n : Int) := by omega
      have hw : wrap64 ((i : Int) - 1) = (i : Int) - 1 := by unfold wrap64; omega
      rw [HEI.out]
      generalize E[i] = q at *
      obtain ⟨qn, qe⟩ := q
      simp only at e0 e1 e2 e3 e4 HTK
      clear hi h hil hnj hnj2 ei
      cases hq : (qn == s) with
      | false =>
        have HQ := Lib.hid (show getG s (E.take (i + 1)) = getG s (E.take i) by rw [HTK.out, if_neg (by simpa using hq)])
        go_wp2
        go_roundw
        case rel => exact ⟨j + 1, by have := HEI.out; congr 1; omega, by have := HJ.out; omega, by rw [HNJ.out, HG.out, HQ.out], trivial⟩
        case measure => simp
      | true =>
        have HQ := Lib.hid (show GR = some qe.t by rw [← HGR.out, HG.out, HTK.out, if_pos (by simpa using hq)]; rfl)
        have f0 := HR.out.frozen 0
        have f1 := HR.out.frozen 1
        have f2 := HR.out.frozen 2
        have f3 := HR.out.frozen 3
        have z0 := HR.out.cell 0
        have z1 := HR.out.cell 1
        have z2 := HR.out.cell 2
        have z3 := HR.out.cell 3
        go_wp2
        have hset := HR.out.set4 (.int .i64 qe.t.kind) (.int .i64 qe.t.int) (.string ⟨qe.t.name.toArray⟩) (.slice qe.A qe.t.items.length qe.c)
        have hf4 := fr_set4 W0 w.heap.size (.int .i64 qe.t.kind) (.int .i64 qe.t.int) (.string ⟨qe.t.name.toArray⟩) (.slice qe.A qe.t.items.length qe.c)
        have c0 := hset.cell 0
        have c1 := hset.cell 1
        have c2 := hset.cell 2
        have c3 := hset.cell 3
        refine bodyPost_ret (v := .tuple #[.agg #[.int .i64 qe.t.kind, .int .i64 qe.t.int, .string ⟨qe.t.name.toArray⟩, .slice qe.A qe.t.items.length qe.c], .bool true]) (by simp [results, Tryz.results13, go_sem, c0, c1, c2, c3]) rfl ?_
        exact ⟨qe, by rw [HQ.out]; rfl, by rw [HQ.out]; rfl, HBL.out.trans (hf4.below HBL.out.size (fun k hk => by omega))⟩
    · obtain rfl : j = n := by omega
      have HQ := Lib.hid (show GR = none by rw [← HGR.out, HG.out, Nat.sub_self, List.take_zero]; rfl)
      rw [show (j : Int) - 1 - (j : Int) = -1 by omega]
      have f0 := HR.out.frozen 0
      have f1 := HR.out.frozen 1
      have f2 := HR.out.frozen 2
      have f3 := HR.out.frozen 3
      have z0 := HR.out.cell 0
      have z1 := HR.out.cell 1
      have z2 := HR.out.cell 2
      have z3 := HR.out.cell 3
      go_wp2
      have hset := HR.out.set4 (.int .i64 0) (.int .i64 0) (.string ⟨#[]⟩) (.slice none 0 0)
      have hf4 := fr_set4 W0 w.heap.size (.int .i64 0) (.int .i64 0) (.string ⟨#[]⟩) (.slice none 0 0)
      have c0 := hset.cell 0
      have c1 := hset.cell 1
      have c2 := hset.cell 2
      have c3 := hset.cell 3
      refine bodyPost_ret (v := .tuple #[.agg #[.int .i64 0, .int .i64 0, .string ⟨#[]⟩, .slice none 0 0], .bool false]) (by simp [results, Tryz.results13, go_sem, c0, c1, c2, c3]) rfl ?_
      exact ⟨⟨.mk 0 0 [] [], none, 0, rdm_nil w0⟩, by rw [HQ.out]; rfl, by rw [HQ.out]; rfl, HBL.out.trans (hf4.below HBL.out.size (fun k hk => by omega))⟩
section
variable {w0 W W' : World} {sb : Nat} {v : Value} {L : List (List UInt8)}
theorem Seen.far {F : Nat → Prop} (h : Seen w0 sb v L W) (hf : Fr F W W') (h1 : ¬ F sb) (h2 : ∀ g, v.ownBlock = some g → ¬ F g) (h3 : ∀ k, F k → w0.heap.size ≤ k) : Seen w0 sb v L W' :=
  ⟨hf.blk h.box h1, own_fr h.own hf h2, h.bel.trans (hf.below h.bel.size h3), h.le⟩
/-- The row with one name more is stored. -/
theorem Seen.put {v1 : Value} {VA VB : World} {s : List UInt8} (h : Seen w0 sb v L W) (hb : Below W.heap.size W VA) (ho : VB.ownsRow (sb + 1) 9 1 v1 (L.length + 1) (L.map svB ++ [svB s])) (hg : VA.grownBy VB v.ownBlock) (hat : v1.ownBlock = v.ownBlock ∨ v1.ownBlock = some VA.heap.size) :
    Seen w0 sb v1 (L ++ [s]) (VB.setCell ⟨sb, 0, none⟩ v1) ∧ (∀ g, v1.ownBlock = some g → v.ownBlock = some g ∨ VA.heap.size ≤ g) ∧ Fr (fun i => i = sb ∨ v.ownBlock = some i) W (VB.setCell ⟨sb, 0, none⟩ v1) := by
  have hsa : ∀ g, v.ownBlock = some g → sb < g ∧ g < W.heap.size := fun g hg => h.apart hg
  have hlt := h.lt
  have hsz := hb.size
  have hne : v.ownBlock ≠ some sb := fun e => by have := (hsa _ e).1; omega
  have hA := h.keep hb
  have hF1 : Fr (fun i => v.ownBlock = some i) VA VB := Fr.of_grown hg (fun k e _ => e)
  have hF2 : Fr (fun i => i = sb) VB (VB.setCell ⟨sb, 0, none⟩ v1) := Fr.setCell (fun i => i = sb) VB (p := ⟨sb, 0, none⟩) (fun _ => rfl) v1
  have hown : ∀ g, v1.ownBlock = some g → v.ownBlock = some g ∨ VA.heap.size ≤ g := fun g hg => by
    rcases hat with e | e
    · exact .inl (by rw [← e]; exact hg)
    · rw [e] at hg
      injection hg with hg
      exact .inr (by omega)
  have hFr : Fr (fun i => i = sb ∨ v.ownBlock = some i) W (VB.setCell ⟨sb, 0, none⟩ v1) :=
    ((Fr.of_below hb _).same (hF1.weak fun _ _ e => .inr e)).same (hF2.weak fun _ _ e => .inl e)
  refine ⟨⟨?_, ?_, ?_, h.le⟩, hown, hFr⟩
  · exact (hF1.blk hA.box hne).set_ 0 v1
  · rw [List.length_append, List.map_append]
    refine own_fr ho hF2 fun k hk e => ?_
    rcases hown k hk with h9 | h9
    · have := (hsa k h9).1; omega
    · omega
  · have := h.le
    have hw0 := h.bel.size
    exact h.bel.trans (hFr.below (Nat.le_trans hw0 (Nat.le_refl _)) fun k hk => by
      rcases hk with rfl | hk
      · exact this
      · have := (hsa k hk).1; omega)
/-- built's boxes, beside the names seen. -/
structure BJ (w0 W : World) (sb : Nat) (v : Value) (L : List (List UInt8)) (cs : Array Value) (v1 : Value) (L1 : List (List UInt8)) (V : World) : Prop where
  seen : Seen w0 sb v1 L1 V
  p : Blk V W.heap.size 29 cs
  r : Blk V (W.heap.size + 1) 35 #[.int .i64 0, .int .i64 0, .string ⟨#[]⟩, .slice none 0 0]
  own : ∀ g, v1.ownBlock = some g → v.ownBlock = some g ∨ W.heap.size + 2 ≤ g
  fr : Fr (fun i => i = sb ∨ v.ownBlock = some i) W V
  sz : W.heap.size + 2 ≤ V.heap.size
  apart : ∀ g, v.ownBlock = some g → sb < g ∧ g < W.heap.size
  lt : sb < W.heap.size
section
variable {V V' : World} {cs : Array Value} {v1 : Value} {L1 : List (List UInt8)}
theorem BJ.keep (h : BJ w0 W sb v L cs v1 L1 V) (hb : Below V.heap.size V V') : BJ w0 W sb v L cs v1 L1 V' :=
  ⟨h.seen.keep hb, h.p.keep hb, h.r.keep hb, h.own, h.fr.same (Fr.of_below hb _), Nat.le_trans h.sz hb.size, h.apart, h.lt⟩
theorem BJ.start (h : Seen w0 sb v L W) (hV : BI W cs V) : BJ w0 W sb v L cs v L V :=
  ⟨h.keep hV.bel, hV.p, hV.r, fun _ e => .inl e, Fr.of_below hV.bel _, hV.r.lt, fun _ e => h.apart e, h.lt⟩
/-- A call of built, or of what turns the names seen alone. -/
theorem BJ.step {v2 : Value} {L2 : List (List UInt8)} (h : BJ w0 W sb v L cs v1 L1 V) (hs : Seen w0 sb v2 L2 V') (ho : ∀ g, v2.ownBlock = some g → v1.ownBlock = some g ∨ V.heap.size ≤ g) (hf : Fr (fun i => i = sb ∨ v1.ownBlock = some i) V V') : BJ w0 W sb v L cs v2 L2 V' := by
  have hsz := h.sz
  have hlt := h.lt
  have hne : ∀ k, (k = W.heap.size ∨ k = W.heap.size + 1) → ¬ (k = sb ∨ v1.ownBlock = some k) := fun k hk e => by
    rcases e with e | e
    · omega
    · rcases h.own k e with h9 | h9
      · have := (h.apart k h9).2; omega
      · omega
  refine ⟨hs, hf.blk h.p (hne _ (.inl rfl)), hf.blk h.r (hne _ (.inr rfl)), fun g hg => ?_, h.fr.trans hf (fun i hi e => ?_), Nat.le_trans hsz hf.size, h.apart, hlt⟩
  · rcases ho g hg with h9 | h9
    · exact h.own g h9
    · exact .inr (by omega)
  · rcases e with e | e
    · exact .inl e
    · rcases h.own i e with h9 | h9
      · exact .inr h9
      · omega
/-- The result is stored. -/
theorem BJ.done {u t : TV} {A : Option Addr} {c : Nat} {ok : Bool} (h : BJ w0 W sb v L cs v1 L1 V) (hle : L1.length ≤ L.length + t.parts) (hok : ok = true → u = t)
    (hx : RdX (fun i => sb ≤ i ∧ i < W.heap.size + 2 ∨ v1.ownBlock = some i) V A c u.items) (hf : Fr (fun k => k = W.heap.size + 1) V V') :
    BEnd w0 sb v L.length W t (.returned (.tuple #[.agg #[.int .i64 u.kind, .int .i64 u.int, .string ⟨u.name.toArray⟩, .slice A u.items.length c], .bool ok])) V' := by
  have hlt := h.lt
  refine ⟨⟨u, A, c⟩, ok, v1, L1, rfl, hok, ⟨h.seen.far hf (by omega) (fun g hg e => ?_) (fun k hk => by have := h.seen.le; omega), hle, fun g hg => (h.own g hg).imp id (fun h9 => by omega), h.fr.trans hf (fun i hi e => by omega)⟩, ?_⟩
  · rcases h.own g hg with h9 | h9
    · have := (h.apart g h9).2; omega
    · omega
  · exact (hx.to ((KeepEx.of_fr hf).mono fun k e => .inl (by omega))).mono fun k e => e.imp (fun e => by omega) id
end
set_option maxRecDepth 100000 in
set_option maxHeartbeats 4000000 in
theorem built_k3 (hS : Seen w0 sb v L W) (n : Int) (s : List UInt8) (a : Int) (l : List ND) (A : Option Addr) (c : Nat) (v5 v6 : Value) (E : List (BG (TE w0))) (D : Option Addr) (d : Nat) (hB : RdB w0 D d E) (hE : E.length ≤ 2000000) (hL : L.length ≤ 2000000) (t : TV) (ht : ∀ u, getG s (vE E) = some u → u = t) :
    Calls Tryz.prog 18 #[.agg #[.int .i64 3, .int .i64 n, .string ⟨s.toArray⟩, .int .i64 a, .slice A l.length c, v5, v6], .slice D E.length d, .pointer (some ⟨sb, 0, none⟩)] W (BEnd w0 sb v L.length W t) := by
  obtain ⟨GR, hGR⟩ : ∃ GR, getG s (vE E) = GR := ⟨_, rfl⟩
  have HG : Hid (∀ V, Below w0.heap.size w0 V → Calls Tryz.prog 13 #[.string ⟨s.toArray⟩, .slice D E.length d] V (GetE0 w0 V GR)) := fun V hb => by rw [← hGR]; exact rget0_any w0 V s E D d (hB.below hb) hE
  rw [hGR] at ht
  have HT := Lib.hid ht
  have HS := Lib.hid hS
  have HF := Lib.hid (fun V (hb : Below W.heap.size W V) => BEnd.flat hS hb (.mk 0 0 [] []) t false rfl (fun h => by cases h))
  obtain ⟨Aa, ca, hva⟩ := own_slcB hS.own
  obtain ⟨nn, hnn⟩ : ∃ nn, L.length = nn := ⟨_, rfl⟩
  rw [hnn] at hva hL HF ⊢
  have HN := Lib.hid hnn
  subst hva
  generalize E.length = ne at *
  generalize l.length = len at *
  clear hB hE hGR ht hS hnn
  go_enter Tryz.func18, Tryz.ntmps18
  go_upto_region 1 with (fail)
  refine wp_world (BI W #[.int .i64 3, .int .i64 n, .string ⟨s.toArray⟩, .int .i64 a, .slice A len c, v5, v6]) (BI.new W _) ?_
  intro V1 hV
  have p0 := hV.p.cell 0
  have HV := Lib.hid hV
  clear hV
  go_upto_region 12 with (fail)
  clear p0
  go_loopw [8] (fun i wr => ∃ k : Nat, k ≤ nn ∧ i = .int .i64 k ∧ s ∉ L.take k ∧ Below V1.heap.size V1 wr) (fun i _ => nn - (intOf i).toNat)
  case atStart => exact ⟨0, Nat.zero_le _, rfl, by simp, Below.refl _ _⟩
  case round =>
    obtain ⟨k, hk, rfl, hno, hb⟩ := hrel
    have HNO := Lib.hid hno
    have HB := Lib.hid hb
    have hBI := HV.out.keep hb
    have hSE := HS.out.keep hBI.bel
    have c0 := hSE.box.cell 0
    have p2 := hBI.p.cell 2
    by_cases hlt : k < nn
    · have hd1 : decide (k < nn) = true := by simpa using hlt
      have hkl : k < L.length := by rw [HN.out]; exact hlt
      obtain ⟨g, rfl, cc⟩ := own_atB (by have h9 := hSE.own; rw [HN.out] at h9; exact h9) (j := k) (v := svB L[k]) (by simp [hkl])
      unfold svB at cc
      have hq1 : (0 : Int) ≤ (k : Int) := by omega
      have hq2 : (k : Int) < (nn : Int) := by omega
      have HTK := Lib.hid (show L.take (k + 1) = L.take k ++ [L[k]] from List.take_succ_eq_append_getElem hkl)
      have HR5 := Lib.hid hBI.r
      have HBL := Lib.hid hBI.bel
      generalize L[k] = x at *
      clear hkl hno hb hBI hSE
      by_cases hxs : x = s
      · subst hxs
        go_wp2
        go_quiet (fail)
        refine ex_world (fun V => Below wr.heap.size wr V) (below_drewN (Below.refl _ _) _) ?_
        intro w5 hb5
        have hr5 := HR5.out.keep hb5
        have f0 := hr5.frozen 0
        have f1 := hr5.frozen 1
        have f2 := hr5.frozen 2
        have f3 := hr5.frozen 3
        have z0 := hr5.cell 0
        have z1 := hr5.cell 1
        have z2 := hr5.cell 2
        have z3 := hr5.cell 3
        go_wp2
        have hset := hr5.set4 (.int .i64 0) (.int .i64 0) (.string ⟨#[]⟩) (.slice none 0 0)
        have hf4 := fr_set4 w5 (W.heap.size + 1) (.int .i64 0) (.int .i64 0) (.string ⟨#[]⟩) (.slice none 0 0)
        have c0 := hset.cell 0
        have c1 := hset.cell 1
        have c2 := hset.cell 2
        have c3 := hset.cell 3
        refine bodyPost_ret (v := .tuple #[.agg #[.int .i64 0, .int .i64 0, .string ⟨#[]⟩, .slice none 0 0], .bool false]) (by simp [results, Tryz.results18, go_sem, c0, c1, c2, c3]) rfl ?_
        have hb9 := below_step HBL.out hb5
        exact HF.out _ (hb9.trans (hf4.below hb9.size (fun k hk => by omega)))
      · have e1 : (x == s) = false := by simpa using hxs
        have HE := Lib.hid (show s ∉ L.take (k + 1) by rw [HTK.out]; simp only [List.mem_append, List.mem_singleton, not_or]; exact ⟨HNO.out, fun e => hxs e.symm⟩)
        go_wp2
        go_quiet (fail)
        refine ex_world (fun V => Below wr.heap.size wr V) (below_drewN (Below.refl _ _) _) ?_
        intro w5 hb5
        go_wp2
        go_roundw
        case rel => exact ⟨k + 1, by omega, by go_num, HE.out, below_step HB.out hb5⟩
        case measure => simp [intOf]; omega
    · obtain rfl : k = nn := by omega
      have hd1 : decide (k < k) = false := by simp
      have HJ := Lib.hid (BJ.start HS.out (HV.out.keep HB.out))
      clear hno hb hBI hSE HNO HB HV
      go_upto_region 16 with (fail)
      have hown : wr.ownsRow (sb + 1) 9 1 (.slice Aa k ca) k (L.map svB) := by have h9 := HJ.out.seen.own; rw [HN.out] at h9; exact h9
      have HOW : Hid (∀ V, Below wr.heap.size wr V → V.ownsRow (sb + 1) 9 1 (.slice Aa k ca) k (L.map svB)) := fun V hV => own_far hown hV
      have HSC : Hid (∀ V, Fr (fun i => (Value.slice Aa k ca).ownBlock = some i) wr V → V.cell? ⟨sb, 0, none⟩ = some (.slice Aa k ca) ∧ V.cell? ⟨W.heap.size, 2, none⟩ = some (.string ⟨s.toArray⟩) ∧ V.frozen? ⟨sb, 0, none⟩ = false) := fun V hV => by
        have h1 : (Value.slice Aa k ca).ownBlock ≠ some sb := fun e => by have := (HJ.out.apart _ e).1; omega
        have h2 : (Value.slice Aa k ca).ownBlock ≠ some W.heap.size := fun e => by have := (HJ.out.apart _ e).2; omega
        exact ⟨(hV.blk HJ.out.seen.box h1).cell 0, (hV.blk HJ.out.p h2).cell 2, (hV.blk HJ.out.seen.box h1).frozen 0⟩
      have hsb : sb + 1 ≤ wr.heap.size := HJ.out.seen.lt
      clear hown c0 p2
      refine wp_region_W 9 (fun V => Fr (fun i => (Value.slice Aa k ca).ownBlock = some i) wr V) (by kernel_rfl) ?_ (fun hS0 => ?_)
      · exact (Fr.refl _ _).drew
      (refine wpAnyW_take (i := 0) (v := ?_) rfl (by kernel_rfl) (by kernel_rfl) (by kernel_rfl) (by kernel_rfl) (fun _ _ _ h => h) (Or.inl ⟨by kernel_rfl, ?_⟩) (by assumption) ?_; rotate_left; focus (intro V9 hS9; go_simp; (try (with_reducible rfl)); done))
      try simp only [Act.put, List.getElem_toArray, List.getElem_cons_zero, List.setIfInBounds_toArray, List.set_cons_succ, List.set_cons_zero]
      (refine wpAnyW_take (i := 1) (v := ?_) rfl (by kernel_rfl) (by kernel_rfl) (by kernel_rfl) (by kernel_rfl) (fun _ _ _ h => h) (Or.inl ⟨by kernel_rfl, ?_⟩) (by assumption) ?_; rotate_left; focus (intro V9 hS9; go_simp; (try (with_reducible rfl)); done))
      try simp only [Act.put, List.getElem_toArray, List.getElem_cons_succ, List.getElem_cons_zero, List.setIfInBounds_toArray, List.set_cons_succ, List.set_cons_zero]
      (refine wpAnyW_take (i := 2) (v := ?_) rfl (by kernel_rfl) (by kernel_rfl) (by kernel_rfl) (by kernel_rfl) (fun _ _ _ h => h) (Or.inl ⟨by kernel_rfl, ?_⟩) (by assumption) ?_; rotate_left; focus (intro V9 hS9; obtain ⟨g0, g1, g2⟩ := HSC.out V9 hS9; go_simp; (try (with_reducible rfl)); done))
      try simp only [Act.put, List.getElem_toArray, List.getElem_cons_succ, List.getElem_cons_zero, List.setIfInBounds_toArray, List.set_cons_succ, List.set_cons_zero]
      (refine wpAnyW_take (i := 3) (v := ?_) rfl (by kernel_rfl) (by kernel_rfl) (by kernel_rfl) (by kernel_rfl) (fun _ _ _ h => h) (Or.inl ⟨by kernel_rfl, ?_⟩) (by assumption) ?_; rotate_left; focus (intro V9 hS9; obtain ⟨g0, g1, g2⟩ := HSC.out V9 hS9; go_simp; (try (with_reducible rfl)); done))
      try simp only [Act.put, List.getElem_toArray, List.getElem_cons_succ, List.getElem_cons_zero, List.setIfInBounds_toArray, List.set_cons_succ, List.set_cons_zero]
      (refine wpAnyW_take (i := 4) (v := ?_) rfl (by kernel_rfl) (by kernel_rfl) (by kernel_rfl) (by kernel_rfl) (fun _ _ _ h => h) (Or.inl ⟨by kernel_rfl, ?_⟩) (by assumption) ?_; rotate_left; focus (intro V9 hS9; obtain ⟨g0, g1, g2⟩ := HSC.out V9 hS9; go_simp; (try (with_reducible rfl)); done))
      try simp only [Act.put, List.getElem_toArray, List.getElem_cons_succ, List.getElem_cons_zero, List.setIfInBounds_toArray, List.set_cons_succ, List.set_cons_zero]
      (refine wpAnyW_take (i := 5) (v := ?_) rfl (by kernel_rfl) (by kernel_rfl) (by kernel_rfl) (by kernel_rfl) (fun _ _ _ h => h) (Or.inl ⟨by kernel_rfl, ?_⟩) (by assumption) ?_; rotate_left; focus (intro V9 hS9; obtain ⟨g0, g1, g2⟩ := HSC.out V9 hS9; go_simp; (try (with_reducible rfl)); done))
      try simp only [Act.put, List.getElem_toArray, List.getElem_cons_succ, List.getElem_cons_zero, List.setIfInBounds_toArray, List.set_cons_succ, List.set_cons_zero]
      refine wpAnyW_ready (rs := [6]) (by kernel_rfl) (by simp) ?_
      refine AllReadyW.cons rfl (fun K hK => ?_) AllReadyW.nil
      go_simp
      refine hK.out _ _ (((Fr.refl _ wr).drew).same (Fr.alloc _ _ _)) (fun _ => ?_)
      clear hK K
      try simp only [Act.put, List.getElem_toArray, List.getElem_cons_succ, List.getElem_cons_zero, List.setIfInBounds_toArray, List.set_cons_succ, List.set_cons_zero]
      refine wpAnyW_world (fun V => Below wr.heap.size wr V ∧ Blk V wr.heap.size 9 #[svB s]) ⟨below_step (Below.refl wr.heap.size wr).drew (below_alloc _ _), Blk.new _ _ _⟩ ?_
      rintro VA ⟨hbVA, hkA⟩
      refine wpAnyW_ready (rs := [7]) (by kernel_rfl) (by simp) ?_
      refine AllReadyW.cons rfl (fun K hK => ?_) AllReadyW.nil
      refine step_appO strT (by kernel_rfl) (.tmp 60) (.tmp 63) rfl (sb + 1) k (L.map svB) (.slice Aa k ca) (HOW.out VA hbVA) _ 1 1 [svB s] (by rfl) (by rfl) rfl (blk_cs hkA) (svB_one [s]) (by unfold maxLen; omega) (by omega) (Nat.le_trans hsb hbVA.size) ?_
      intro v1 VB hoVB hgVB hatVB
      obtain ⟨A1, c1, rfl⟩ := own_slcB hoVB
      refine hK.out _ _ ((Fr.of_below hbVA _).same (Fr.of_grown hgVB (fun k e _ => e))) (fun _ => ?_)
      clear hK K
      try simp only [Act.put, List.getElem_toArray, List.getElem_cons_succ, List.getElem_cons_zero, List.setIfInBounds_toArray, List.set_cons_succ, List.set_cons_zero]
      obtain ⟨g0, g1, g2⟩ := HSC.out VB ((Fr.of_below hbVA _).same (Fr.of_grown hgVB (fun k e _ => e)))
      (refine wpAnyW_take (i := 8) (v := ?_) rfl (by kernel_rfl) (by kernel_rfl) (by kernel_rfl) (by kernel_rfl) (fun _ _ _ h => h) (Or.inl ⟨by kernel_rfl, ?_⟩) (by assumption) ?_; rotate_left; focus (intro V9 hS9; go_simp; (try (with_reducible rfl)); done))
      try simp only [Act.put, List.getElem_toArray, List.getElem_cons_succ, List.getElem_cons_zero, List.setIfInBounds_toArray, List.set_cons_succ, List.set_cons_zero]
      refine wpAnyW_ready (rs := [9]) (by kernel_rfl) (by simp) ?_
      refine AllReadyW.consE rfl (by kernel_rfl) (fun K hK => ?_) AllReadyW.nil
      go_simp
      refine hK.out _ _ ?_
      clear hK K
      refine wpAnyW_done (by kernel_rfl) ?_ _
      obtain ⟨k1, k2, k3⟩ := HJ.out.seen.put hbVA (by rw [HN.out]; exact hoVB) hgVB hatVB
      have HJ2 := Lib.hid (HJ.out.step k1 (fun g hg => (k2 g hg).imp id (fun h9 => Nat.le_trans hbVA.size h9)) k3)
      refine ex_world (fun V => BJ w0 W sb (.slice Aa k ca) L #[.int .i64 3, .int .i64 n, .string ⟨s.toArray⟩, .int .i64 a, .slice A len c, v5, v6] (.slice A1 (k + 1) c1) (L ++ [s]) V) HJ2.out ?_
      clear HJ2 k1 k2 k3 hoVB hgVB hatVB hbVA hkA HOW HSC g0 g1 g2 HJ
      intro V3 hJ3
      have HJ3 := Lib.hid hJ3
      have p2 := hJ3.p.cell 2
      clear hJ3
      go_wp2_with (go_at_call 13; refine (HG.out _ HJ3.out.seen.bel).mono ?_; rintro e w5 ⟨u, hu, rfl, hb5⟩; have HU := Lib.hid hu; clear hu; have hr5 := HJ3.out.r.keep hb5; have f0 := hr5.frozen 0; have f1 := hr5.frozen 1; have f2 := hr5.frozen 2; have f3 := hr5.frozen 3; have z0 := hr5.cell 0; have z1 := hr5.cell 1; have z2 := hr5.cell 2; have z3 := hr5.cell 3)
      have hset := hr5.set4 (.int .i64 u.t.kind) (.int .i64 u.t.int) (.string ⟨u.t.name.toArray⟩) (.slice u.A u.t.items.length u.c)
      have hf4 := fr_set4 w5 (W.heap.size + 1) (.int .i64 u.t.kind) (.int .i64 u.t.int) (.string ⟨u.t.name.toArray⟩) (.slice u.A u.t.items.length u.c)
      have c0 := hset.cell 0
      have c1 := hset.cell 1
      have c2 := hset.cell 2
      have c3 := hset.cell 3
      refine bodyPost_ret (v := .tuple #[.agg #[.int .i64 u.t.kind, .int .i64 u.t.int, .string ⟨u.t.name.toArray⟩, .slice u.A u.t.items.length u.c], .bool GR.isSome]) (by simp [results, Tryz.results18, go_sem, c0, c1, c2, c3]) rfl ?_
      have h9 := (HJ3.out.keep hb5).done (u := u.t) (t := t) (A := u.A) (c := u.c) (ok := GR.isSome) (by have := t.parts_pos; simp; omega) (fun h => by
        obtain ⟨x, hx⟩ := Option.isSome_iff_exists.1 h
        rw [HU.out, hx]
        exact HT.out x hx) (rdx_old u.ok (HJ3.out.keep hb5).seen.bel (fun i hi => by
          have h1 := HJ3.out.seen.le
          rcases hi with hi | hi
          · omega
          · have := ((HJ3.out.keep hb5).seen.apart hi).1; omega)) hf4
      rw [HN.out] at h9
      exact h9
end
end Go.Proofs.YtmpknhdfglbocaaGreat
