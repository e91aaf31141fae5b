/- Layer 13: the walks of the law's terms and small. Written by mageno.py. Layer 13: the walk of the law MatchRows. Written by magenp.py. -/
import Derived.Test.YtmpknhdfglbocaaMaH
import Derived.Test.YtmpknhdfglbocaaTermY
import Derived.Test.YtmpknhdfglbocaaMaK
import Derived.Test.YtmpknhdfglbocaaMaM
import Derived.Test.YtmpknhdfglbocaaMaL
import Derived.Test.YtmpknhdfglbocaaOpenBd
namespace Go.Proofs.Ytmpknhdfglbocaa
section
open Go.RowKit
set_option linter.unusedVariables false

/-- append, behind '&&'. -/
theorem wpList_appG {P : Program} {w : World} {ops : Array Oper} {rest : List Oper} {o : Oper} {a : Act} {Q : Exit → Act → World → Prop} {t e : TypeId} {z : Value} {size bytes : Nat} (T : ElT P t e z size bytes) (hgd : Region.wanted o (yielded ops a.tmps) = true) (s x : Operand)
    (ho : o.op = .call { callee := .builtin .append, args := #[s, x], argTypes := #[t, t] }) (base : Nat)
    (v : Value) (n : Nat) (xs : List Value) (hs : a.eval s = v) (hown : w.ownsRow base e size v n xs) (A : Option Addr) (m c : Nat) (news : List Value) (hx : a.eval x = .slice A m c) (hl : news.length = m * size) (hnews : Cs w A news)
    (h1 : ∀ u ∈ news, u.oneCell' = true) (h63 : n + m ≤ maxLen) (hbytes : (n + m) * bytes ≤ 140737488355328) (hbase : base ≤ w.heap.size)
    (h : ∀ v' w', w'.ownsRow base e size v' (n + m) (xs ++ news) → w.grownBy w' v.ownBlock → (v'.ownBlock = v.ownBlock ∨ v'.ownBlock = some w.heap.size) → wpList P ops Q rest (a.put o.dst v') w') :
    wpList P ops Q (o :: rest) a w := by
  refine wpList_step fun K hK => ?_
  rw [if_pos hgd]
  obtain ⟨v', w', hr, h2, h3, h4⟩ := run_append_cs (P := P) w T o.type base v n xs hown A m c news hl hnews h1 h63 hbytes hbase
  unfold Oper.wp execOp
  simp only [ho, resolve, invoke, builtin, Sem.run_bind, Sem.run_pure, Result.andThen_ok, List.map_toArray, List.map_cons, List.map_nil, hs, hx, hr]
  exact hK _ _ (h v' w' h2 h3 h4)
theorem csB_below {W V : World} {A : Option Addr} {cs : List Value} (h : Cs W A cs) (hb : Below W.heap.size W V) : Cs V A cs := by
  rcases h with h0 | ⟨b, e, hcell⟩
  · exact .inl h0
  · exact .inr ⟨b, e, fun j w hj => (hb.cell (World.block_lt_of_cell? W _ (hcell j w hj))).trans (hcell j w hj)⟩
theorem namedB_of : ∀ {l : List TV}, (∀ t ∈ l, t.named) → TV.namedL l
  | [], _ => by simp [TV.namedL]
  | t :: r, h => by
    simp only [TV.namedL]
    exact ⟨h t (List.mem_cons_self ..), namedB_of fun u hu => h u (List.mem_cons_of_mem _ hu)⟩
theorem namedB_mem : ∀ {l : List TV}, TV.namedL l → ∀ t ∈ l, t.named
  | [], _, _, h => by simp at h
  | u :: r, hn, t, h => by
    simp only [TV.namedL] at hn
    rcases List.mem_cons.1 h with rfl | h
    · exact hn.1
    · exact namedB_mem hn.2 t h
/-- How many bytes names have together. -/
def nsum {α : Type} : List (BG α) → Nat
  | [] => 0
  | q :: r => q.1.length + nsum r
theorem nsum_append {α : Type} (E F : List (BG α)) : nsum (E ++ F) = nsum E + nsum F := by
  induction E with
  | nil => simp [nsum]
  | cons q r ih => simp only [List.cons_append, nsum, ih]; omega
theorem nsum_take {α : Type} {E : List (BG α)} {k : Nat} (h : k < E.length) : nsum (E.take (k + 1)) = nsum (E.take k) + E[k].1.length := by
  rw [List.take_succ_eq_append_getElem h, nsum_append]
  simp [nsum]
theorem nsum_le {α : Type} {B : Nat} : ∀ {E : List (BG α)}, (∀ q ∈ E, q.1.length ≤ B) → nsum E ≤ E.length * B
  | [], _ => by simp [nsum]
  | q :: r, h => by
    have h1 := h q (List.mem_cons_self ..)
    have h2 := nsum_le (B := B) fun p (hp : p ∈ r) => h p (List.mem_cons_of_mem _ hp)
    simp only [nsum, List.length_cons, Nat.succ_mul]
    omega
theorem nsum_at {α : Type} : ∀ {E : List (BG α)} {q : BG α}, q ∈ E → q.1.length ≤ nsum E
  | p :: r, q, h => by
    simp only [nsum]
    rcases List.mem_cons.1 h with rfl | h
    · omega
    · have := nsum_at h; omega
/-- Is it small enough to be asked of? -/
def smallB (E : List BV) (l : List TV) : Bool := decide (E.length ≤ 100) && (decide (l.length ≤ 100) && (decide (nsum (E.take 101) ≤ 3000) && decide (checkP (E.map (·.2) ++ l) = 0)))
theorem nsum_vE {w0 : World} (E : List (BG (TE w0))) : nsum (vE E) = nsum E := by
  induction E with
  | nil => rfl
  | cons q r ih => exact congrArg (q.1.length + ·) ih
theorem isL_split {l m : List TV} (h : TV.isL (l ++ m) = true) : TV.isL l = true ∧ TV.isL m = true := by rw [isL_append, Bool.and_eq_true] at h; exact h
/-- What is small. -/
theorem small_yes {E : List BV} {l : List TV} (h : smallB E l = true) : E.length ≤ 100 ∧ l.length ≤ 100 ∧ (∀ q ∈ E, q.1.length ≤ 3000) ∧ TV.isL (E.map (·.2)) = true ∧ TV.isL l = true := by
  unfold smallB at h
  simp only [Bool.and_eq_true, decide_eq_true_eq] at h
  obtain ⟨h1, h2, h3, h4⟩ := h
  rw [List.take_of_length_le (by omega)] at h3
  have h5 : TV.isL (E.map (·.2) ++ l) = true := by
    unfold checkP at h4
    split at h4
    · split at h4
      · assumption
      · omega
    · omega
  exact ⟨h1, h2, fun q hq => Nat.le_trans (nsum_at hq) h3, isL_split h5⟩

section
variable {W : World}
set_option maxRecDepth 100000 in
set_option maxHeartbeats 2000000 in
theorem termsM_any (w : World) (E : List (BG (TE W))) (A : Option Addr) (c : Nat) (hlen : E.length ≤ 100) (hE : RdB w A c E) :
    Calls Try.prog 14 #[.slice A E.length c] w fun e w' => ∃ v, e = .returned v ∧ w'.ownsRow w.heap.size 37 4 v E.length (cellsL (E.map (·.2))) ∧ Below w.heap.size w w' := by
  have hlc := hE.1
  have hlc2 := hE.2.1
  have HE := Lib.hid hE
  obtain ⟨n, hn⟩ : ∃ n, E.length = n := ⟨_, rfl⟩
  have HN := Lib.hid hn
  rw [hn] at hlc hlen ⊢
  clear hE hn
  go_enter Try.func14, Try.ntmps14
  go_upto_region 3 with (fail)
  go_loopw [3, 4] (fun v i wr => ∃ k : Nat, k ≤ n ∧ i = .int .i64 k ∧ wr.ownsRow w.heap.size 37 4 v k (cellsL ((E.take k).map (·.2))) ∧ Below w.heap.size w wr) (fun _ i _ => n - (intOf i).toNat)
  case atStart => exact ⟨0, Nat.zero_le _, rfl, by rw [List.take_zero]; exact World.ownsRow_nil _ _ _ _, Below.refl _ _⟩
  case round =>
    obtain ⟨k, hk, rfl, hown, hb⟩ := hrel
    by_cases hlt : k < n
    · have hd : decide (k < n) = true := by simp; omega
      have hd2 : decide ((k : Int) ≤ 100) = true := by simp; omega
      have q1 : (0 : Int) ≤ (k : Int) := by omega
      have q2 : (k : Int) < (n : Int) := by omega
      have hkl : k < E.length := by rw [HN.out]; exact hlt
      obtain ⟨b, o, rfl, e0, e1, e2, e3, e4⟩ := (HE.out.below hb).item hkl
      have HTK := Lib.hid (List.take_succ_eq_append_getElem hkl)
      generalize E[k] = q at *
      obtain ⟨qn, qe⟩ := q
      simp only at e0 e1 e2 e3 e4
      have HOW := Lib.hid hown
      have HB := Lib.hid hb
      have HSZ : Hid (w.heap.size ≤ wr.heap.size) := hb.size
      have HCS : Hid (Cs (wr.alloc (.cells #[.int .i64 qe.t.kind, .int .i64 qe.t.int, .string ⟨qe.t.name.toArray⟩, .slice qe.A qe.t.items.length qe.c] 37)) (some ⟨wr.heap.size, 0, none⟩) qe.cells) := by
        refine .inr ⟨_, rfl, fun j u hj => ?_⟩
        rw [Addr.add_lit, Nat.zero_add, (Blk.new wr 37 _).cell j]
        exact (List.getElem?_toArray ..).trans hj
      clear hown hb hkl
      go_wp2_with (at_builtin; refine wpList_app termT rfl (.tmp 15) (.tmp 21) rfl w.heap.size _ k (cellsL ((E.take k).map (·.2))) rfl (HOW.out.alloc _) (some ⟨wr.heap.size, 0, none⟩) 1 1 qe.cells rfl rfl HCS.out (cells_one qe) (by unfold maxLen; omega) (by omega) (Nat.le_trans HSZ.out (by simp)) ?_; intro v' w3 ho3 hg3 hat3)
      go_roundw
      case rel => exact ⟨k + 1, by omega, by go_num, by rw [HTK.out, List.map_append, cellsL_append, List.map_singleton, cellsL_one]; exact ho3, (HB.out.alloc (Below.size HB.out) _).grown hg3 (Nat.le_trans (Below.size HB.out) (by simp)) (fun j hj => (World.ownsRow.lt HOW.out j hj).1)⟩
      case measure => simp [intOf]; omega
    · obtain rfl : k = n := by omega
      have hd : decide (k < k) = false := by simp
      rw [List.take_of_length_le (by rw [HN.out]; exact Nat.le_refl _)] at hown
      go_wp2
      go_ret
      exact ⟨_, rfl, hown, hb⟩

set_option maxRecDepth 100000 in
set_option maxHeartbeats 4000000 in
theorem smallM_any (w : World) (E : List (BG (TE W))) (A : Option Addr) (c : Nat) (l : List TV) (B : Option Addr) (d : Nat) (hW : Below W.heap.size W w) (hE : RdB w A c E) (hl : RdM W B d l) (hne : ∀ q ∈ E, q.1.length ≤ 140737488351232 ∧ q.2.t.named) (hnl : TV.namedL l) :
    Calls Try.prog 5 #[.slice A E.length c, .slice B l.length d] w fun e w' => e = .returned (.bool (smallB (vE E) l)) ∧ Below w.heap.size w w' := by
  have hlc := hE.1
  have hlc2 := hE.2.1
  have hld := hl.1
  have hld2 := hl.2.1
  have HE := Lib.hid hE
  have HL := Lib.hid hl
  have HNE := Lib.hid hne
  have HTE : Hid (∀ n, E.length = n → n ≤ 100 → ∀ V, Below w.heap.size w V → Calls Try.prog 14 #[.slice A n c] V fun e w' => ∃ A2 c2, e = .returned (.slice A2 n c2) ∧ w'.ownsRow V.heap.size 37 4 (.slice A2 n c2) n (cellsL (E.map (·.2))) ∧ Below V.heap.size V w') := fun n h1 h2 V hb => by
    have := termsM_any V E A c (by omega) (hE.below hb)
    rw [h1] at this
    refine this.mono fun e w' ⟨v, he, ho, hbb⟩ => ?_
    obtain ⟨A2, c2, rfl⟩ := own_shape ho
    exact ⟨A2, c2, he, ho, hbb⟩
  obtain ⟨es, hes, hcs0⟩ := rdm_te hl
  have hcs := csB_below hcs0 hW
  have hnamed : TV.namedL (E.map (·.2.t) ++ l) := by
    refine namedB_of fun t ht => ?_
    rcases List.mem_append.1 ht with ht | ht
    · obtain ⟨q, hq, rfl⟩ := List.mem_map.1 ht
      exact (hne q hq).2
    · exact namedB_mem hnl t ht
  have HNMD := Lib.hid hnamed
  have HES := Lib.hid hes
  have HCS := Lib.hid hcs
  obtain ⟨SB, hSB⟩ : ∃ SB, smallB (vE E) l = SB := ⟨_, rfl⟩
  rw [hSB]
  have HSB := Lib.hid hSB
  obtain ⟨n, hn⟩ : ∃ n, E.length = n := ⟨_, rfl⟩
  obtain ⟨m, hm⟩ : ∃ m, l.length = m := ⟨_, rfl⟩
  have HN := Lib.hid hn
  have HM := Lib.hid hm
  rw [hn] at hlc ⊢
  rw [hm] at hld ⊢
  clear hE hl hne hes hcs hSB hn hm hnamed hnl
  go_enter Try.func5, Try.ntmps5
  go_upto_region 3 with (fail)
  go_loopw [5, 6] (fun s i wr => ∃ k : Nat, k ≤ n ∧ k ≤ 101 ∧ i = .int .i64 k ∧ s = .int .i64 (nsum (E.take k) : Nat) ∧ Below w.heap.size w wr) (fun _ i _ => n - (intOf i).toNat)
  case atStart => exact ⟨0, Nat.zero_le _, Nat.zero_le _, rfl, by rw [List.take_zero]; rfl, Below.refl _ _⟩
  case round =>
    obtain ⟨k, hk, hk1, rfl, rfl, hb⟩ := hrel
    have hnk : nsum (E.take k) ≤ 101 * 140737488351232 := by
      have h1 := nsum_le (B := 140737488351232) fun q (hq : q ∈ E.take k) => (HNE.out q (List.mem_of_mem_take hq)).1
      have h2 : (E.take k).length ≤ 101 := by rw [List.length_take]; omega
      have h3 : (E.take k).length * 140737488351232 ≤ 101 * 140737488351232 := Nat.mul_le_mul_right _ h2
      exact Nat.le_trans h1 h3
    by_cases hlt : k < n ∧ k ≤ 100
    · obtain ⟨hlt, hle⟩ := hlt
      have hd : decide (k < n) = true := by simp; omega
      have hd2 : decide ((k : Int) ≤ 100) = true := by simp; omega
      have q1 : (0 : Int) ≤ (k : Int) := by omega
      have q2 : (k : Int) < (n : Int) := by omega
      have hkl : k < E.length := by rw [HN.out]; exact hlt
      obtain ⟨b, o, rfl, e0, e1, e2, e3, e4⟩ := (HE.out.below hb).item hkl
      have HTK := Lib.hid (nsum_take hkl)
      have hql := (HNE.out _ (List.getElem_mem hkl)).1
      generalize E[k] = q at *
      obtain ⟨qn, qe⟩ := q
      simp only at e0 hql
      obtain ⟨ns, hns⟩ : ∃ ns, nsum (E.take k) = ns := ⟨_, rfl⟩
      rw [hns] at hnk HTK ⊢
      have hwr : IntKind.i64.wrap ((ns : Int) + (qn.length : Int)) = ((ns + qn.length : Nat) : Int) := by rw [IntKind.wrap_i64]; omega
      clear e1 e2 e3 e4 hkl hns
      go_wp2
      go_roundw
      case rel => exact ⟨k + 1, by omega, by omega, by go_num, by rw [HTK.out]; exact rfl, hb⟩
      case measure => simp [intOf]; omega
    · have hex : (k = n ∧ n ≤ 100) ∨ (k = 101 ∧ 101 ≤ n) ∨ (k = n ∧ n = 101) := by omega
      have hguard : decide (k < n) = false ∨ (decide (k < n) = true ∧ decide ((k : Int) ≤ 100) = false) := by
        by_cases h : k < n
        · exact .inr ⟨by simp; omega, by simp; omega⟩
        · exact .inl (by simp; omega)
      by_cases hn100 : n ≤ 100
      rotate_left
      · have d1 : decide ((n : Int) ≤ 100) = false := by simp; omega
        have HF : Hid (SB = false) := by unfold Hid; rw [← HSB.out]; unfold smallB; rw [vE_len, HN.out, decide_eq_false (by omega)]; rfl
        clear hex hlt
        rcases hguard with hd | ⟨hd, hd2⟩
        all_goals
          go_wp2
          go_ret
          exact ⟨by rw [HF.out]; rfl, hb⟩
      obtain rfl : k = n := by omega
      have hd : decide (k < k) = false := by simp
      clear hguard hlt hex
      rw [List.take_of_length_le (by rw [HN.out]; exact Nat.le_refl _)] at hnk ⊢
      have d1 : decide ((k : Int) ≤ 100) = true := by simp; omega
      by_cases hm100 : m ≤ 100
      rotate_left
      · have d2 : decide ((m : Int) ≤ 100) = false := by simp; omega
        have HF : Hid (SB = false) := by unfold Hid; rw [← HSB.out]; unfold smallB; rw [HM.out, decide_eq_false (p := m ≤ 100) (by omega)]; simp
        go_wp2
        go_ret
        exact ⟨by rw [HF.out]; rfl, hb⟩
      have d2 : decide ((m : Int) ≤ 100) = true := by simp; omega
      have hns3 : nsum ((vE E).take 101) = nsum E := by rw [List.take_of_length_le (by rw [vE_len, HN.out]; omega), nsum_vE]
      by_cases h3 : nsum E ≤ 3000
      rotate_left
      · have HF : Hid (SB = false) := by unfold Hid; rw [← HSB.out]; unfold smallB; rw [hns3, decide_eq_false h3]; simp
        generalize nsum E = ns at *
        have d3 : decide ((ns : Int) ≤ 3000) = false := by simp; omega
        clear hns3
        go_wp2
        go_ret
        exact ⟨by rw [HF.out]; rfl, hb⟩
      have HF : Hid (SB = decide (checkP (E.map (·.2.t) ++ l) = 0)) := by
        unfold Hid
        rw [← HSB.out]
        unfold smallB
        rw [hns3, decide_eq_true h3, vE_len, HN.out, HM.out, decide_eq_true hn100, decide_eq_true hm100]
        simp [vE, Function.comp_def]
      have hck : ∃ ck : Nat, checkP (E.map (·.2.t) ++ l) = ck := ⟨_, rfl⟩
      obtain ⟨ck, hck⟩ := hck
      have HCK : Hid (∀ V A3 c3 (fs : List (TE W)), Below W.heap.size W V → fs = E.map (·.2) ++ es → V.ownsRow w.heap.size 37 4 (.slice A3 (k + m) c3) (k + m) (cellsL fs) → Calls Try.prog 12 #[.slice A3 (k + m) c3] V fun e w' => e = .returned (.int .i64 (ck : Nat)) ∧ Below V.heap.size V w') := fun V A3 c3 fs hV hfs ho => by
        have hlf : fs.length = k + m := by rw [hfs, List.length_append, List.length_map, HN.out, ← HM.out, ← HES.out, List.length_map]
        have hmap : fs.map (·.t) = E.map (·.2.t) ++ l := by rw [hfs, List.map_append, List.map_map, HES.out]; rfl
        have hR := rdm_of_own ho hlf hV
        rw [hmap] at hR
        have := rcheck_any (E.map (·.2.t) ++ l) A3 (k + m) c3 V V (by rw [← hmap, List.length_map, hlf]) HNMD.out (Below.refl _ _) hR
        rw [hck] at this
        exact this
      rw [hck] at HF
      have HTM := Lib.hid (HTE.out k HN.out hn100)
      have hel : es.length = m := by rw [← HM.out, ← HES.out, List.length_map]
      have HEL := Lib.hid hel
      have HBW := Lib.hid hb
      have HWW := Lib.hid hW
      generalize nsum E = ns at *
      have d3 : decide ((ns : Int) ≤ 3000) = true := by simp; omega
      clear hns3 hck hel HTE hb
      have hfin : ((ck : Int) == 0) = decide (ck = 0) := by
        by_cases h : ck = 0
        · subst h; rfl
        · rw [decide_eq_false h]; exact beq_eq_false_iff_ne.2 (by omega)
      go_wp2_with (first
        | (go_at_call 14; refine (HTM.out _ HBW.out).mono ?_; rintro e w1 ⟨A2, c2, rfl, ho1, hb1⟩; have HO1 := Lib.hid ho1; have HB1 := Lib.hid (below_step HBW.out hb1); have HSZ1 : Hid (w.heap.size ≤ wr.heap.size) := HBW.out.size; clear ho1 hb1)
        | (at_builtin; (refine wpList_appG termT (by first | rfl | simp [Region.wanted, yielded]) (.tmp 39) (.tmp 40) rfl w.heap.size _ k (cellsL (E.map (·.2))) rfl (own_low HO1.out HSZ1.out) B m d (cellsL es) rfl (by rw [cellsL_len, HEL.out]) (csB_below HCS.out HB1.out) (cellsL_one' es) (by unfold maxLen; omega) (by omega) (HB1.out.size) ?_); intro v3 w3 ho3 hg3 hat3; obtain ⟨A3, c3, rfl⟩ := own_shape ho3; rw [← cellsL_append] at ho3; have HO3 := Lib.hid ho3; have HB3 := Lib.hid (HB1.out.grown hg3 HB1.out.size (fun j hj => Nat.le_trans HSZ1.out (World.ownsRow.lt HO1.out j hj).1)); clear ho3 hg3 hat3)
        | (go_at_call 12; refine (HCK.out _ _ _ _ (below_step HWW.out HB3.out) rfl HO3.out).mono ?_; rintro e w4 ⟨rfl, hb4⟩))
      go_ret
      exact ⟨by rw [HF.out, ← hfin]; rfl, below_step HB3.out hb4⟩
end
end
section
open Go.RowKit
set_option linter.unusedVariables false

theorem names_flat {ps : List (List UInt8)} {B : Nat} : ∀ {f : List UInt8 → List (List UInt8)}, (∀ s, (f s).length ≤ B) → (ps.flatMap f).length ≤ ps.length * B := by
  intro f h
  induction ps with
  | nil => simp
  | cons s r ih =>
    have := h s
    rw [List.flatMap_cons, List.length_append, List.length_cons, Nat.succ_mul]
    omega
section
variable {W : World}
set_option maxRecDepth 100000 in
set_option maxHeartbeats 8000000 in
theorem matchRows_any (ps : List (List UInt8)) (A : Option Addr) (c : Nat) (hc : ps.length ≤ c) (hc2 : c ≤ 9223372036854775807) (hps : RdNm W A ps) (l : List TV) (B : Option Addr) (d : Nat) (hl : RdM W B d l) (hnl : TV.namedL l) (E : List (BG (TE W))) (D : Option Addr) (e : Nat) (hE : RdB W D e E) (hne : ∀ q ∈ E, q.1.length ≤ 140737488351232 ∧ q.2.t.named) :
    Calls Try.prog 3 #[.slice A ps.length c, .slice B l.length d, .slice D E.length e] W fun e w' => e = .returned (.bool true) ∧ Below W.heap.size W w' := by
  have HLV := Lib.hid live_any
  have HSM := Lib.hid (smallM_any W E D e l B d (Below.refl _ _) hE hl hne hnl)
  have hld := hl.1
  have hld2 := hl.2.1
  have hle := hE.1
  have hle2 := hE.2.1
  have HPS := Lib.hid hps
  have HL := Lib.hid hl
  have HE := Lib.hid hE
  obtain ⟨np, hnp⟩ : ∃ np, ps.length = np := ⟨_, rfl⟩
  obtain ⟨nl, hnl2⟩ : ∃ nl, l.length = nl := ⟨_, rfl⟩
  obtain ⟨ne, hne2⟩ : ∃ ne, E.length = ne := ⟨_, rfl⟩
  have HNP := Lib.hid hnp
  have HNL := Lib.hid hnl2
  have HNE := Lib.hid hne2
  rw [hnp] at hc ⊢
  rw [hnl2] at hld HSM ⊢
  rw [hne2] at hle HSM ⊢
  clear hps hl hE hne hnl hnp hnl2 hne2
  by_cases h20 : np ≤ 20
  rotate_left
  · have d1 : decide ((20 : Int) < (np : Int)) = true := by simp; omega
    clear h20
    go_enter Try.func3, Try.ntmps3
    go_wp2_with (go_at_call 6; refine (HLV.out _).mono ?_; rintro r w' ⟨rfl, hb9⟩)
    go_ret
    exact ⟨rfl, hb9⟩
  have d1 : decide ((20 : Int) < (np : Int)) = false := by simp; omega
  cases hsm : smallB (vE E) l with
  | false =>
    rw [hsm] at HSM
    go_enter Try.func3, Try.ntmps3
    go_wp2_with (first
      | (go_at_call 5; refine HSM.out.mono ?_; rintro r w8 ⟨rfl, hb8⟩)
      | (go_at_call 6; refine (HLV.out _).mono ?_; rintro r w' ⟨rfl, hb9⟩))
    go_ret
    exact ⟨rfl, below_step hb8 hb9⟩
  | true =>
  rw [hsm] at HSM
  obtain ⟨s1, s2, s3, s4, s5⟩ := small_yes hsm
  clear hsm
  by_cases hl20 : nl ≤ 20
  rotate_left
  · have d2 : decide ((20 : Int) < (nl : Int)) = true := by simp; omega
    clear hl20
    go_enter Try.func3, Try.ntmps3
    go_wp2_with (first
      | (go_at_call 5; refine HSM.out.mono ?_; rintro r w8 ⟨rfl, hb8⟩)
      | (go_at_call 6; refine (HLV.out _).mono ?_; rintro r w' ⟨rfl, hb9⟩))
    go_ret
    exact ⟨rfl, below_step hb8 hb9⟩
  have d2 : decide ((20 : Int) < (nl : Int)) = false := by simp; omega
  -- the names that may come up
  obtain ⟨K, hK⟩ : ∃ K : List (List UInt8), K = [] :: (E.map (·.1) ++ ps.flatMap namesP) := ⟨_, rfl⟩
  have HKE : Hid (∀ q ∈ E, q.1 ∈ K) := fun q hq => by rw [hK]; exact List.mem_cons_of_mem _ (List.mem_append_left _ (List.mem_map_of_mem hq))
  have HKP : Hid (∀ s ∈ ps, ∀ w ∈ namesP s, w ∈ K) := fun s hs w hw => by rw [hK]; exact List.mem_cons_of_mem _ (List.mem_append_right _ (List.mem_flatMap.2 ⟨s, hs, hw⟩))
  have HK0 : Hid ([] ∈ K) := by unfold Hid; rw [hK]; exact List.mem_cons_self ..
  have HK1 : Hid (∀ s ∈ K, s.length ≤ 1000000) := fun s hs => by
    rw [hK] at hs
    rcases List.mem_cons.1 hs with rfl | hs
    · simp
    rcases List.mem_append.1 hs with hs | hs
    · obtain ⟨q, hq, rfl⟩ := List.mem_map.1 hs
      have := s3 (q.1, q.2.t) (List.mem_map.2 ⟨q, hq, rfl⟩)
      simp only at this
      omega
    · obtain ⟨p, _, hp⟩ := List.mem_flatMap.1 hs
      have := namesP_text p s hp
      omega
  have HK2 : Hid (K.length ≤ 1000000) := by
    unfold Hid
    rw [hK, List.length_cons, List.length_append, List.length_map]
    have h1 := names_flat (ps := ps) (f := namesP) namesP_len
    have h2 : ps.length * 20000 ≤ 20 * 20000 := Nat.mul_le_mul_right _ (by rw [HNP.out]; exact h20)
    rw [vE_len] at s1
    omega
  have HS5 := Lib.hid s5
  clear hK s1 s2 s3 s4 s5
  have q20 : (np : Int) ≤ 20 := by omega
  go_enter Try.func3, Try.ntmps3
  go_upto_region 5 with (go_at_call 5; refine HSM.out.mono ?_; rintro r w8 ⟨rfl, hb8⟩)
  obtain ⟨V0, hV0⟩ : ∃ V0, V0 = w8 := ⟨_, rfl⟩
  rw [← hV0] at hb8 ⊢
  have HB0 := Lib.hid hb8
  clear hV0 hb8 HSM d2
  go_loopw [7, 8] (fun v i wr => ∃ (k : Nat) (xs : List EN), k ≤ np ∧ i = .int .i64 k ∧ xs.length = k ∧ Rw eltN V0.heap.size (fun _ => False) xs v wr ∧ ND.allL (fun s => s ∈ K) (xs.map (fun x : EN => x.t)) ∧ Below V0.heap.size V0 wr) (fun _ i _ => np - (intOf i).toNat)
  case atStart => exact ⟨0, [], Nat.zero_le _, rfl, rfl, Rw.nil_ eltN _ (fun k h => h.elim), by simp [ND.allL], Below.refl _ _⟩
  case round =>
    obtain ⟨k, xs, hk, rfl, hxs, hrow, hnm, hb⟩ := hrel
    obtain ⟨Ar, cr, rfl⟩ := hrow.form
    rw [hxs] at hrow ⊢
    by_cases hlt : k < np
    · have hd : decide (k < np) = true := by simp; omega
      have q1 : (0 : Int) ≤ (k : Int) := by omega
      have q2 : (k : Int) < (np : Int) := by omega
      have hkl : k < ps.length := by rw [HNP.out]; exact hlt
      obtain ⟨b, o, rfl, hcell⟩ : ∃ b o, A = some ⟨b, o, none⟩ ∧ wr.cell? ⟨b, o + k, none⟩ = some (.string ⟨(ps[k]).toArray⟩) := by
        rcases (HPS.out.below (below_step HB0.out hb)) with h | ⟨b, o, hA, h⟩
        · rw [h] at hkl; simp at hkl
        · exact ⟨b, o, hA, h k hkl⟩
      have HPK := Lib.hid (HKP.out _ (List.getElem_mem hkl))
      have HPB : Hid (∀ V, Below wr.heap.size wr V → V.cell? ⟨b, o + k, none⟩ = some (.string ⟨(ps[k]).toArray⟩)) := fun V hV => (hV.cell (World.block_lt_of_cell? wr _ hcell)).trans hcell
      generalize ps[k] = s at *
      obtain ⟨⟨p, pe, pa⟩, hr⟩ := exprP_has s
      have HEX : Hid (Calls Try.prog 7 #[.string ⟨s.toArray⟩] wr (XEnd wr (p, pe, pa))) := expr_any wr s _ hr
      have HNM := Lib.hid (ND.all_mono HPK.out _ (exprP_names hr))
      have HROW := Lib.hid hrow
      have HNMX := Lib.hid hnm
      have HB := Lib.hid hb
      have HXS := Lib.hid hxs
      clear hr HPK hrow hnm hb hxs hkl
      go_upto_region 8 with (go_at_call 7; refine HEX.out.mono ?_; rintro r w9 ⟨x, hx, rfl, hok, hb9⟩; replace hx := Lib.hid hx)
      obtain ⟨b9, hg9⟩ : ∃ b9, w9.heap.size = b9 := ⟨_, rfl⟩
      have H1 : Hid (Below wr.heap.size wr (w9.alloc (.cells #[.int .i64 x.t.kind, .int .i64 x.t.int, .string ⟨x.t.name.toArray⟩, .int .i64 x.t.at_, .slice x.A x.t.kids.length x.c, .slice x.B x.t.clauses.length x.d, .slice x.C x.t.body.length x.e] 30)) ∧ Blk (w9.alloc (.cells #[.int .i64 x.t.kind, .int .i64 x.t.int, .string ⟨x.t.name.toArray⟩, .int .i64 x.t.at_, .slice x.A x.t.kids.length x.c, .slice x.B x.t.clauses.length x.d, .slice x.C x.t.body.length x.e] 30)) b9 30 #[.int .i64 x.t.kind, .int .i64 x.t.int, .string ⟨x.t.name.toArray⟩, .int .i64 x.t.at_, .slice x.A x.t.kids.length x.c, .slice x.B x.t.clauses.length x.d, .slice x.C x.t.body.length x.e] ∧ x.Ok (fun k => k < wr.heap.size) (w9.alloc (.cells #[.int .i64 x.t.kind, .int .i64 x.t.int, .string ⟨x.t.name.toArray⟩, .int .i64 x.t.at_, .slice x.A x.t.kids.length x.c, .slice x.B x.t.clauses.length x.d, .slice x.C x.t.body.length x.e] 30))) := by
        rw [← hg9]
        exact ⟨below_step hb9 (below_alloc _ _), Blk.new _ _ _, hok.below (below_alloc _ _)⟩
      rw [hg9]
      refine wp_world (fun V => Below wr.heap.size wr V ∧ Blk V b9 30 #[.int .i64 x.t.kind, .int .i64 x.t.int, .string ⟨x.t.name.toArray⟩, .int .i64 x.t.at_, .slice x.A x.t.kids.length x.c, .slice x.B x.t.clauses.length x.d, .slice x.C x.t.body.length x.e] ∧ x.Ok (fun k => k < wr.heap.size) V) H1.out ?_
      clear H1 hg9 hok hb9 HEX hcell
      rintro V2 ⟨hb2, hB2, hok2⟩
      have hcell := HPB.out V2 hb2
      have HB2 := Lib.hid hb2
      clear HPB hb2
      by_cases h3 : 3000 < s.length
      · have d3 : decide ((3000 : Int) < (s.length : Int)) = true := by simp; omega
        clear h3
        go_wp2_with (go_at_call 6; refine (HLV.out _).mono ?_; rintro r w' ⟨rfl, hb9⟩)
        go_ret
        exact ⟨rfl, below_step (below_step (below_step HB0.out HB.out) HB2.out) hb9⟩
      have d3 : decide ((3000 : Int) < (s.length : Int)) = false := by simp; omega
      by_cases he : pe = 0
      rotate_left
      · have d4 : (pe != 0) = true := by simpa using he
        clear he h3
        go_wp2_with (go_at_call 6; refine (HLV.out _).mono ?_; rintro r w' ⟨rfl, hb9⟩)
        go_ret
        exact ⟨rfl, below_step (below_step (below_step HB0.out HB.out) HB2.out) hb9⟩
      subst he
      have d4 : ((0 : Int) != 0) = false := by simp
      have z0 := hB2.cell 0
      have z1 := hB2.cell 1
      have z2 := hB2.cell 2
      have z3 := hB2.cell 3
      have z4 := hB2.cell 4
      have z5 := hB2.cell 5
      have z6 := hB2.cell 6
      have HRW2 := Lib.hid (HROW.out.below HB2.out)
      have HOFF := Lib.hid (HROW.out.off (x := x) hok2)
      have HSZ : Hid (V0.heap.size ≤ V2.heap.size) := Nat.le_trans HB.out.size HB2.out.size
      have HCS := Lib.hid (nbx_one (Blk.new V2 30 #[.int .i64 x.t.kind, .int .i64 x.t.int, .string ⟨x.t.name.toArray⟩, .int .i64 x.t.at_, .slice x.A x.t.kids.length x.c, .slice x.B x.t.clauses.length x.d, .slice x.C x.t.body.length x.e]))
      clear hok2 hB2 h3
      go_wp2_with (at_builtin; refine wpList_app nodeT rfl (.tmp 57) (.tmp 59) rfl V0.heap.size _ k (enL xs) rfl (list_own HRW2.out HXS.out) (some ⟨V2.heap.size, 0, none⟩) 1 1 x.cells rfl rfl HCS.out (EN.cells_one x) (by unfold maxLen; omega) (by omega) (Nat.le_trans HSZ.out (by simp)) ?_; intro v' w3 ho3 hg3 hat3)
      go_roundw
      case rel =>
        have hr2 := HRW2.out.below (below_alloc V2 (.cells #[.int .i64 x.t.kind, .int .i64 x.t.int, .string ⟨x.t.name.toArray⟩, .int .i64 x.t.at_, .slice x.A x.t.kids.length x.c, .slice x.B x.t.clauses.length x.d, .slice x.C x.t.body.length x.e] 30))
        have hx2 := HOFF.out.move (.of_below (below_alloc V2 (.cells #[.int .i64 x.t.kind, .int .i64 x.t.int, .string ⟨x.t.name.toArray⟩, .int .i64 x.t.at_, .slice x.A x.t.kids.length x.c, .slice x.B x.t.clauses.length x.d, .slice x.C x.t.body.length x.e] 30)) fun _ _ h => h)
        exact ⟨k + 1, xs ++ [x], by omega, by go_num, by simp [HXS.out], hr2.push hx2 (by rw [HXS.out]; exact ho3) hg3 hat3, by rw [List.map_append]; exact ndall_append.2 ⟨HNMX.out, by simp only [List.map_cons, List.map_nil, ND.allL, and_true]; rw [hx.out]; exact HNM.out⟩, (below_step (below_step HB.out HB2.out) (below_alloc V2 _)).grown hg3 (Nat.le_trans HSZ.out (by simp)) (fun j hj => (World.ownsRow.lt HRW2.out.own j hj).1)⟩
      case measure => simp [intOf]; omega
    · obtain rfl : k = np := by omega
      have hd : decide (k < k) = false := by simp
      have hR := hrow.rdn hxs
      have HBL := Lib.hid (below_step HB0.out hb)
      have HALL : Hid (Calls Try.prog 8 #[.slice Ar k cr, .slice B nl d, .slice D ne e] wr (AllEnd wr (allP (xs.map (fun x : EN => x.t)) l (vE E)))) := by
        have := mall_any (K := K) keys_ok sorted_ok wr (xs.map (fun x : EN => x.t)) l (upE HBL.out E) Ar B D cr d e hR (HL.out.below HBL.out) ((HE.out.below HBL.out).up HBL.out) hnm HS5.out (upE_names HBL.out HKE.out) HK1.out HK2.out
        rw [upE_len, vE_up, List.length_map, hxs, HNL.out, HNE.out] at this
        exact this
      have HMT : Hid (∀ V, Below wr.heap.size wr V → Calls Try.prog 9 #[.agg #[.int .i64 4, .int .i64 0, .string ⟨#[]⟩, .int .i64 0, .slice Ar k cr, .slice none 0 0, .slice none 0 0], .agg #[.int .i64 6, .int .i64 0, .string ⟨#[]⟩, .slice B nl d], .slice D ne e] V (AllEnd V (allP (xs.map (fun x : EN => x.t)) l (vE E)))) := fun V hV => by
        have hbv := below_step HBL.out hV
        have := pmatch_any (K := K) V ⟨.mk 4 0 [] 0 (xs.map (fun x : EN => x.t)) [] [], Ar, cr, none, 0, none, 0⟩ ⟨.mk 6 0 [] l, B, d, HL.out.below hbv⟩ (upE hbv E) D e ⟨hR.below hV, RdC.nil_ _ _ _ (Nat.zero_le _), RdN.nil_ _ _ _ (Nat.zero_le _)⟩ ((HE.out.below hbv).up hbv) (by
          simp only [ND.all]
          exact ⟨HK0.out, hnm, call_nil, all_nil⟩) (by simp only [TV.isT, HS5.out, Bool.and_true]; simp [headB]) (upE_names hbv HKE.out) HK1.out HK2.out
        rw [← allP_tuple, upE_len, vE_up] at this
        simp only [ND.kids, TV.items, ND.kind, ND.int, ND.name, ND.at_, ND.clauses, ND.body, TV.kind, TV.int, TV.name, List.length_map, hxs, HNL.out, HNE.out, List.length_nil] at this
        exact this
      obtain ⟨R, hRR⟩ : ∃ R, allP (xs.map (fun x : EN => x.t)) l (vE E) = R := ⟨_, rfl⟩
      rw [hRR] at HALL HMT
      clear hRR hR hrow hnm hb hxs
      go_upto_region 12 with (go_at_call 8; refine HALL.out.mono ?_; rintro r w9 ⟨A9, c9, E9, rfl, h9, hR9, hb9⟩)
      have H9 := Lib.hid h9
      have HR9 := Lib.hid hR9
      clear h9 hR9 HALL
      go_upto_region 13 with (first
        | (go_at_call 10; refine (ttuple_any _ _ _ _).mono ?_; rintro r w10 ⟨rfl, hb10⟩)
        | (go_at_call 9; refine (HMT.out _ (below_step hb9 hb10)).mono ?_; rintro r w11 ⟨A11, c11, E11, rfl, h11, hR11, hb11⟩))
      have HSS : Hid (Calls Try.prog 11 #[.slice A9 E9.length c9, .slice A11 E11.length c11] w11 fun e w' => e = .returned (.bool true) ∧ Below w11.heap.size w11 w') := by
        have hb := below_step hb10 hb11
        have := rsame_any w11 w11 (upE hb E9) E11 A9 A11 c9 c11 (Below.refl _ _) ((HR9.out.below hb).up hb) hR11
        rw [upE_len, vE_up, H9.out, h11, sameB_self] at this
        exact this
      have HBF := Lib.hid (below_step (below_step (below_step HBL.out hb9) hb10) hb11)
      clear hR11 h11 HR9 H9 HMT hb9 hb10 hb11
      generalize E9.length = n9 at *
      generalize E11.length = n11 at *
      generalize R.isSome = ok at *
      cases ok
      all_goals
        go_wp2_with (first
          | (go_at_call 11; refine HSS.out.mono ?_; rintro r w12 ⟨rfl, hb12⟩)
          | (go_at_call 6; refine (HLV.out _).mono ?_; rintro r w' ⟨rfl, hb13⟩))
        go_ret
        exact ⟨rfl, below_step (below_step HBF.out hb12) hb13⟩
end
end
end Go.Proofs.Ytmpknhdfglbocaa
