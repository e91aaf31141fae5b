/- Layer 13: the walks of the law's terms and small. Written by mageno.py. -/
import Derived.Test.YtmpknhdfglbocaaGreatMaH
import Derived.Test.YtmpknhdfglbocaaGreatTermY
import Derived.Test.YtmpknhdfglbocaaGreatMaK
namespace Go.Proofs.YtmpknhdfglbocaaGreat
open Go.RowKit
set_option linter.unusedVariables false

/-- append, behind '&&'. -/
theorem wpList_appG {P : Program} {w : World} {ops : Array Oper} {rest : List Oper} {o : Oper} {a : Act} {Q : Exit → Act → World → Prop} {t e : TypeId} {z : Value} {size bytes : Nat} (T : ElT P t e z size bytes) (hgd : Region.wanted o (yielded ops a.tmps) = true) (s x : Operand)
    (ho : o.op = .call { callee := .builtin .append, args := #[s, x], argTypes := #[t, t] }) (base : Nat)
    (v : Value) (n : Nat) (xs : List Value) (hs : a.eval s = v) (hown : w.ownsRow base e size v n xs) (A : Option Addr) (m c : Nat) (news : List Value) (hx : a.eval x = .slice A m c) (hl : news.length = m * size) (hnews : Cs w A news)
    (h1 : ∀ u ∈ news, u.oneCell' = true) (h63 : n + m ≤ maxLen) (hbytes : (n + m) * bytes ≤ 140737488355328) (hbase : base ≤ w.heap.size)
    (h : ∀ v' w', w'.ownsRow base e size v' (n + m) (xs ++ news) → w.grownBy w' v.ownBlock → (v'.ownBlock = v.ownBlock ∨ v'.ownBlock = some w.heap.size) → wpList P ops Q rest (a.put o.dst v') w') :
    wpList P ops Q (o :: rest) a w := by
  refine wpList_step fun K hK => ?_
  rw [if_pos hgd]
  obtain ⟨v', w', hr, h2, h3, h4⟩ := run_append_cs (P := P) w T o.type base v n xs hown A m c news hl hnews h1 h63 hbytes hbase
  unfold Oper.wp execOp
  simp only [ho, resolve, invoke, builtin, Sem.run_bind, Sem.run_pure, Result.andThen_ok, List.map_toArray, List.map_cons, List.map_nil, hs, hx, hr]
  exact hK _ _ (h v' w' h2 h3 h4)
theorem csB_below {W V : World} {A : Option Addr} {cs : List Value} (h : Cs W A cs) (hb : Below W.heap.size W V) : Cs V A cs := by
  rcases h with h0 | ⟨b, e, hcell⟩
  · exact .inl h0
  · exact .inr ⟨b, e, fun j w hj => (hb.cell (World.block_lt_of_cell? W _ (hcell j w hj))).trans (hcell j w hj)⟩
theorem namedB_of : ∀ {l : List TV}, (∀ t ∈ l, t.named) → TV.namedL l
  | [], _ => by simp [TV.namedL]
  | t :: r, h => by
    simp only [TV.namedL]
    exact ⟨h t (List.mem_cons_self ..), namedB_of fun u hu => h u (List.mem_cons_of_mem _ hu)⟩
theorem namedB_mem : ∀ {l : List TV}, TV.namedL l → ∀ t ∈ l, t.named
  | [], _, _, h => by simp at h
  | u :: r, hn, t, h => by
    simp only [TV.namedL] at hn
    rcases List.mem_cons.1 h with rfl | h
    · exact hn.1
    · exact namedB_mem hn.2 t h
/-- How many bytes names have together. -/
def nsum {α : Type} : List (BG α) → Nat
  | [] => 0
  | q :: r => q.1.length + nsum r
theorem nsum_append {α : Type} (E F : List (BG α)) : nsum (E ++ F) = nsum E + nsum F := by
  induction E with
  | nil => simp [nsum]
  | cons q r ih => simp only [List.cons_append, nsum, ih]; omega
theorem nsum_take {α : Type} {E : List (BG α)} {k : Nat} (h : k < E.length) : nsum (E.take (k + 1)) = nsum (E.take k) + E[k].1.length := by
  rw [List.take_succ_eq_append_getElem h, nsum_append]
  simp [nsum]
theorem nsum_le {α : Type} {B : Nat} : ∀ {E : List (BG α)}, (∀ q ∈ E, q.1.length ≤ B) → nsum E ≤ E.length * B
  | [], _ => by simp [nsum]
  | q :: r, h => by
    have h1 := h q (List.mem_cons_self ..)
    have h2 := nsum_le (B := B) fun p (hp : p ∈ r) => h p (List.mem_cons_of_mem _ hp)
    simp only [nsum, List.length_cons, Nat.succ_mul]
    omega
theorem nsum_at {α : Type} : ∀ {E : List (BG α)} {q : BG α}, q ∈ E → q.1.length ≤ nsum E
  | p :: r, q, h => by
    simp only [nsum]
    rcases List.mem_cons.1 h with rfl | h
    · omega
    · have := nsum_at h; omega
/-- Is it small enough to be asked of? -/
def smallB (E : List BV) (l : List TV) : Bool := decide (E.length ≤ 100) && (decide (l.length ≤ 100) && (decide (nsum (E.take 101) ≤ 3000) && decide (checkP (E.map (·.2) ++ l) = 0)))
theorem nsum_vE {w0 : World} (E : List (BG (TE w0))) : nsum (vE E) = nsum E := by
  induction E with
  | nil => rfl
  | cons q r ih => exact congrArg (q.1.length + ·) ih
theorem isL_split {l m : List TV} (h : TV.isL (l ++ m) = true) : TV.isL l = true ∧ TV.isL m = true := by rw [isL_append, Bool.and_eq_true] at h; exact h
/-- What is small. -/
theorem small_yes {E : List BV} {l : List TV} (h : smallB E l = true) : E.length ≤ 100 ∧ l.length ≤ 100 ∧ (∀ q ∈ E, q.1.length ≤ 3000) ∧ TV.isL (E.map (·.2)) = true ∧ TV.isL l = true := by
  unfold smallB at h
  simp only [Bool.and_eq_true, decide_eq_true_eq] at h
  obtain ⟨h1, h2, h3, h4⟩ := h
  rw [List.take_of_length_le (by omega)] at h3
  have h5 : TV.isL (E.map (·.2) ++ l) = true := by
    unfold checkP at h4
    split at h4
    · split at h4
      · assumption
      · omega
    · omega
  exact ⟨h1, h2, fun q hq => Nat.le_trans (nsum_at hq) h3, isL_split h5⟩

section
variable {W : World}
set_option maxRecDepth 100000 in
set_option maxHeartbeats 2000000 in
theorem termsM_any (w : World) (E : List (BG (TE W))) (A : Option Addr) (c : Nat) (hlen : E.length ≤ 100) (hE : RdB w A c E) :
    Calls Tryz.prog 19 #[.slice A E.length c] w fun e w' => ∃ v, e = .returned v ∧ w'.ownsRow w.heap.size 35 4 v E.length (cellsL (E.map (·.2))) ∧ Below w.heap.size w w' := by
  have hlc := hE.1
  have hlc2 := hE.2.1
  have HE := Lib.hid hE
  obtain ⟨n, hn⟩ : ∃ n, E.length = n := ⟨_, rfl⟩
  have HN := Lib.hid hn
  rw [hn] at hlc hlen ⊢
  clear hE hn
  go_enter Tryz.func19, Tryz.ntmps19
  go_upto_region 3 with (fail)
  go_loopw [3, 4] (fun v i wr => ∃ k : Nat, k ≤ n ∧ i = .int .i64 k ∧ wr.ownsRow w.heap.size 35 4 v k (cellsL ((E.take k).map (·.2))) ∧ Below w.heap.size w wr) (fun _ i _ => n - (intOf i).toNat)
  case atStart => exact ⟨0, Nat.zero_le _, rfl, by rw [List.take_zero]; exact World.ownsRow_nil _ _ _ _, Below.refl _ _⟩
  case round =>
    obtain ⟨k, hk, rfl, hown, hb⟩ := hrel
    by_cases hlt : k < n
    · have hd : decide (k < n) = true := by simp; omega
      have hd2 : decide ((k : Int) ≤ 100) = true := by simp; omega
      have q1 : (0 : Int) ≤ (k : Int) := by omega
      have q2 : (k : Int) < (n : Int) := by omega
      have hkl : k < E.length := by rw [HN.out]; exact hlt
      obtain ⟨b, o, rfl, e0, e1, e2, e3, e4⟩ := (HE.out.below hb).item hkl
      have HTK := Lib.hid (List.take_succ_eq_append_getElem hkl)
      generalize E[k] = q at *
      obtain ⟨qn, qe⟩ := q
      simp only at e0 e1 e2 e3 e4
      have HOW := Lib.hid hown
      have HB := Lib.hid hb
      have HSZ : Hid (w.heap.size ≤ wr.heap.size) := hb.size
      have HCS : Hid (Cs (wr.alloc (.cells #[.int .i64 qe.t.kind, .int .i64 qe.t.int, .string ⟨qe.t.name.toArray⟩, .slice qe.A qe.t.items.length qe.c] 35)) (some ⟨wr.heap.size, 0, none⟩) qe.cells) := by
        refine .inr ⟨_, rfl, fun j u hj => ?_⟩
        rw [Addr.add_lit, Nat.zero_add, (Blk.new wr 35 _).cell j]
        exact (List.getElem?_toArray ..).trans hj
      clear hown hb hkl
      go_wp2_with (at_builtin; refine wpList_app termT rfl (.tmp 15) (.tmp 21) rfl w.heap.size _ k (cellsL ((E.take k).map (·.2))) rfl (HOW.out.alloc _) (some ⟨wr.heap.size, 0, none⟩) 1 1 qe.cells rfl rfl HCS.out (cells_one qe) (by unfold maxLen; omega) (by omega) (Nat.le_trans HSZ.out (by simp)) ?_; intro v' w3 ho3 hg3 hat3)
      go_roundw
      case rel => exact ⟨k + 1, by omega, by go_num, by rw [HTK.out, List.map_append, cellsL_append, List.map_singleton, cellsL_one]; exact ho3, (HB.out.alloc (Below.size HB.out) _).grown hg3 (Nat.le_trans (Below.size HB.out) (by simp)) (fun j hj => (World.ownsRow.lt HOW.out j hj).1)⟩
      case measure => simp [intOf]; omega
    · obtain rfl : k = n := by omega
      have hd : decide (k < k) = false := by simp
      rw [List.take_of_length_le (by rw [HN.out]; exact Nat.le_refl _)] at hown
      go_wp2
      go_ret
      exact ⟨_, rfl, hown, hb⟩

set_option maxRecDepth 100000 in
set_option maxHeartbeats 4000000 in
theorem smallM_any (w : World) (E : List (BG (TE W))) (A : Option Addr) (c : Nat) (l : List TV) (B : Option Addr) (d : Nat) (hW : Below W.heap.size W w) (hE : RdB w A c E) (hl : RdM W B d l) (hne : ∀ q ∈ E, q.1.length ≤ 140737488351232 ∧ q.2.t.named) (hnl : TV.namedL l) :
    Calls Tryz.prog 5 #[.slice A E.length c, .slice B l.length d] w fun e w' => e = .returned (.bool (smallB (vE E) l)) ∧ Below w.heap.size w w' := by
  have hlc := hE.1
  have hlc2 := hE.2.1
  have hld := hl.1
  have hld2 := hl.2.1
  have HE := Lib.hid hE
  have HL := Lib.hid hl
  have HNE := Lib.hid hne
  have HTE : Hid (∀ n, E.length = n → n ≤ 100 → ∀ V, Below w.heap.size w V → Calls Tryz.prog 19 #[.slice A n c] V fun e w' => ∃ A2 c2, e = .returned (.slice A2 n c2) ∧ w'.ownsRow V.heap.size 35 4 (.slice A2 n c2) n (cellsL (E.map (·.2))) ∧ Below V.heap.size V w') := fun n h1 h2 V hb => by
    have := termsM_any V E A c (by omega) (hE.below hb)
    rw [h1] at this
    refine this.mono fun e w' ⟨v, he, ho, hbb⟩ => ?_
    obtain ⟨A2, c2, rfl⟩ := own_shape ho
    exact ⟨A2, c2, he, ho, hbb⟩
  obtain ⟨es, hes, hcs0⟩ := rdm_te hl
  have hcs := csB_below hcs0 hW
  have hnamed : TV.namedL (E.map (·.2.t) ++ l) := by
    refine namedB_of fun t ht => ?_
    rcases List.mem_append.1 ht with ht | ht
    · obtain ⟨q, hq, rfl⟩ := List.mem_map.1 ht
      exact (hne q hq).2
    · exact namedB_mem hnl t ht
  have HNMD := Lib.hid hnamed
  have HES := Lib.hid hes
  have HCS := Lib.hid hcs
  obtain ⟨SB, hSB⟩ : ∃ SB, smallB (vE E) l = SB := ⟨_, rfl⟩
  rw [hSB]
  have HSB := Lib.hid hSB
  obtain ⟨n, hn⟩ : ∃ n, E.length = n := ⟨_, rfl⟩
  obtain ⟨m, hm⟩ : ∃ m, l.length = m := ⟨_, rfl⟩
  have HN := Lib.hid hn
  have HM := Lib.hid hm
  rw [hn] at hlc ⊢
  rw [hm] at hld ⊢
  clear hE hl hne hes hcs hSB hn hm hnamed hnl
  go_enter Tryz.func5, Tryz.ntmps5
  go_upto_region 3 with (fail)
  go_loopw [5, 6] (fun s i wr => ∃ k : Nat, k ≤ n ∧ k ≤ 101 ∧ i = .int .i64 k ∧ s = .int .i64 (nsum (E.take k) : Nat) ∧ Below w.heap.size w wr) (fun _ i _ => n - (intOf i).toNat)
  case atStart => exact ⟨0, Nat.zero_le _, Nat.zero_le _, rfl, by rw [List.take_zero]; rfl, Below.refl _ _⟩
  case round =>
    obtain ⟨k, hk, hk1, rfl, rfl, hb⟩ := hrel
    have hnk : nsum (E.take k) ≤ 101 * 140737488351232 := by
      have h1 := nsum_le (B := 140737488351232) fun q (hq : q ∈ E.take k) => (HNE.out q (List.mem_of_mem_take hq)).1
      have h2 : (E.take k).length ≤ 101 := by rw [List.length_take]; omega
      have h3 : (E.take k).length * 140737488351232 ≤ 101 * 140737488351232 := Nat.mul_le_mul_right _ h2
      exact Nat.le_trans h1 h3
    by_cases hlt : k < n ∧ k ≤ 100
    · obtain ⟨hlt, hle⟩ := hlt
      have hd : decide (k < n) = true := by simp; omega
      have hd2 : decide ((k : Int) ≤ 100) = true := by simp; omega
      have q1 : (0 : Int) ≤ (k : Int) := by omega
      have q2 : (k : Int) < (n : Int) := by omega
      have hkl : k < E.length := by rw [HN.out]; exact hlt
      obtain ⟨b, o, rfl, e0, e1, e2, e3, e4⟩ := (HE.out.below hb).item hkl
      have HTK := Lib.hid (nsum_take hkl)
      have hql := (HNE.out _ (List.getElem_mem hkl)).1
      generalize E[k] = q at *
      obtain ⟨qn, qe⟩ := q
      simp only at e0 hql
      obtain ⟨ns, hns⟩ : ∃ ns, nsum (E.take k) = ns := ⟨_, rfl⟩
      rw [hns] at hnk HTK ⊢
      have hwr : IntKind.i64.wrap ((ns : Int) + (qn.length : Int)) = ((ns + qn.length : Nat) : Int) := by rw [IntKind.wrap_i64]; omega
      clear e1 e2 e3 e4 hkl hns
      go_wp2
      go_roundw
      case rel => exact ⟨k + 1, by omega, by omega, by go_num, by rw [HTK.out]; exact rfl, hb⟩
      case measure => simp [intOf]; omega
    · have hex : (k = n ∧ n ≤ 100) ∨ (k = 101 ∧ 101 ≤ n) ∨ (k = n ∧ n = 101) := by omega
      have hguard : decide (k < n) = false ∨ (decide (k < n) = true ∧ decide ((k : Int) ≤ 100) = false) := by
        by_cases h : k < n
        · exact .inr ⟨by simp; omega, by simp; omega⟩
        · exact .inl (by simp; omega)
      by_cases hn100 : n ≤ 100
      rotate_left
      · have d1 : decide ((n : Int) ≤ 100) = false := by simp; omega
        have HF : Hid (SB = false) := by unfold Hid; rw [← HSB.out]; unfold smallB; rw [vE_len, HN.out, decide_eq_false (by omega)]; rfl
        clear hex hlt
        rcases hguard with hd | ⟨hd, hd2⟩
        all_goals
          go_wp2
          go_ret
          exact ⟨by rw [HF.out]; rfl, hb⟩
      obtain rfl : k = n := by omega
      have hd : decide (k < k) = false := by simp
      clear hguard hlt hex
      rw [List.take_of_length_le (by rw [HN.out]; exact Nat.le_refl _)] at hnk ⊢
      have d1 : decide ((k : Int) ≤ 100) = true := by simp; omega
      by_cases hm100 : m ≤ 100
      rotate_left
      · have d2 : decide ((m : Int) ≤ 100) = false := by simp; omega
        have HF : Hid (SB = false) := by unfold Hid; rw [← HSB.out]; unfold smallB; rw [HM.out, decide_eq_false (p := m ≤ 100) (by omega)]; simp
        go_wp2
        go_ret
        exact ⟨by rw [HF.out]; rfl, hb⟩
      have d2 : decide ((m : Int) ≤ 100) = true := by simp; omega
      have hns3 : nsum ((vE E).take 101) = nsum E := by rw [List.take_of_length_le (by rw [vE_len, HN.out]; omega), nsum_vE]
      by_cases h3 : nsum E ≤ 3000
      rotate_left
      · have HF : Hid (SB = false) := by unfold Hid; rw [← HSB.out]; unfold smallB; rw [hns3, decide_eq_false h3]; simp
        generalize nsum E = ns at *
        have d3 : decide ((ns : Int) ≤ 3000) = false := by simp; omega
        clear hns3
        go_wp2
        go_ret
        exact ⟨by rw [HF.out]; rfl, hb⟩
      have HF : Hid (SB = decide (checkP (E.map (·.2.t) ++ l) = 0)) := by
        unfold Hid
        rw [← HSB.out]
        unfold smallB
        rw [hns3, decide_eq_true h3, vE_len, HN.out, HM.out, decide_eq_true hn100, decide_eq_true hm100]
        simp [vE, Function.comp_def]
      have hck : ∃ ck : Nat, checkP (E.map (·.2.t) ++ l) = ck := ⟨_, rfl⟩
      obtain ⟨ck, hck⟩ := hck
      have HCK : Hid (∀ V A3 c3 (fs : List (TE W)), Below W.heap.size W V → fs = E.map (·.2) ++ es → V.ownsRow w.heap.size 35 4 (.slice A3 (k + m) c3) (k + m) (cellsL fs) → Calls Tryz.prog 16 #[.slice A3 (k + m) c3] V fun e w' => e = .returned (.int .i64 (ck : Nat)) ∧ Below V.heap.size V w') := fun V A3 c3 fs hV hfs ho => by
        have hlf : fs.length = k + m := by rw [hfs, List.length_append, List.length_map, HN.out, ← HM.out, ← HES.out, List.length_map]
        have hmap : fs.map (·.t) = E.map (·.2.t) ++ l := by rw [hfs, List.map_append, List.map_map, HES.out]; rfl
        have hR := rdm_of_own ho hlf hV
        rw [hmap] at hR
        have := rcheck_any (E.map (·.2.t) ++ l) A3 (k + m) c3 V V (by rw [← hmap, List.length_map, hlf]) HNMD.out (Below.refl _ _) hR
        rw [hck] at this
        exact this
      rw [hck] at HF
      have HTM := Lib.hid (HTE.out k HN.out hn100)
      have hel : es.length = m := by rw [← HM.out, ← HES.out, List.length_map]
      have HEL := Lib.hid hel
      have HBW := Lib.hid hb
      have HWW := Lib.hid hW
      generalize nsum E = ns at *
      have d3 : decide ((ns : Int) ≤ 3000) = true := by simp; omega
      clear hns3 hck hel HTE hb
      have hfin : ((ck : Int) == 0) = decide (ck = 0) := by
        by_cases h : ck = 0
        · subst h; rfl
        · rw [decide_eq_false h]; exact beq_eq_false_iff_ne.2 (by omega)
      go_wp2_with (first
        | (go_at_call 19; refine (HTM.out _ HBW.out).mono ?_; rintro e w1 ⟨A2, c2, rfl, ho1, hb1⟩; have HO1 := Lib.hid ho1; have HB1 := Lib.hid (below_step HBW.out hb1); have HSZ1 : Hid (w.heap.size ≤ wr.heap.size) := HBW.out.size; clear ho1 hb1)
        | (at_builtin; (refine wpList_appG termT (by first | rfl | simp [Region.wanted, yielded]) (.tmp 39) (.tmp 40) rfl w.heap.size _ k (cellsL (E.map (·.2))) rfl (own_low HO1.out HSZ1.out) B m d (cellsL es) rfl (by rw [cellsL_len, HEL.out]) (csB_below HCS.out HB1.out) (cellsL_one' es) (by unfold maxLen; omega) (by omega) (HB1.out.size) ?_); intro v3 w3 ho3 hg3 hat3; obtain ⟨A3, c3, rfl⟩ := own_shape ho3; rw [← cellsL_append] at ho3; have HO3 := Lib.hid ho3; have HB3 := Lib.hid (HB1.out.grown hg3 HB1.out.size (fun j hj => Nat.le_trans HSZ1.out (World.ownsRow.lt HO1.out j hj).1)); clear ho3 hg3 hat3)
        | (go_at_call 16; refine (HCK.out _ _ _ _ (below_step HWW.out HB3.out) rfl HO3.out).mono ?_; rintro e w4 ⟨rfl, hb4⟩))
      go_ret
      exact ⟨by rw [HF.out, ← hfin]; rfl, below_step HB3.out hb4⟩
end
end Go.Proofs.YtmpknhdfglbocaaGreat
