/- A region that draws its order: a held condition that need stand only till one operation (the last store) has come up. No program is named here. -/
import Derived.Test.YthhindnjnijglaaBase
import Derived.OrdersHeld
import Derived.Deep.RegionHeld
namespace Go.Proofs.Ythhindnjnijglaa
open Go.RowKit
set_option linter.unusedVariables false

section
variable {P : Program} {ops : Array Oper} {Q : Exit → Act → World → Prop} {md : Region.Mode} {S : World → Prop} {s : Nat}

/-- Whatever order is picked from here on; S stands behind every operation till number s has come up. -/
def wpAnyW (P : Program) (md : Region.Mode) (ops : Array Oper) (Q : Exit → Act → World → Prop) (s : Nat) (S : World → Prop) : Nat → Array Bool → Act → World → Prop
  | 0, listed, a, w => Region.ready md ops listed = [] ∧ Q .normal a w
  | fuel + 1, listed, a, w =>
    (Region.ready md ops listed = [] → Q .normal a w) ∧
    ∀ i ∈ Region.ready md ops listed, wpOp P ops Q i (fun a' w' => ((listed.setIfInBounds i true).getD s true = false → S w') ∧ wpAnyW P md ops Q s S fuel (listed.setIfInBounds i true) a' w') a w

theorem wpAny_of_W : ∀ (fuel : Nat) (listed : Array Bool) (a : Act) (w : World), wpAnyW P md ops Q s S fuel listed a w → wpAny P md ops Q fuel listed a w
  | 0, _, _, _, h => h
  | fuel + 1, _, _, _, h => ⟨h.1, fun i hi => wpOp_mono (fun a' w' h' => wpAny_of_W fuel _ a' w' h'.2) (h.2 i hi)⟩

/-- The operations that wait for number i, directly or through others. -/
def descs (md : Region.Mode) (ops : Array Oper) (i : Nat) : List Nat :=
  (List.range ops.size).foldl (fun acc j => if ((ops[j]?).map (fun o => o.after.any fun e => Region.binds md e && (e.on == i || acc.contains e.on))).getD false then j :: acc else acc) []
/-- Each of B waits for i or for one of B; s is among them; none has come up. -/
def chainB (md : Region.Mode) (ops : Array Oper) (i : Nat) (B : List Nat) (s : Nat) (listed : Array Bool) : Bool :=
  B.contains s && B.all fun b => !listed.getD b true && ((ops[b]?).map (fun o => o.after.any fun e => Region.binds md e && (e.on == i || B.contains e.on))).getD false

theorem chainB_spec {i : Nat} {B : List Nat} {listed : Array Bool} (h : chainB md ops i B s listed = true) : s ∈ B ∧ ∀ b ∈ B, listed.getD b true = false ∧ ∃ o, ops[b]? = some o ∧ ∃ e ∈ o.after, Region.binds md e = true ∧ (e.on = i ∨ e.on ∈ B) := by
  unfold chainB at h
  simp only [Bool.and_eq_true, List.all_eq_true, Bool.not_eq_true'] at h
  refine ⟨by simpa using h.1, fun b hb => ⟨(h.2 b hb).1, ?_⟩⟩
  have h2 := (h.2 b hb).2
  cases ho : ops[b]? with
  | none => rw [ho] at h2; simp at h2
  | some o =>
    rw [ho] at h2
    simp only [Option.map_some, Option.getD_some] at h2
    obtain ⟨e, he, hb2⟩ := Array.any_eq_true'.1 h2
    simp only [Bool.and_eq_true, Bool.or_eq_true, beq_iff_eq, List.contains_iff_mem] at hb2
    exact ⟨o, rfl, e, he, hb2.1, hb2.2⟩

theorem not_ready_of_chain {i j : Nat} {B : List Nat} {listed : Array Bool} (hun : ∀ b ∈ B, listed.getD b true = false ∧ ∃ o, ops[b]? = some o ∧ ∃ e ∈ o.after, Region.binds md e = true ∧ (e.on = i ∨ e.on ∈ B)) (hi : listed.getD i true = false) (hj : j ∈ Region.ready md ops listed) : j ∉ B := fun hjB => by
  obtain ⟨_, o, ho, e, he, hb, hon⟩ := hun j hjB
  obtain ⟨_, o', ho', hall⟩ := mem_ready.1 hj
  obtain rfl : o = o' := by rw [ho] at ho'; exact Option.some.inj ho'
  have h1 := hall e he hb
  have h0 : listed.getD e.on true = false := by
    rcases hon with h | h
    · rw [h]; exact hi
    · exact (hun _ h).1
  rcases Nat.lt_or_ge e.on listed.size with h' | h'
  · simp [h'] at h0 h1; rw [h0] at h1; cases h1
  · simp [Array.getElem?_eq_none h'] at h1

theorem wpAnyW_first {i : Nat} {oi : Oper} {v : Value} {B : List Nat} (hi : ops[i]? = some oi) (hsel : ∀ (j : Nat) (o : Oper) cs b, ops[j]? = some o → o.op ≠ .select cs b)
    (hQ : ∀ c a w, Q (.panic c) (a.put oi.dst v) w → Q (.panic c) a w) (hsB : s ∈ B) :
    ∀ (fuel : Nat) (listed : Array Bool) (a : Act) (w : World),
      (∀ j oj, ops[j]? = some oj → j ≠ i → listed.getD j true = false → (∀ e ∈ oj.after, Region.binds md e = true → e.on ≠ i) → oi.apart ops oj = true) →
      (∀ b ∈ B, listed.getD b true = false ∧ ∃ o, ops[b]? = some o ∧ ∃ e ∈ o.after, Region.binds md e = true ∧ (e.on = i ∨ e.on ∈ B)) →
      i ∈ Region.ready md ops listed → YieldsIf P ops S oi v a → S w →
      wpAnyW P md ops Q s S fuel (listed.setIfInBounds i true) (a.put oi.dst v) w → wpAnyW P md ops Q s S (fuel + 1) listed a w := by
  intro fuel
  induction fuel with
  | zero =>
    intro listed a w _ hun hr hy hS H
    refine ⟨fun h => (by rw [h] at hr; cases hr), fun j hj => ?_⟩
    by_cases hji : j = i
    · subst hji; exact hy.wpOp hi hS ⟨fun _ => hS, H⟩
    · have := ready_mono hj hji
      rw [H.1] at this
      cases this
  | succ fuel ih =>
    intro listed a w hfree hun hr hy hS H
    have hiu := (mem_ready.1 hr).1
    have hsi : s ≠ i := fun e => not_ready_of_chain hun hiu hr (e ▸ hsB)
    refine ⟨fun h => (by rw [h] at hr; cases hr), fun j hj => ?_⟩
    by_cases hji : j = i
    · subst hji; exact hy.wpOp hi hS ⟨fun _ => hS, H⟩
    · have h1 := H.2 j (ready_mono hj hji)
      have hjB := not_ready_of_chain hun hiu hj
      obtain ⟨hjun, oj, hoj, hall⟩ := mem_ready.1 hj
      have hnot : ∀ e ∈ oj.after, Region.binds md e = true → e.on ≠ i := fun e he hb heq => by
        have h1 := hall e he hb
        have h0 := hiu
        rw [heq] at h1
        rcases Nat.lt_or_ge i listed.size with h' | h'
        · simp [h'] at h0 h1; rw [h0] at h1; cases h1
        · simp [Array.getElem?_eq_none h'] at h1
      have h2 := wpOp_putIf hoj (hfree j oj hoj hji hjun hnot) (fun cs b => hsel i oi cs b hi) (fun cs b => hsel j oj cs b hoj) hQ hy h1
      have hfree' : ∀ k ok, ops[k]? = some ok → k ≠ i → (listed.setIfInBounds j true).getD k true = false →
          (∀ e ∈ ok.after, Region.binds md e = true → e.on ≠ i) → oi.apart ops ok = true := fun k ok hk hki hunk hno => by
        refine hfree k ok hk hki ?_ hno
        by_cases hjk : j = k
        · subst hjk; exact hjun
        · rw [getD_set_ne true hjk] at hunk; exact hunk
      have hun' : ∀ b ∈ B, (listed.setIfInBounds j true).getD b true = false ∧ ∃ o, ops[b]? = some o ∧ ∃ e ∈ o.after, Region.binds md e = true ∧ (e.on = i ∨ e.on ∈ B) := fun b hb =>
        ⟨by rw [getD_set_ne true (fun e : j = b => hjB (by rw [e]; exact hb))]; exact (hun b hb).1, (hun b hb).2⟩
      have hsu : ((listed.setIfInBounds i true).setIfInBounds j true).getD s true = false := by
        rw [getD_set_ne true (fun e : j = s => hjB (by rw [e]; exact hsB)), getD_set_ne true (Ne.symm hsi)]
        exact (hun s hsB).1
      refine wpOp_mono (fun a' w' h3 => ⟨fun _ => h3.2.1 hsu, ih (listed.setIfInBounds j true) a' w' hfree' hun' (ready_mono hr (Ne.symm hji)) h3.1 (h3.2.1 hsu) ?_⟩) h2
      rw [Array.setIfInBounds_comm _ _ hji]
      exact h3.2.2

/-- Take number i first: it may come up, yields v in every world that meets S, nobody who could come before it touches its temporaries, and number s waits for it. -/
theorem wpAnyW_take {i : Nat} {oi : Oper} {v : Value} {fuel : Nat} {listed : Array Bool} {a : Act} {w : World} (hi : ops[i]? = some oi)
    (hs : Region.noSelect ops = true) (hf : Region.free md ops listed i = true) (hr : (Region.ready md ops listed).contains i = true) (hc : chainB md ops i (descs md ops i) s listed = true)
    (hQ : ∀ c a w, Q (.panic c) (a.put oi.dst v) w → Q (.panic c) a w) (hy : YieldsIf P ops S oi v a) (hS : S w)
    (h : wpAnyW P md ops Q s S fuel (listed.setIfInBounds i true) (a.put oi.dst v) w) : wpAnyW P md ops Q s S (fuel + 1) listed a w :=
  wpAnyW_first hi (Region.noSelect_spec hs) hQ (chainB_spec hc).1 fuel listed a w (Region.free_spec hi hf) (chainB_spec hc).2 (by simpa using hr) hy hS h

/-- Each of the operations rs comes up next; behind it the rest goes in whatever order. -/
def AllReadyW (P : Program) (md : Region.Mode) (ops : Array Oper) (Q : Exit → Act → World → Prop) (s : Nat) (S : World → Prop) (fuel : Nat) (listed : Array Bool) (a : Act) (w : World) (rs : List Nat) : Prop :=
  ∀ i ∈ rs, wpOp P ops Q i (fun a' w' => ((listed.setIfInBounds i true).getD s true = false → S w') ∧ wpAnyW P md ops Q s S fuel (listed.setIfInBounds i true) a' w') a w
theorem AllReadyW.nil {fuel : Nat} {listed : Array Bool} {a : Act} {w : World} : AllReadyW P md ops Q s S fuel listed a w [] := fun _ h => by cases h
/-- An operation other than s. -/
theorem AllReadyW.cons {fuel : Nat} {listed : Array Bool} {a : Act} {w : World} {i : Nat} {o : Oper} {rs : List Nat} (ho : ops[i]? = some o)
    (h : ∀ K' : Act → World → Prop, Shut (∀ a w, S w → (S w → wpAnyW P md ops Q s S fuel (listed.setIfInBounds i true) a w) → K' a w) → if Region.wanted o (yielded ops a.tmps) = true then Oper.wp P o a w K' Q else K' (a.put o.dst undef) w)
    (hs : AllReadyW P md ops Q s S fuel listed a w rs) : AllReadyW P md ops Q s S fuel listed a w (i :: rs) := fun j hj => by
  rcases List.mem_cons.1 hj with rfl | hj
  · exact wpOp_step ho (fun K' hK => h K' (fun a w hS hW => hK a w ⟨fun _ => hS, hW hS⟩))
  · exact hs j hj
/-- Number s, or one behind it: S need not stand. -/
theorem AllReadyW.consE {fuel : Nat} {listed : Array Bool} {a : Act} {w : World} {i : Nat} {o : Oper} {rs : List Nat} (ho : ops[i]? = some o) (hl : (listed.setIfInBounds i true).getD s true = true)
    (h : ∀ K' : Act → World → Prop, Shut (∀ a w, wpAnyW P md ops Q s S fuel (listed.setIfInBounds i true) a w → K' a w) → if Region.wanted o (yielded ops a.tmps) = true then Oper.wp P o a w K' Q else K' (a.put o.dst undef) w)
    (hs : AllReadyW P md ops Q s S fuel listed a w rs) : AllReadyW P md ops Q s S fuel listed a w (i :: rs) := fun j hj => by
  rcases List.mem_cons.1 hj with rfl | hj
  · exact wpOp_step ho (fun K' hK => h K' (fun a w hW => hK a w ⟨fun e => absurd (hl.symm.trans e) (by decide), hW⟩))
  · exact hs j hj
theorem wpAnyW_ready {rs : List Nat} {fuel : Nat} {listed : Array Bool} {a : Act} {w : World} (hr : Region.ready md ops listed = rs) (hne : rs ≠ [])
    (h : AllReadyW P md ops Q s S fuel listed a w rs) : wpAnyW P md ops Q s S (fuel + 1) listed a w :=
  ⟨fun h0 => absurd (hr ▸ h0) hne, hr ▸ h⟩
theorem wpAnyW_done {listed : Array Bool} {a : Act} {w : World} (hr : Region.ready md ops listed = []) (h : Q .normal a w) :
    ∀ fuel, wpAnyW P md ops Q s S fuel listed a w
  | 0 => ⟨hr, h⟩
  | _ + 1 => ⟨fun _ => h, by rw [hr]; simp⟩
/-- The world under a new name of which F alone is known. -/
theorem wpAnyW_world {fuel : Nat} {listed : Array Bool} {a : Act} {w : World} (F : World → Prop) (hF : F w) (h : ∀ w', F w' → wpAnyW P md ops Q s S fuel listed a w') : wpAnyW P md ops Q s S fuel listed a w := h w hF
/-- The beginning. -/
theorem wp_region_W (s : Nat) (S : World → Prop) {id : Nat} {a : Act} {w : World} (hm : P.follows .mixedOrders = true) (hS : S w.drew)
    (h : S w.drew → wpAnyW P .any ops Q s S ops.size (Array.replicate ops.size false) a w.drew) : (Code.region id ops true).wp P Q a w :=
  wp_region_any hm (wpAny_of_W _ _ _ _ (h hS))
end

/-- append onto a row of the call's own, as one step of a region. -/
theorem step_appO {P : Program} {W : World} {ops : Array Oper} {o : Oper} {a : Act} {K : Act → World → Prop} {Q : Exit → Act → World → Prop} {E : Prop} {t e : TypeId} {z : Value} {size bytes : Nat} (T : ElT P t e z size bytes) (hw : Region.wanted o (yielded ops a.tmps) = true) (s x : Operand)
    (ho : o.op = .call { callee := .builtin .append, args := #[s, x], argTypes := #[t, t] }) (base n : Nat) (xs : List Value) (v : Value) (hown : W.ownsRow base e size v n xs) (A : Option Addr) (m c : Nat) (news : List Value) (hs : a.eval s = v) (hx : a.eval x = .slice A m c)
    (hl : news.length = m * size) (hnews : Cs W A news) (h1 : ∀ u ∈ news, u.oneCell' = true) (h63 : n + m ≤ maxLen) (hbytes : (n + m) * bytes ≤ 140737488355328) (hbase : base ≤ W.heap.size)
    (h : ∀ v' w', w'.ownsRow base e size v' (n + m) (xs ++ news) → W.grownBy w' v.ownBlock → (v'.ownBlock = v.ownBlock ∨ v'.ownBlock = some W.heap.size) → K (a.put o.dst v') w') :
    if Region.wanted o (yielded ops a.tmps) = true then Oper.wp P o a W K Q else E := by
  rw [if_pos hw]
  obtain ⟨v', w', hrun, h2, h3, h4⟩ := run_append_cs (P := P) W T o.type base v n xs hown A m c news hl hnews h1 h63 hbytes hbase
  unfold Oper.wp execOp
  simp only [ho, resolve, invoke, builtin, Sem.run_bind, Sem.run_pure, Result.andThen_ok, List.map_toArray, List.map_cons, List.map_nil, hs, hx, hrun]
  exact h v' w' h2 h3 h4
theorem own_lower {W : World} {base base' e size n : Nat} {v : Value} {xs : List Value} (h : W.ownsRow base e size v n xs) (hb : base' ≤ base) : W.ownsRow base' e size v n xs := by
  refine ⟨h.1, ?_⟩
  rcases h.2 with h | ⟨g, cap, cur, h1, h2, h3⟩
  · exact .inl h
  · exact .inr ⟨g, cap, cur, h1, Nat.le_trans hb h2, h3⟩
theorem own_far {W W' : World} {base e size n : Nat} {v : Value} {xs : List Value} (h : W.ownsRow base e size v n xs) (hb : Below W.heap.size W W') : W'.ownsRow base e size v n xs := h.kept (grown_of_below hb none) (by cases v.ownBlock <;> simp)
/-- A row's cells, as append asks for them. -/
theorem own_cs {W : World} {base e size n cap : Nat} {A : Option Addr} {xs : List Value} (h : W.ownsRow base e size (.slice A n cap) n xs) : Cs W A xs := by
  rcases h.2 with ⟨hv, hz⟩ | ⟨g, cap', cur, hv, _⟩
  · refine .inl (List.eq_nil_of_length_eq_zero ?_)
    have := h.1
    subst hz
    simpa using this
  · obtain ⟨rfl, _, rfl⟩ := Value.slice.inj hv
    exact .inr ⟨_, rfl, fun j u hu => h.cells (g := g) rfl j u hu⟩
theorem Cs.below {W W' : World} {A : Option Addr} {xs : List Value} (h : Cs W A xs) (hb : Below W.heap.size W W') : Cs W' A xs := by
  rcases h with h | ⟨ad, h1, h2⟩
  · exact .inl h
  · exact .inr ⟨ad, h1, fun j u hu => (hb.cell (World.block_lt_of_cell? W _ (h2 j u hu))).trans (h2 j u hu)⟩
theorem blk_cs {W : World} {g t : Nat} {xs : List Value} (h : Blk W g t xs.toArray) : Cs W (some ⟨g, 0, none⟩) xs :=
  .inr ⟨_, rfl, fun j u hu => by rw [Addr.add_lit, Nat.zero_add, h.cell]; simpa using hu⟩
theorem own_made {W : World} (base e size : Nat) (hb : base ≤ W.heap.size) : (W.alloc (.cells #[] e)).ownsRow base e size (.slice (some ⟨W.heap.size, 0, none⟩) 0 0) 0 [] :=
  World.ownsRow_made W #[] 0 hb (Nat.zero_le _) (by simp)
end Go.Proofs.Ythhindnjnijglaa
