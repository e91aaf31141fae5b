/- The walks of the reader's some and term of layer 8, by induction on what is left. -/
import Derived.Test.YtommadcjemljcaaEncT
namespace Go.Proofs.Ytommadcjemljcaa
open Go.RowKit
set_option linter.unusedVariables false

/-- The row of terms that have been read so far. -/
structure SL (pr pt : Nat) (A : Option Addr) (c : Nat) (n : Nat) (t : TS) (left : Int) (W : World) (m : Nat) (v : Value) (wr : World) (xs : List EX) (tk : TS) (lk : Int) : Prop where
  own : wr.ownsRow W.heap.size 39 4 v xs.length (exL xs)
  each : ∀ x ∈ xs, RdX (fun k => k < W.heap.size ∨ v.ownBlock = some k ∨ wr.heap.size ≤ k) wr x.A x.c x.t.items
  rs : RS pr pt A c tk lk wr
  fr : Fr (fun k => k = pt ∨ k = pr) W wr
  lo : lk ≤ left - xs.length
  hi : -1 ≤ lk
  old : pr < W.heap.size ∧ pt < W.heap.size
  oldA : ∀ b off, A = some ⟨b, off, none⟩ → b < W.heap.size
  rel : ∀ r t' l', SomeR m tk lk r t' l' → SomeR n t left (xs.map (fun x : EX => x.t) ++ r) t' l'
section
variable {pr pt : Nat} {A : Option Addr} {c n : Nat} {t : TS} {left : Int} {W : World}
theorem SL.start (h : RS pr pt A c t left W) (hA : ∀ b off, A = some ⟨b, off, none⟩ → b < W.heap.size) (hl : -1 ≤ left) : SL pr pt A c n t left W n (.slice none 0 0) W [] t left :=
  ⟨World.ownsRow_nil _ _ _ _, fun x hx => by simp at hx, h, Fr.refl _ _, by simp, hl, h.lt, hA, fun r t' l' hr => by simpa using hr⟩
theorem SL.step {m : Nat} {v v' : Value} {wr w5 w6 : World} {xs : List EX} {tk t' : TS} {lk l' : Int} {x : EX} {o : Obj} (h : SL pr pt A c n t left W m v wr xs tk lk) (hgo : 0 < m ∧ tk.fault = 0 ∧ 0 ≤ lk)
    {wq : World} (hq : Below wr.heap.size wr wq) (hqs : wq.heap.size = wr.heap.size) (hx : TermR tk lk x.t t' l') (hR : RS pr pt A c t' l' w5) (hX : RdX (fun k => k < wq.heap.size) w5 x.A x.c x.t.items) (hF : Fr (fun k => k = pt ∨ k = pr) wq w5) (hl : l' < lk) (hg : -1 ≤ l')
    (ho : w6.ownsRow W.heap.size 39 4 v' (xs.length + 1) (exL xs ++ x.cells)) (hgr : (w5.alloc o).grownBy w6 v.ownBlock) (hv : v'.ownBlock = v.ownBlock ∨ v'.ownBlock = some (w5.alloc o).heap.size) :
    SL pr pt A c n t left W (m - 1) v' w6 (xs ++ [x]) t' l' := by
  obtain ⟨o1, o2⟩ := h.old
  have s1 := h.fr.size
  have s2 := hF.size
  have s3 := hgr.size
  have s4 : (w5.alloc o).heap.size = w5.heap.size + 1 := by simp
  have hFa : Fr (fun k => k = pt ∨ k = pr) W (w5.alloc o) := ((h.fr.same (Fr.of_below hq _)).same hF).same (Fr.alloc _ _ _)
  have hown : ∀ k, v.ownBlock = .some k → W.heap.size ≤ k ∧ k < wr.heap.size := fun k hk => h.own.lt k hk
  have hFg : Fr (fun k => v.ownBlock = .some k) (w5.alloc o) w6 := Fr.of_grown hgr (fun k e _ => e)
  refine ⟨by rw [exL_append, exL_one, List.length_append]; exact ho, ?_, ?_, ?_, ?_, hg, h.old, h.oldA, ?_⟩
  · intro y hy
    rcases List.mem_append.1 hy with hy | hy
    · have h1 := h.each y hy
      have h2 := (((h1.to (.of_below hq _)).to ((KeepEx.of_fr hF).mono (fun k e => .inl (by omega)))).below (below_alloc w5 o)).to ((KeepEx.of_fr hFg).mono (fun k e => .inr (.inl e)))
      refine h2.mono fun k hk => ?_
      rcases hk with hk | hk | hk
      · exact .inl hk
      · rcases hv with e | e
        · exact .inr (.inl (e ▸ hk))
        · rw [e] at hk
          injection hk with hk
          exact .inr (.inr (by omega))
      · exact .inr (.inr (by omega))
    · obtain rfl : y = x := by simpa using hy
      have h2 := (hX.new.below (below_alloc w5 o)).to ((KeepEx.of_fr hFg).mono (fun k e => .inl (by have := (hown k e).2; omega)))
      refine h2.mono fun k hk => ?_
      rcases hk with hk | hk | hk
      · exact .inl (by omega)
      · rcases hv with e | e
        · exact .inl (by rw [e] at hk; have := (hown k hk).2; omega)
        · rw [e] at hk
          injection hk with hk
          exact .inr (by omega)
      · exact .inr (by omega)
  · refine (hR.keep (below_alloc w5 o)).far hFg (fun e => ?_) (fun e => ?_) (fun b off e e2 => ?_)
    · have := (hown _ e).1; omega
    · have := (hown _ e).1; omega
    · have := (hown _ e2).1; have := h.oldA b off e; omega
  · exact hFa.trans hFg (fun k hk e => by have := (hown k e).1; omega)
  · have := h.lo; rw [List.length_append]; simp; omega
  · intro r t'' l'' hr
    have := h.rel (x.t :: r) t'' l'' (.more hgo hx hr)
    simpa using this

def leftOf (pr : Nat) (w : World) : Nat := match w.cell? ⟨pr, 1, none⟩ with
  | .some (.int _ z) => (z + 2).toNat
  | _ => 0
theorem leftOf_eq {pr pt : Nat} {A : Option Addr} {c : Nat} {t : TS} {left : Int} {W : World} (h : RS pr pt A c t left W) : leftOf pr W = (left + 2).toNat := by
  have h1 : W.cell? ⟨pr, 1, none⟩ = some (.int .i64 left) := h.box.cell 1
  unfold leftOf
  rw [h1]

def TermOk (pr pt : Nat) (A : Option Addr) (c : Nat) (N : Int) : Prop := ∀ (t : TS) (left : Int) (W : World), RS pr pt A c t left W → (∀ b off, A = .some ⟨b, off, none⟩ → b < W.heap.size) → 0 ≤ left → left < N → left ≤ 1000000 →
  Calls Try.prog 48 #[.pointer (.some ⟨pr, 0, none⟩)] W (TermEnds pr pt A c t left W)
def SomeOk (pr pt : Nat) (A : Option Addr) (c : Nat) (N : Int) : Prop := ∀ (n : Nat) (t : TS) (left : Int) (W : World), n < 18446744073709551616 → RS pr pt A c t left W → (∀ b off, A = .some ⟨b, off, none⟩ → b < W.heap.size) → -1 ≤ left → left < N → left ≤ 1000000 →
  Calls Try.prog 24 #[.pointer (.some ⟨pr, 0, none⟩), .int .u64 (n : Int)] W (SomeEnds pr pt A c n t left W)

theorem term_of_some {N : Int} (h : SomeOk pr pt A c N) : TermOk pr pt A c (N + 1) := by
  intro t left W hR hA h0 h1 h2
  have hsome : ∀ (n : Nat) (t : TS) (V : World), n < 18446744073709551616 → RS pr pt A c t (left - 1) V → (∀ b off, A = .some ⟨b, off, none⟩ → b < V.heap.size) → Calls Try.prog 24 #[.pointer (.some ⟨pr, 0, none⟩), .int .u64 (n : Int)] V (SomeEnds pr pt A c n t (left - 1) V) :=
    fun n t V hn hV hA => h n t (left - 1) V hn hV hA (by omega) (by omega) (by omega)
  by_cases b1 : t.byte.1 = 1
  · exact term_k1 hR hA h0 h2 b1
  by_cases b2 : t.byte.1 = 2
  · exact term_k2 hR hA h0 h2 b2
  by_cases b3 : t.byte.1 = 3
  · exact term_k3 hR hA h0 h2 b3
  by_cases b5 : t.byte.1 = 5
  · exact term_k5 hR hA h0 h2 b5
  by_cases b4 : t.byte.1 = 4
  · exact term_k4 hR hA h0 h2 b4 hsome
  by_cases b6 : t.byte.1 = 6
  · exact term_k6 hR hA h0 h2 b6 hsome
  by_cases b8 : t.byte.1 = 8
  · exact term_k8 hR hA h0 h2 b8 hsome
  exact term_ko hR hA h0 h2 _ rfl ⟨b1, b2, b3, b5, b4, b6, b8⟩

set_option maxRecDepth 100000 in
set_option maxHeartbeats 2000000 in
theorem some_of_term {N : Int} (h : TermOk pr pt A c N) : SomeOk pr pt A c N := by
  intro n t left W hn hR hA h0 h1 h2
  have HT := Lib.hid h
  have HS0 := Lib.hid (SL.start (n := n) hR hA h0)
  clear h hR hA
  go_enter Try.func24, Try.ntmps24
  go_wp2
  go_loopw [1, 4] (fun u v wr => ∃ (m : Nat) (xs : List EX) (tk : TS) (lk : Int), u = .int .u64 m ∧ m < 18446744073709551616 ∧ SL pr pt A c n t left W m v wr xs tk lk) (fun _ _ wr => leftOf pr wr)
  case atStart => exact ⟨n, [], t, left, rfl, hn, HS0.out⟩
  case round =>
    obtain ⟨m, xs, tk, lk, rfl, hm, hS⟩ := hrel
    clear HS0 hn
    have HSL := Lib.hid hS
    have hlo := hS.lo
    have hhi := hS.hi
    have hLF := leftOf_eq hS.rs
    have HSO := Lib.hid (sound_any hS.rs)
    by_cases hgo : 0 < m ∧ tk.fault = 0 ∧ 0 ≤ lk
    · rw [show (decide (tk.fault = 0) && decide (0 ≤ lk)) = true by simp [hgo.2.1, hgo.2.2]] at HSO
      have HGO := Lib.hid hgo
      have hd1 : decide (0 < m) = true := by simp; omega
      have HTM := Lib.hid (fun q => HT.out tk lk (wr.drewN q) (hS.rs.keep (below_drewN (Below.refl _ _) q)) (fun b off e => by have := hS.oldA b off e; have := hS.fr.size; show b < wr.heap.size; omega) hgo.2.2 (by omega) (by omega))
      have hnx : xs.length + 1 ≤ maxLen := by unfold maxLen; omega
      have hbx : (xs.length + 1) * 56 ≤ 140737488355328 := by omega
      have hms : ((m : Int) - 1) = ((m - 1 : Nat) : Int) := by omega
      have HMS := Lib.hid hms
      have HO := Lib.hid hS.own
      have HSZ := Lib.hid hS.fr.size
      have HL := Lib.hid hLF
      obtain ⟨nx, hnxe⟩ : ∃ nx, xs.length = nx := ⟨_, rfl⟩
      have HNX := Lib.hid hnxe
      rw [hnxe] at HO hnx hbx hlo
      have hm1 : (1 : Int) ≤ (m : Int) := by omega
      clear hgo hS hms hLF hnxe
      go_wp2_with (first
        | (go_at_call 26; refine HSO.out.mono ?_; rintro r wq ⟨rfl, q, rfl⟩)
        | (go_at_call 48; refine (HTM.out q).mono ?_; rintro r w5 ⟨x, t', l', rfl, hx5, hR5, hX5, hF5, hl5, hg5⟩; have hF5s : wr.heap.size ≤ w5.heap.size := hF5.size; have hFF5 : Fr (fun k => k = pt ∨ k = pr) wr w5 := (Fr.of_below (below_drewN (Below.refl _ _) q) _).same hF5; have hO5 : w5.ownsRow W.heap.size 39 4 u4 nx (exL xs) := own_fr HO.out hFF5 (fun k hk => by have := (HO.out.lt k hk).1; have := HSL.out.old; omega))
        | (at_builtin; refine wpList_app ex_termsT rfl (.tmp 13) (.tmp 16) rfl W.heap.size u4 nx (exL xs) rfl (hO5.alloc _) (some ⟨w5.heap.size, 0, none⟩) 1 1 x.cells rfl rfl (ex_news w5 x) (excells_one _) hnx hbx (by have := HSZ.out; simp; omega) ?_; intro v6 w6 ho6 hg6 hw6))
      have HS6 := Lib.hid (HSL.out.step HGO.out (below_drewN (Below.refl _ _) q) rfl hx5 hR5 hX5 hF5 hl5 hg5 (by rw [HNX.out]; exact ho6) hg6 hw6)
      go_roundw
      case rel => exact ⟨m - 1, xs ++ [x], t', l', by rw [← HMS.out], by omega, HS6.out⟩
      case measure =>
        rw [HL.out, leftOf_eq HS6.out.rs]
        omega
    · have HEND := Lib.hid (hS.rel [] tk lk (.stop hgo))
      obtain ⟨Av, cv, rfl⟩ := ex_form hS.own
      have HF : Hid (∀ V, Below wr.heap.size wr V → SomeEnds pr pt A c n t left W (.returned (.slice Av xs.length cv)) V) := fun V hV => by
        refine ⟨xs.map (fun x : EX => x.t), Av, cv, tk, lk, by rw [List.length_map], by simpa using HEND.out, hS.rs.keep hV, ?_, hS.fr.same (Fr.of_below hV _), by omega, hS.hi⟩
        refine (rdx_of_own (own_far hS.own hV) rfl (fun k => k < W.heap.size) (fun g hg => by have := (hS.own.lt g hg).1; omega) (fun x hx => ?_))
        exact ((hS.each x hx).below hV).mono (fun k hk => .inl hk)
      obtain ⟨nx, hnxe⟩ : ∃ nx, xs.length = nx := ⟨_, rfl⟩
      rw [hnxe] at HF ⊢
      clear hLF hnxe hlo
      by_cases hm0 : 0 < m
      · have hd1 : decide (0 < m) = true := by simpa using hm0
        rw [show (decide (tk.fault = 0) && decide (0 ≤ lk)) = false by
          by_cases hf : tk.fault = 0
          · have : ¬ 0 ≤ lk := fun e => hgo ⟨hm0, hf, e⟩
            simp [this]
          · simp [hf]] at HSO
        clear hgo hS
        go_wp2_with (go_at_call 26; refine HSO.out.mono ?_; rintro r wq ⟨rfl, q, rfl⟩)
        go_ret
        exact HF.out _ (below_drewN (Below.refl _ _) q)
      · obtain rfl : m = 0 := by omega
        clear hgo hS
        go_wp2
        go_ret
        exact HF.out _ (Below.refl _ _)

theorem both_ok (pr pt : Nat) (A : Option Addr) (c : Nat) : ∀ N : Nat, TermOk pr pt A c N ∧ SomeOk pr pt A c N
  | 0 => by
    have h : TermOk pr pt A c ((0 : Nat) : Int) := fun t left W _ _ h0 h1 _ => by omega
    exact ⟨h, some_of_term h⟩
  | N + 1 => by
    have h : TermOk pr pt A c ((N + 1 : Nat) : Int) := by
      have := term_of_some (both_ok pr pt A c N).2
      simpa using this
    exact ⟨h, some_of_term h⟩
theorem some_any : SomeOk pr pt A c 1000001 := (both_ok pr pt A c 1000001).2
end
end Go.Proofs.Ytommadcjemljcaa
