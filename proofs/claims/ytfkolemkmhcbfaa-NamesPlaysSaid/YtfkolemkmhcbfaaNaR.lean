/- Names (layer 19): the document's names: Find, Of. -/
import Derived.Test.YtfkolemkmhcbfaaNaE
namespace Go.Proofs.Ytfkolemkmhcbfaa
open Go.RowKit
set_option linter.unusedVariables false

/-- The document's names in memory. -/
structure RNm (W : World) (B pr : Nat) (A : Option Addr) (cap : Nat) (L : NL) : Prop where
  obj : Blk W pr 29 #[.slice A L.length cap]
  row : W.ownsRow B 52 2 (.slice A L.length cap) L.length (entsC L)
  nrow : ∀ g, (Value.slice A L.length cap).ownBlock = some g → g ≠ pr
section
variable {W W' : World} {B pr : Nat} {A : Option Addr} {cap : Nat} {L : NL}
theorem own_ent {V : World} {B n cap : Nat} {A : Option Addr} {e : TypeId} {L : NL} (ho : V.ownsRow B e 2 (.slice A n cap) n (entsC L)) (hn : L.length = n) {k : Nat} (hk : k < L.length) : ∃ g, A = some ⟨g, 0, none⟩ ∧ V.cell? ⟨g, k * 2, none⟩ = some (.string ⟨L[k].1.toArray⟩) ∧ V.cell? ⟨g, k * 2 + 1, none⟩ = some (.int .i64 L[k].2) := by
  rcases ho.2 with ⟨hv, hz⟩ | ⟨g, cap', cur, hv, _, hg, hnc, _, _, htake⟩
  · omega
  · obtain ⟨rfl, _, rfl⟩ := Value.slice.inj hv
    refine ⟨g, rfl, ?_⟩
    have hc : ∀ i, (hi : i < 2) → V.cell? ⟨g, k * 2 + i, none⟩ = (entC L[k])[i]? := fun i hi => by
      have := ho.cells (g := g) rfl (k * 2 + i) ((entC L[k])[i]'(by simp [entC]; exact hi)) (by rw [entsC_at L k i hk hi, List.getElem?_eq_getElem])
      rw [Addr.add_lit, Nat.zero_add] at this
      rw [this, List.getElem?_eq_getElem]
    exact ⟨hc 0 (by omega), hc 1 (by omega)⟩
theorem RNm.keep (h : RNm W B pr A cap L) (hb : Below W.heap.size W W') : RNm W' B pr A cap L := ⟨h.obj.keep hb, h.row.kept (grown_of_below hb none) (by cases (Value.slice A L.length cap).ownBlock <;> simp), h.nrow⟩
theorem get1_drop {L : NL} {s : List UInt8} {i : Nat} (h : i < L.length) : get1 (L.drop i) s = if (L[i].1 == s) = true then some L[i].2 else get1 (L.drop (i + 1)) s := by
  rw [List.drop_eq_getElem_cons h]
  unfold get1
  rw [List.find?_cons]
  cases hq : (L[i].1 == s) <;> simp
theorem of1_drop {L : NL} {p : Int} {i : Nat} (h : i < L.length) : of1 (L.drop i) p = if (L[i].2 == p) = true then some L[i].1 else of1 (L.drop (i + 1)) p := by
  rw [List.drop_eq_getElem_cons h]
  unfold of1
  rw [List.find?_cons]
  cases hq : (L[i].2 == p) <;> simp

set_option maxRecDepth 100000 in
set_option maxHeartbeats 2000000 in
theorem rfind_any (h : RNm W B pr A cap L) (s : List UInt8) (hl : L.length ≤ 1000000) :
    Calls Try.prog 18 #[.pointer (some ⟨pr, 0, none⟩), .string ⟨s.toArray⟩] W fun e w' => e = .returned (.tuple #[.int .i64 ((get1 L s).getD 0), .bool (get1 L s).isSome]) ∧ W = w' := by
  have c0 := h.obj.cell 0
  have HH := Lib.hid h
  obtain ⟨n, hn⟩ : ∃ n, L.length = n := ⟨_, rfl⟩
  rw [hn] at c0 hl
  have HN := Lib.hid hn
  clear h hn
  go_enter Try.func18, Try.ntmps18
  go_wp2
  go_loop [6] (fun v => ∃ i : Nat, i ≤ n ∧ v = .int .i64 (i : Int) ∧ get1 L s = get1 (L.drop i) s) (fun v => n - (intOf v).toNat)
  case atStart => exact ⟨0, Nat.zero_le _, rfl, rfl⟩
  case round =>
    obtain ⟨i, hi, rfl, hg⟩ := hrel
    have HG := Lib.hid hg
    clear hg
    by_cases hlt : i < n
    · have hd8 : decide (i < n) = true := by simp; omega
      have hkl : i < L.length := by rw [HN.out]; exact hlt
      obtain ⟨g, rfl, e0, e1⟩ := own_ent HH.out.row rfl hkl
      have HD := Lib.hid (get1_drop (s := s) hkl)
      generalize L[i] = x at *
      obtain ⟨s1, p1⟩ := x
      simp only at e0 e1 HD
      clear hkl
      cases hq : (s1 == s) with
      | true =>
        have HE := Lib.hid (show get1 L s = some p1 by rw [HG.out, HD.out, hq, if_pos rfl])
        go_wp2
        exact bodyPost_ret (v := .tuple #[.int .i64 p1, .bool true]) (by simp [results, Try.results18, go_sem]) rfl ⟨by rw [HE.out]; rfl, rfl⟩
      | false =>
        have HE := Lib.hid (show get1 L s = get1 (L.drop (i + 1)) s by rw [HG.out, HD.out, hq]; rfl)
        go_wp2
        go_round
        case rel => exact ⟨i + 1, by omega, by go_num, HE.out⟩
        case measure => simp [intOf]; omega
    · have hd8 : decide (i < n) = false := by simp; omega
      have HE := Lib.hid (show get1 L s = none by rw [HG.out, show i = n by omega, ← HN.out, List.drop_length]; rfl)
      go_wp2
      exact bodyPost_ret (v := .tuple #[.int .i64 0, .bool false]) (by simp [results, Try.results18, go_sem]) rfl ⟨by rw [HE.out]; rfl, rfl⟩

set_option maxRecDepth 100000 in
set_option maxHeartbeats 2000000 in
theorem rof_any (h : RNm W B pr A cap L) (p : Int) (hl : L.length ≤ 1000000) :
    Calls Try.prog 20 #[.pointer (some ⟨pr, 0, none⟩), .int .i64 p] W fun e w' => e = .returned (.tuple #[.string ⟨((of1 L p).getD []).toArray⟩, .bool (of1 L p).isSome]) ∧ W = w' := by
  have c0 := h.obj.cell 0
  have HH := Lib.hid h
  obtain ⟨n, hn⟩ : ∃ n, L.length = n := ⟨_, rfl⟩
  rw [hn] at c0 hl
  have HN := Lib.hid hn
  clear h hn
  go_enter Try.func20, Try.ntmps20
  go_wp2
  go_loop [6] (fun v => ∃ i : Nat, i ≤ n ∧ v = .int .i64 (i : Int) ∧ of1 L p = of1 (L.drop i) p) (fun v => n - (intOf v).toNat)
  case atStart => exact ⟨0, Nat.zero_le _, rfl, rfl⟩
  case round =>
    obtain ⟨i, hi, rfl, hg⟩ := hrel
    have HG := Lib.hid hg
    clear hg
    by_cases hlt : i < n
    · have hd8 : decide (i < n) = true := by simp; omega
      have hkl : i < L.length := by rw [HN.out]; exact hlt
      obtain ⟨g, rfl, e0, e1⟩ := own_ent HH.out.row rfl hkl
      have HD := Lib.hid (of1_drop (p := p) hkl)
      generalize L[i] = x at *
      obtain ⟨s1, p1⟩ := x
      simp only at e0 e1 HD
      clear hkl
      cases hq : (p1 == p) with
      | true =>
        have HE := Lib.hid (show of1 L p = some s1 by rw [HG.out, HD.out, hq, if_pos rfl])
        go_wp2
        exact bodyPost_ret (v := .tuple #[.string ⟨s1.toArray⟩, .bool true]) (by simp [results, Try.results20, go_sem]) rfl ⟨by rw [HE.out]; rfl, rfl⟩
      | false =>
        have HE := Lib.hid (show of1 L p = of1 (L.drop (i + 1)) p by rw [HG.out, HD.out, hq]; rfl)
        go_wp2
        go_round
        case rel => exact ⟨i + 1, by omega, by go_num, HE.out⟩
        case measure => simp [intOf]; omega
    · have hd8 : decide (i < n) = false := by simp; omega
      have HE := Lib.hid (show of1 L p = none by rw [HG.out, show i = n by omega, ← HN.out, List.drop_length]; rfl)
      go_wp2
      exact bodyPost_ret (v := .tuple #[.string ⟨#[]⟩, .bool false]) (by simp [results, Try.results20, go_sem]) rfl ⟨by rw [HE.out]; rfl, rfl⟩
end
end Go.Proofs.Ytfkolemkmhcbfaa
