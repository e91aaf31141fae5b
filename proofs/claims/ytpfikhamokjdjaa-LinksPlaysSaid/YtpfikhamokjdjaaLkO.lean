/- Links (layer 18): the library's sorts at rows of the call's own. -/
import Derived.Test.YtpfikhamokjdjaaLkN
import Derived.Sort.OwnSortedInts
import Derived.Shelf.SlSortCmp.NoneTotal
namespace Go.Proofs.Ytpfikhamokjdjaa
open Go.RowKit Go.Maps Go.WideMaps Go.Shelf Go.Sort
set_option linter.unusedVariables false

/-- A sort's end: the same slice has the row zs. -/
def SortEnds (V : World) (base e k : Nat) (v : Value) (cells : List Value) (n : Nat) (en : Ending) (w' : World) : Prop := en = .returned (.tuple #[]) ∧ w'.ownsRow base e k v n cells ∧ Below base V w'
theorem sortI_v {V : World} {base : Nat} {v : Value} (zs : List Int) (hl : zs.length ≤ 1000000) (hb : base ≤ V.heap.size) (ho : V.ownsRow base 2 1 v zs.length (zs.map (Value.int .i64))) :
    Calls Try.prog 29 #[v] V (SortEnds V base 2 1 v ((zs.mergeSort fun x y => decide (x ≤ y)).map (Value.int .i64)) zs.length) := by
  rcases ho.2 with ⟨rfl, h0⟩ | ⟨g, cap, cur, rfl, hbase, hbk, hn, hcap, hz, ht⟩
  · have hz : zs = [] := List.eq_nil_of_length_eq_zero h0
    subst hz
    have h := AnyM.slices_Sort_int_none Try.sortI none 0 V
    change Calls Try.prog 29 _ _ _ at h
    refine h.mono fun e w' h9 => ?_
    obtain ⟨rfl, rfl⟩ := h9
    exact ⟨rfl, by simpa using ho, Below.refl _ _⟩
  · rw [Nat.mul_one] at hz ht
    have hg : g < V.heap.size := (Array.getElem?_eq_some_iff.1 hbk).1
    have h := AnyM.slices_Sort_int Try.sortI g 0 cap zs V (holds_of_blockI hbk ht) hg (by omega)
    change Calls Try.prog 29 _ _ _ at h
    refine h.mono fun e w' h9 => ?_
    obtain ⟨rfl, n, os, rfl⟩ := h9
    refine ⟨rfl, ownsRow_sortedI (List.length_mergeSort zs) hbase hbk hn hcap (by rw [hz, Nat.mul_one]), ?_⟩
    exact below_of_grown2 (grownBy_sortedI _) hb (fun k e => by cases e; exact hbase)
section
variable {P : Program} {ρ : Ren} {α : Type} [Inhabited α]
def SortFEnds (cf : α → α → Int) (enc : α → List Value) (V : World) (base e k : Nat) (v : Value) (ys : List α) (en : Ending) (w' : World) : Prop :=
  en = .returned (.tuple #[]) ∧ ∃ zs, List.Perm zs ys ∧ zs.Pairwise (fun x y => ¬ cf y x < 0) ∧ w'.ownsRow base e k v ys.length (zs.flatMap enc) ∧ Below base V w'
theorem permIn_list {d d' : Array α} (h : PermIn 0 d.size d d') : List.Perm d'.toList d.toList := by
  obtain ⟨h1, _, h3⟩ := h
  have e1 : d'.extract 0 d.size = d' := by rw [← h1]; simp
  have e2 : d.extract 0 d.size = d := by simp
  rw [e1, e2] at h3
  exact h3
theorem sortK (L : SlLaysF0.n6 P ρ) {k : Nat} (aE : ∀ w, (isAgg (ρ.t 24)).run P w = .ok true w) (zE : ∀ w, (Go.sizeOf (ρ.t 24)).run P w = .ok k w) {enc : α → List Value} (hk : ∀ x, (enc x).length = k) (h1 : ∀ x, ∀ v ∈ enc x, v.oneCell' = true) {cf : α → α → Int} (hO : SWO (ltOf cf)) {g : Nat}
    (eg : ∀ args w, (callFunc g args).run P w = .ok (.enter g args) w) (hcmp : ∀ x y W, Calls P g #[.agg (enc x).toArray, .agg (enc y).toArray] W fun e w' => e = .returned (.int .i64 (cf x y)) ∧ ∃ q os', w' = grow (W.drewN q) os')
    {V : World} {base e : Nat} {v : Value} (ys : List α) (hl : ys.length ≤ 1000000) (hb : base ≤ V.heap.size) (ho : V.ownsRow base e k v ys.length (ys.flatMap enc)) :
    Calls P (ρ.f 6) #[v, .func (.func g) #[] #[]] V (SortFEnds cf enc V base e k v ys) := by
  rcases ho.2 with ⟨rfl, h0⟩ | ⟨gb, cap, cur, rfl, hbase, hbk, hn, hcap, hz, ht⟩
  · have hz : ys = [] := List.eq_nil_of_length_eq_zero h0
    subst hz
    refine (AnyF.slices_SortFunc_none L none 0 (.func (.func g) #[] #[]) V).mono fun e w' h9 => ?_
    obtain ⟨rfl, rfl⟩ := h9
    exact ⟨rfl, [], List.Perm.refl _, List.Pairwise.nil, ho, Below.refl _ _⟩
  · have hg : gb < V.heap.size := (Array.getElem?_eq_some_iff.1 hbk).1
    have hF := flatK_list hk ys
    have ho2 : V.ownsRow base e k (.slice (some ⟨gb, 0, none⟩) ys.length cap) ys.length (flatK enc k ys.toArray).toList := by rw [hF]; exact ho
    have h := AnyQ.slices_SortFunc L k aE zE enc hk h1 cf hO g #[] gb 0 cap ys.toArray V eg (fun _ _ _ _ x y => hcmp x y _) (holds_own ho2) hg (by simp; omega)
    refine h.mono fun e w' h9 => ?_
    obtain ⟨rfl, d', n, os, hp, hs, rfl⟩ := h9
    have hd : d'.toList.toArray = d' := by simp
    have hsz : d'.size = ys.toArray.size := hp.1
    obtain ⟨h2, h3, h4, h5⟩ := own_putRow (m := n) (os := os) ho2 (F' := flatK enc k d') (by simp [hsz])
    refine ⟨rfl, d'.toList, permIn_list hp, ?_, ?_, below_of_grown2 h3 hb (fun j e => by cases e; exact h5)⟩
    · rw [List.pairwise_iff_getElem]
      intro i j hi hj hij hlt
      have h9 := hs i j (Nat.zero_le _) hij (by simp at hj; omega)
      simp at hi hj
      unfold ltOf at h9
      rw [getElem!_pos d' j hj, getElem!_pos d' i hi] at h9
      simp at h9 hlt
      omega
    · have hF' := flatK_list hk d'.toList
      rw [hd] at hF'
      rw [← hF']
      exact h2
end
instance : Inhabited WV := ⟨⟨0, 0, 0⟩⟩
theorem cmpI_lt (a b : Int) : cmpI a b < 0 ↔ a < b := by
  unfold cmpI
  split
  · simp_all
  · split <;> simp_all
theorem cmpI_eq (a b : Int) : cmpI a b = 0 ↔ a = b := by
  unfold cmpI
  split
  · simp; omega
  · split <;> simp <;> omega
theorem ltW (x y : WV) : ltOf cmpW x y = decide (x.ref < y.ref) := by
  unfold ltOf cmpW
  by_cases h : x.ref < y.ref
  · simp [(cmpI_lt _ _).2 h, h]
  · have h9 : ¬ cmpI x.ref y.ref < 0 := fun h8 => h ((cmpI_lt _ _).1 h8)
    simp [h]
    omega
theorem swoW : SWO (ltOf cmpW) where
  irrefl x := by rw [ltW]; simp
  trans x y z h1 h2 := by rw [ltW] at *; simp at *; omega
  ntrans x y z h1 h2 := by rw [ltW] at *; simp at *; omega
def lexL (x y : Int × Int) : Prop := x.1 < y.1 ∨ x.1 = y.1 ∧ x.2 < y.2
theorem cmpP_lt (x y : Int × Int) : cmpP x y < 0 ↔ lexL x y := by
  unfold cmpP lexL
  by_cases h : cmpI x.1 y.1 = 0
  · have h9 := (cmpI_eq _ _).1 h
    rw [if_neg (by simpa using h), cmpI_lt]
    omega
  · have h9 : x.1 ≠ y.1 := fun e => h ((cmpI_eq _ _).2 e)
    rw [if_pos h, cmpI_lt]
    omega
theorem ltP (x y : Int × Int) : ltOf cmpP x y = true ↔ lexL x y := by
  rw [← cmpP_lt]
  unfold ltOf
  simp
theorem ltP_no (x y : Int × Int) : ltOf cmpP x y = false ↔ ¬ lexL x y := by
  rw [← ltP]
  simp
theorem swoP : SWO (ltOf cmpP) where
  irrefl x := by rw [ltP_no]; unfold lexL; omega
  trans x y z h1 h2 := by rw [ltP] at *; unfold lexL at *; omega
  ntrans x y z h1 h2 := by rw [ltP_no] at *; unfold lexL at *; omega
theorem sortW_v {V : World} {base : Nat} {v : Value} (ys : WL) (hl : ys.length ≤ 1000000) (hb : base ≤ V.heap.size) (ho : V.ownsRow base 33 3 v ys.length (ys.flatMap encW)) :
    Calls Try.prog 43 #[v, .func (.func 32) #[] #[]] V (SortFEnds cmpW encW V base 33 3 v ys) :=
  sortK Try.sortP Try.isAgg33 Try.sizeOf33 (fun _ => rfl) (fun x v hv => by simp at hv; rcases hv with rfl | rfl | rfl <;> rfl) swoW (enters_of Try.func32 (by kernel_rfl) rfl) cmpW_v ys hl hb ho
theorem sortP_v {V : World} {base : Nat} {v : Value} (ys : PL) (hl : ys.length ≤ 1000000) (hb : base ≤ V.heap.size) (ho : V.ownsRow base 45 2 v ys.length (ys.flatMap encP)) :
    Calls Try.prog 47 #[v, .func (.func 36) #[] #[]] V (SortFEnds cmpP encP V base 45 2 v ys) :=
  sortK Try.sortW Try.isAgg45 Try.sizeOf45 (fun _ => rfl) (fun x v hv => by simp at hv; rcases hv with rfl | rfl <;> rfl) swoP (enters_of Try.func36 (by kernel_rfl) rfl) cmpP_v ys hl hb ho
end Go.Proofs.Ytpfikhamokjdjaa
