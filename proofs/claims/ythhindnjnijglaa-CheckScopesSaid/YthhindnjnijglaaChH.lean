/- Layer 12: scopes and the checker in memory; with, fails, sound. -/
import Derived.Test.YthhindnjnijglaaChB
import Derived.Test.YthhindnjnijglaaChP
import Derived.Test.YthhindnjnijglaaPaT
import Derived.Test.YthhindnjnijglaaMaA
import Derived.Test.YthhindnjnijglaaClone
import Derived.Maps.Views
import Derived.WalkArith
namespace Go.Proofs.Ythhindnjnijglaa
open Go.RowKit Go.Maps Go.WideMaps
set_option linter.unusedVariables false

abbrev hE (v : Value) : Option (DataW Value × List MemPlace) := some (.held v, [])
theorem ckS : Keyed Try.prog 9 := string_keyed Try.underlying9
theorem ckey {s : List UInt8} (h : s.length ≤ maxLen) : keyOf Try.prog 9 (.string ⟨s.toArray⟩) = some (.string s) := by
  have := keyOf_string_mk Try.underlying9 (s := ⟨s.toArray⟩) (by simpa [ByteArray.size] using h)
  simpa using this
theorem czero (w : World) : (zeroValue 4).run Try.prog w = .ok (.bool false) w := by kernel_rfl
/-- A set of names, in memory. -/
structure BMap (W : World) (b : Nat) (P : Nms) : Prop where
  own : ∃ D : DataW Value, W.ownsMap Try.prog 9 hE b P.length D ∧ Maps.size D = P.length ∧ (∀ s, D.atKey (.string s) (.held (.bool false)) = .held (.bool (decide (s ∈ P)))) ∧ ∀ s, Maps.has D (.string s) = decide (s ∈ P)
  nd : P.Nodup
section
variable {W W' : World} {b : Nat} {P : Nms}
theorem BMap.lt (h : BMap W b P) : b < W.heap.size := by
  obtain ⟨D, h1, _⟩ := h.own
  exact World.ownsMap.lt h1
theorem BMap.fr {F : Nat → Prop} (h : BMap W b P) (hf : Fr F W W') (hn : ¬ F b) : BMap W' b P := by
  obtain ⟨D, h1, h2⟩ := h.own
  exact ⟨⟨D, owns_fr h1 hf hn, h2⟩, h.nd⟩
theorem BMap.keep (h : BMap W b P) (hb : Below W.heap.size W W') : BMap W' b P := h.fr (Fr.of_below hb (fun _ => False)) (fun h => h)
theorem BMap.blk {g t : Nat} {cs : Array Value} (h : BMap W b P) (hB : Blk W g t cs) : g ≠ b := by
  obtain ⟨D, h1, _⟩ := h.own
  exact owns_blk h1 hB
theorem BMap.made (W : World) : BMap (W.alloc (.map #[] 0)) W.heap.size [] :=
  ⟨⟨.map [], World.ownsMap_made W _ _ _, rfl, fun s => by simp [DataW.atKey], fun s => by simp [Maps.has]⟩, List.nodup_nil⟩
theorem BMap.look (h : BMap W b P) {s : List UInt8} (hs : s.length ≤ maxLen) : (Instr.lookup 43 (.map (some b)) (.string ⟨s.toArray⟩) false).run Try.prog W = .ok (.bool (decide (s ∈ P))) W := by
  obtain ⟨D, h1, _, h3, _⟩ := h.own
  obtain ⟨v, ps, hrun, hv⟩ := World.ownsMap.lookup h1 ckS Try.underlying43 (czero W) rfl (ckey hs)
  rw [h3] at hv
  simp only [hE, Option.some.injEq, Prod.mk.injEq, DataW.held.injEq] at hv
  rw [hrun, hv.1]
theorem addN_len (P : Nms) (x : List UInt8) : (addN P x).length = if x ∈ P then P.length else P.length + 1 := by
  unfold addN
  split <;> simp
theorem BMap.put (h : BMap W b P) {x : List UInt8} (hx : x.length ≤ maxLen) (hP : P.length < maxLen) :
    ∃ w', (Instr.mapUpdate 43 (.map (some b)) (.string ⟨x.toArray⟩) (.bool true)).run Try.prog W = .ok () w' ∧ BMap w' b (addN P x) ∧ Fr (fun k => k = b) W w' := by
  obtain ⟨D, h1, h2, h3, h4⟩ := h.own
  obtain ⟨wu, r1, r2, r3⟩ := World.ownsMap.store (val := .bool true) (d := .held (.bool true)) (ps := []) h1 ckS Try.underlying43 hP (ckey hx) rfl
  have hsz : Maps.size (D.put (.string x) (.held (.bool true))) = (addN P x).length := by
    rw [size_put (h1.tidy ckS), h4, h2, addN_len]
    by_cases hm : x ∈ P <;> simp [hm]
  refine ⟨wu, r1, ⟨⟨_, by rw [← hsz]; exact owns_size r2, hsz, fun s => ?_, fun s => ?_⟩, ?_⟩, Fr.of_grown r3.grown fun k hk _ => (Option.some.inj hk).symm⟩
  · by_cases hs : s = x
    · subst hs
      rw [atKey_put_same h1.isMap (by trivial)]
      have : s ∈ addN P s := mem_addN.2 (.inr rfl)
      simp [this]
    · rw [atKey_put_other (by simpa using hs), h3]
      have : s ∈ addN P x ↔ s ∈ P := by rw [mem_addN]; exact ⟨fun h => h.resolve_right hs, .inl⟩
      simp [this]
  · by_cases hs : s = x
    · subst hs
      rw [has_put_same h1.isMap (by trivial)]
      have : s ∈ addN P s := mem_addN.2 (.inr rfl)
      simp [this]
    · rw [has_put_other (by simpa using hs), h4]
      have : s ∈ addN P x ↔ s ∈ P := by rw [mem_addN]; exact ⟨fun h => h.resolve_right hs, .inl⟩
      simp [this]
  · unfold addN
    split
    · exact h.nd
    · rename_i hm
      exact List.nodup_append.2 ⟨h.nd, by simp, fun a ha c hc e => hm (by rw [List.mem_singleton.1 hc] at e; rw [← e]; exact ha)⟩
end
/-- A scope: none, or a set of names. -/
def SC (W : World) (v : Value) (P : Nms) : Prop := (v = .map none ∧ P = []) ∨ ∃ b, v = .map (some b) ∧ BMap W b P
section
variable {W W' : World} {v : Value} {P : Nms}
theorem SC.form (h : SC W v P) : ∃ r, v = .map r := by
  rcases h with ⟨h, _⟩ | ⟨b, h, _⟩
  · exact ⟨_, h⟩
  · exact ⟨_, h⟩
theorem SC.nd (h : SC W v P) : P.Nodup := by
  rcases h with ⟨_, h⟩ | ⟨b, _, h⟩
  · rw [h]; exact List.nodup_nil
  · exact h.nd
theorem SC.keep (h : SC W v P) (hb : Below W.heap.size W W') : SC W' v P := by
  rcases h with h | ⟨b, h1, h2⟩
  · exact .inl h
  · exact .inr ⟨b, h1, h2.keep hb⟩
theorem SC.fr {g t : Nat} {cs : Array Value} (h : SC W v P) (hB : Blk W g t cs) (hf : Fr (fun k => k = g) W W') : SC W' v P := by
  rcases h with h | ⟨b, h1, h2⟩
  · exact .inl h
  · exact .inr ⟨b, h1, h2.fr hf (fun e => h2.blk hB e.symm)⟩
theorem SC.look (h : SC W v P) {s : List UInt8} (hs : s.length ≤ maxLen) : (Instr.lookup 43 v (.string ⟨s.toArray⟩) false).run Try.prog W = .ok (.bool (decide (s ∈ P))) W := by
  rcases h with ⟨rfl, rfl⟩ | ⟨b, rfl, h2⟩
  · rw [Maps.look_nil false ckS Try.underlying43 (czero W) (ckey hs)]
    simp
  · exact h2.look hs
end
/-- The names of the program, in memory. -/
def NM (W : World) (mb : Nat) (nm? : List UInt8 → Nat → Bool) : Prop := ∃ n, ∃ D : DataW Value, W.ownsMap Try.prog 55 hE mb n D ∧
  ∀ V, V.ownsMap Try.prog 55 hE mb n D → ∀ (s : List UInt8) (n : Nat), s.length ≤ maxLen → n ≤ 9223372036854775807 → (Instr.lookup 72 (.map (some mb)) (.agg #[.string ⟨s.toArray⟩, .int .i64 (n : Int)]) false).run Try.prog V = .ok (.bool (nm? s n)) V
theorem NM.fr {F : Nat → Prop} {W W' : World} {mb : Nat} {nm? : List UInt8 → Nat → Bool} (h : NM W mb nm?) (hf : Fr F W W') (hn : ¬ F mb) : NM W' mb nm? := by
  obtain ⟨n, D, h1, h2⟩ := h
  exact ⟨n, D, owns_fr h1 hf hn, h2⟩
theorem NM.look {W : World} {mb : Nat} {nm? : List UInt8 → Nat → Bool} (h : NM W mb nm?) {s : List UInt8} {n : Nat} (hs : s.length ≤ maxLen) (hn : n ≤ 9223372036854775807) : (Instr.lookup 72 (.map (some mb)) (.agg #[.string ⟨s.toArray⟩, .int .i64 (n : Int)]) false).run Try.prog W = .ok (.bool (nm? s n)) W := by
  obtain ⟨k, D, h1, h2⟩ := h
  exact h2 W h1 s n hs hn
/-- The checker, in memory. -/
structure CK (cb mb : Nat) (nm? : List UInt8 → Nat → Bool) (s : CS) (W : World) : Prop where
  obj : Blk W cb 76 #[.map (some mb), .int .i64 s.e, .int .i64 s.at_]
  nms : NM W mb nm?
  ne : mb ≠ cb
abbrev CFr (cb : Nat) := Fr (fun k => k = cb)
section
variable {cb mb : Nat} {nm? : List UInt8 → Nat → Bool} {s s' : CS} {W W' : World}
theorem CK.keep (h : CK cb mb nm? s W) (hb : Below W.heap.size W W') : CK cb mb nm? s W' := ⟨h.obj.keep hb, h.nms.fr (Fr.of_below hb (fun _ => False)) (fun h => h), h.ne⟩
theorem CK.far {F : Nat → Prop} (h : CK cb mb nm? s W) (hf : Fr F W W') (h1 : ¬ F cb) (h2 : ¬ F mb) : CK cb mb nm? s W' := ⟨hf.blk h.obj h1, h.nms.fr hf h2, h.ne⟩
theorem CK.set_ (h : CK cb mb nm? s W) (e a : Int) : CK cb mb nm? ⟨e, a⟩ ((W.setCell ⟨cb, 1, none⟩ (.int .i64 e)).setCell ⟨cb, 2, none⟩ (.int .i64 a)) ∧ CFr cb W ((W.setCell ⟨cb, 1, none⟩ (.int .i64 e)).setCell ⟨cb, 2, none⟩ (.int .i64 a)) := by
  have f1 := Fr.setCell (fun k => k = cb) W (p := ⟨cb, 1, none⟩) (fun _ => rfl) (.int .i64 e)
  have f2 := Fr.setCell (fun k => k = cb) (W.setCell ⟨cb, 1, none⟩ (.int .i64 e)) (p := ⟨cb, 2, none⟩) (fun _ => rfl) (.int .i64 a)
  exact ⟨⟨(h.obj.set_ 1 _).set_ 2 _, h.nms.fr (f1.same f2) h.ne, h.ne⟩, f1.same f2⟩
set_option maxHeartbeats 1000000 in
theorem sound_any (h : CK cb mb nm? s W) : Calls Try.prog 52 #[.pointer (some ⟨cb, 0, none⟩)] W fun e w' => e = .returned (.bool (s.e == 0)) ∧ Below W.heap.size W w' := by
  have c1 := h.obj.cell 1
  clear h
  go_enter Try.func52, Try.ntmps52
  go_wp2
  go_ret
  exact ⟨rfl, Below.refl _ _⟩
set_option maxHeartbeats 1000000 in
theorem cfails_any (h : CK cb mb nm? s W) (e a : Int) : Calls Try.prog 27 #[.pointer (some ⟨cb, 0, none⟩), .int .i64 e, .int .i64 a] W fun r w' => r = .returned (.tuple #[]) ∧ CK cb mb nm? (failC e a s) w' ∧ CFr cb W w' := by
  have HS := Lib.hid (sound_any h)
  have HK := Lib.hid h
  by_cases he : s.e = 0
  · have d1 : (s.e == 0) = true := by simpa using he
    have HR := Lib.hid (show failC e a s = ⟨e, a⟩ by unfold failC; rw [if_pos he])
    clear h he
    go_enter Try.func27, Try.ntmps27
    go_upto_region 1 with (go_at_call 52; refine HS.out.mono ?_; rintro r V ⟨rfl, hb⟩)
    have hk := HK.out.keep hb
    have c1 := hk.obj.cell 1
    have c2 := hk.obj.cell 2
    have f1 := hk.obj.frozen 1
    have f2 := hk.obj.frozen 2
    go_wp2
    go_end0
    rw [HR.out]
    obtain ⟨k1, k2⟩ := hk.set_ e a
    exact ⟨rfl, k1, (Fr.of_below hb _).same k2⟩
  · have d1 : (s.e == 0) = false := by simpa using he
    have HR := Lib.hid (show failC e a s = s by unfold failC; rw [if_neg he])
    clear h he
    go_enter Try.func27, Try.ntmps27
    go_wp2_with (go_at_call 52; refine HS.out.mono ?_; rintro r V ⟨rfl, hb⟩)
    go_end0
    rw [HR.out]
    exact ⟨rfl, HK.out.keep hb, Fr.of_below hb _⟩
end
set_option maxRecDepth 100000 in
set_option maxHeartbeats 2000000 in
/-- A set with one more. -/
theorem with_any {W : World} {v : Value} {P : Nms} (h : SC W v P) {x : List UInt8} {g : Nat} (hg : W.cell? ⟨g, 0, none⟩ = some (.string ⟨x.toArray⟩)) (hx : x.length ≤ maxLen) (hP : P.length < maxLen) :
    Calls Try.prog 66 #[v, .slice (some ⟨g, 0, none⟩) 1 1] W fun e w' => ∃ v', e = .returned v' ∧ SC w' v' (addN P x) ∧ Below W.heap.size W w' := by
  have HCL : Hid (Calls Try.prog 72 #[v] W fun e w' => ∃ r, e = .returned (.map r) ∧ (r = none ∧ P = [] ∨ ∃ b, r = some b ∧ BMap w' b P ∧ W.heap.size ≤ b) ∧ Below W.heap.size W w') := by
    rcases h with ⟨rfl, rfl⟩ | ⟨b, rfl, h2⟩
    · exact (AnyW.maps_Clone_nil Try.mclone72 W).mono fun e w' ⟨h1, h2⟩ => ⟨none, h1, .inl ⟨rfl, rfl⟩, by rw [h2]; exact Below.refl _ _⟩
    · obtain ⟨D, h3, h4, h5, h6⟩ := h2.own
      exact (AnyW.maps_Clone_owns Try.mclone72 9 hE b P.length D W h3).mono fun e w' ⟨k1, k2, k3, k4⟩ => ⟨some W.heap.size, k1, .inr ⟨W.heap.size, rfl, ⟨⟨D, k2, h4, h5, h6⟩, h2.nd⟩, Nat.le_refl _⟩, k4⟩
  have HG := Lib.hid hg
  have HX := Lib.hid hx
  have HP := Lib.hid hP
  have hgl := World.block_lt_of_cell? W _ hg
  obtain ⟨r0, rfl⟩ := h.form
  clear h hg hx hP
  have qT : ∀ (w : World) (r : Option Nat), (binOp .eql 43 (.map r) (.map none)).run Try.prog w = .ok (.bool r.isNone) w := fun w r => run_eql_map_nil w _ _ _ r Try.underlying43
  have hmm := @run_makeMap Try.prog
  go_enter Try.func66, Try.ntmps66
  go_upto_region 2 with (go_at_call 72; refine HCL.out.mono ?_; rintro e V ⟨r, rfl, hr, hb⟩)
  have HB := Lib.hid hb
  have HR := Lib.hid hr
  clear hb hr HCL
  cases r
  case' none =>
    have hP0 : P = [] := by
      rcases HR.out with ⟨_, h9⟩ | ⟨b, h9, _⟩
      · exact h9
      · cases h9
    go_upto_region 4 with (fail)
    obtain ⟨b, hbe⟩ : ∃ b, V.heap.size = b := ⟨_, rfl⟩
    rw [hbe]
    refine wp_world (fun V' => BMap V' b P ∧ W.heap.size ≤ b ∧ Below W.heap.size W V') ⟨by rw [← hbe, hP0]; exact BMap.made V, by rw [← hbe]; exact HB.out.size, below_step HB.out (below_alloc _ _)⟩ ?_
    clear hbe HB HR hP0
  case' some b =>
    have hQ : BMap V b P ∧ W.heap.size ≤ b := by
      rcases HR.out with ⟨h9, _⟩ | ⟨b', h9, h8⟩
      · cases h9
      · obtain rfl := Option.some.inj h9
        exact h8
    have HQ := Lib.hid hQ
    clear hQ
    go_upto_region 4 with (fail)
    refine wp_world (fun V' => BMap V' b P ∧ W.heap.size ≤ b ∧ Below W.heap.size W V') ⟨HQ.out.1, HQ.out.2, HB.out⟩ ?_
    clear HB HR HQ
  all_goals
    clear qT hmm
    rintro V1 ⟨hm, hle, hbb⟩
    have HM := Lib.hid hm
    have HB1 := Lib.hid hbb
    clear hm hbb
    go_upto_region 5 with (fail)
    go_loopw [15] (fun i wr => (i = .int .i64 0 ∧ Hid (BMap wr b P ∧ Below W.heap.size W wr)) ∨ (i = .int .i64 1 ∧ Hid (BMap wr b (addN P x) ∧ Below W.heap.size W wr))) (fun i _ => 1 - (intOf i).toNat)
    case atStart => exact .inl ⟨rfl, HM.out, HB1.out⟩
    case round =>
      rcases hrel with ⟨rfl, HQ⟩ | ⟨rfl, HQ⟩
      · obtain ⟨w9, hrun, hm9, hf9⟩ := HQ.out.1.put HX.out HP.out
        have HM9 := Lib.hid hm9
        have HF9 := Lib.hid hf9
        have c0 := (HQ.out.2.cell hgl).trans HG.out
        clear hm9 hf9
        go_wp2
        go_roundw
        case rel => exact .inr ⟨rfl, HM9.out, HQ.out.2.trans (HF9.out.below HQ.out.2.size (fun k hk => by omega))⟩
        case measure => simp [intOf]
      · go_wp2
        go_ret
        exact ⟨_, rfl, .inr ⟨b, rfl, HQ.out.1⟩, HQ.out.2⟩
end Go.Proofs.Ythhindnjnijglaa
