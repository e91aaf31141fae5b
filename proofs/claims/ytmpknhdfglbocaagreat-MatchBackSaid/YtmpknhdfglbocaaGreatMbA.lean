/- Layer 13: the law's built (a pattern with its names replaced): what it leaves; the leaves but names. -/
import Derived.Test.YtmpknhdfglbocaaGreatMaM
import Derived.Test.YtmpknhdfglbocaaGreatMaQ
import Derived.Test.YtmpknhdfglbocaaGreatMaL
import Derived.Test.YtmpknhdfglbocaaGreatRdX
namespace Go.Proofs.YtmpknhdfglbocaaGreat
open Go.RowKit
set_option linter.unusedVariables false

abbrev svB (s : List UInt8) : Value := .string ⟨s.toArray⟩
theorem svB_one (l : List (List UInt8)) : ∀ u ∈ l.map svB, u.oneCell' = true := by
  intro u hu
  obtain ⟨s, _, rfl⟩ := List.mem_map.1 hu
  rfl
theorem strT : ElT Tryz.prog 47 9 (.string ⟨#[]⟩) 1 16 := ⟨Tryz.underlying47, by kernel_rfl, rfl, by omega⟩
theorem own_slcB {W : World} {base e size n : Nat} {v : Value} {xs : List Value} (h : W.ownsRow base e size v n xs) : ∃ A c, v = .slice A n c := by
  rcases h.2 with ⟨hv, hz⟩ | ⟨g, cap, cur, hv, _⟩
  · subst hz; exact ⟨none, 0, hv⟩
  · exact ⟨_, _, hv⟩
/-- A list of what it says is a row. -/
theorem own_atB {W : World} {base e n cap : Nat} {A : Option Addr} {xs : List Value} (h : W.ownsRow base e 1 (.slice A n cap) n xs) {j : Nat} {v : Value} (hv : xs[j]? = some v) : ∃ g, A = some ⟨g, 0, none⟩ ∧ W.cell? ⟨g, j, none⟩ = some v := by
  rcases h.2 with ⟨hs, hz⟩ | ⟨g, cap', cur, hs, _⟩
  · have := h.1
    subst hz
    obtain rfl : xs = [] := List.eq_nil_of_length_eq_zero (by simpa using this)
    simp at hv
  · obtain ⟨rfl, _, rfl⟩ := Value.slice.inj hs
    have := h.cells (g := g) rfl j v hv
    rw [Addr.add_lit, Nat.zero_add] at this
    exact ⟨g, rfl, this⟩

/-- The names that have been seen, in memory. -/
structure Seen (w0 : World) (sb : Nat) (v : Value) (L : List (List UInt8)) (w : World) : Prop where
  box : Blk w sb 47 #[v]
  own : w.ownsRow (sb + 1) 9 1 v L.length (L.map svB)
  bel : Below w0.heap.size w0 w
  le : w0.heap.size ≤ sb
/-- What a call leaves of it. -/
structure BRes (w0 : World) (sb : Nat) (v : Value) (n : Nat) (W : World) (k : Nat) (v' : Value) (L' : List (List UInt8)) (w' : World) : Prop where
  seen : Seen w0 sb v' L' w'
  le : L'.length ≤ n + k
  own : ∀ g, v'.ownBlock = some g → v.ownBlock = some g ∨ W.heap.size ≤ g
  fr : Fr (fun i => i = sb ∨ v.ownBlock = some i) W w'
/-- How built ends. -/
def BEnd (w0 : World) (sb : Nat) (v : Value) (n : Nat) (W : World) (t : TV) (e : Ending) (w' : World) : Prop :=
  ∃ (u : EX) (ok : Bool) (v' : Value) (L' : List (List UInt8)), e = .returned (.tuple #[.agg #[.int .i64 u.t.kind, .int .i64 u.t.int, .string ⟨u.t.name.toArray⟩, .slice u.A u.t.items.length u.c], .bool ok]) ∧ (ok = true → u.t = t) ∧ BRes w0 sb v n W t.parts v' L' w' ∧ RdX (fun i => sb ≤ i ∧ i < W.heap.size ∨ v'.ownBlock = some i) w' u.A u.c u.t.items
section
variable {w0 W W' : World} {sb : Nat} {v : Value} {L : List (List UInt8)}
theorem Seen.keep (h : Seen w0 sb v L W) (hb : Below W.heap.size W W') : Seen w0 sb v L W' := ⟨h.box.keep hb, own_far h.own hb, below_step h.bel hb, h.le⟩
theorem Seen.lt (h : Seen w0 sb v L W) : sb < W.heap.size := h.box.lt
theorem Seen.old (h : Seen w0 sb v L W) : w0.heap.size ≤ W.heap.size := h.bel.size
theorem Seen.apart (h : Seen w0 sb v L W) {g : Nat} (hg : v.ownBlock = some g) : sb < g ∧ g < W.heap.size := by have := h.own.lt g hg; omega
theorem BRes.same (h : Seen w0 sb v L W) (hb : Below W.heap.size W W') (k : Nat) : BRes w0 sb v L.length W k v L W' := ⟨h.keep hb, by omega, fun _ hg => .inl hg, Fr.of_below hb _⟩
theorem BEnd.flat (h : Seen w0 sb v L W) (hb : Below W.heap.size W W') (u t : TV) (ok : Bool) (hu : u.items = []) (hok : ok = true → u = t) : BEnd w0 sb v L.length W t (.returned (.tuple #[.agg #[.int .i64 u.kind, .int .i64 u.int, .string ⟨u.name.toArray⟩, .slice none u.items.length 0], .bool ok])) W' :=
  ⟨⟨u, none, 0⟩, ok, v, L, rfl, hok, BRes.same h hb _, by rw [hu]; exact RdX.nil_ _ _ _ _ (Nat.zero_le _)⟩
/-- What lies in old memory stands. -/
theorem rdx_old {V : World} {A : Option Addr} {c : Nat} {l : List TV} (h : RdM w0 A c l) (hb : Below w0.heap.size w0 V) {S : Nat → Prop} (hS : ∀ k, S k → w0.heap.size ≤ k) : RdX S V A c l := fun W' hk => h.kept fun p hp => by
  obtain ⟨u, hu⟩ := Option.isSome_iff_exists.1 hp
  have hlt := World.block_lt_of_cell? w0 p hu
  have h1 : V.cell? p = some u := (hb.cell hlt).trans hu
  rw [hu]
  exact hk.cells p (fun e => by have := hS _ e; omega) u h1
/-- A term that Check takes is what its head says. -/
theorem isT_head {k n : Int} {s : List UInt8} {l : List TV} (h : (TV.mk k n s l).isT = true) : headB k n s l.length = true ∧ TV.isL l = true := by
  simpa only [TV.isT, Bool.and_eq_true] using h
theorem isT_int {t : TV} (h : t.isT = true) (hk : t.kind = 1) : t = .mk 1 t.int [] [] := by
  cases t with
  | mk k n s l =>
    have hk : k = 1 := hk
    subst hk
    have h1 := (isT_head h).1
    simp only [headB, Int.reduceEq, if_true, Bool.and_eq_true, decide_eq_true_eq] at h1
    obtain ⟨⟨_, h2⟩, h3⟩ := h1
    rw [h3, List.eq_nil_of_length_eq_zero h2]
    rfl
theorem isT_atom {t : TV} (h : t.isT = true) (hk : t.kind = 2) : t = .mk 2 0 t.name [] := by
  cases t with
  | mk k n s l =>
    have hk : k = 2 := hk
    subst hk
    have h1 := (isT_head h).1
    simp only [headB, Int.reduceEq, if_false, if_true, Bool.and_eq_true, decide_eq_true_eq] at h1
    obtain ⟨⟨_, h2⟩, h3⟩ := h1
    rw [h3, List.eq_nil_of_length_eq_zero h2]
    rfl
theorem isT_nil {t : TV} (h : t.isT = true) (hk : t.kind = 7) : t = .mk 7 0 [] [] := by
  cases t with
  | mk k n s l =>
    have hk : k = 7 := hk
    subst hk
    have h1 := (isT_head h).1
    simp only [headB, Int.reduceEq, if_false, if_true, or_self, Bool.and_eq_true, decide_eq_true_eq] at h1
    obtain ⟨⟨h2, h3⟩, h4⟩ := h1
    rw [h3, h4, List.eq_nil_of_length_eq_zero h2]
theorem isT_tuple {t : TV} (h : t.isT = true) (hk : t.kind = 6) : t = .mk 6 0 [] t.items ∧ TV.isL t.items = true := by
  cases t with
  | mk k n s l =>
    have hk : k = 6 := hk
    subst hk
    obtain ⟨h1, h9⟩ := isT_head h
    simp only [headB, Int.reduceEq, if_false, if_true, or_self, Bool.and_eq_true, decide_eq_true_eq] at h1
    obtain ⟨h3, h4⟩ := h1
    rw [h3, h4]
    exact ⟨rfl, h9⟩
theorem isT_cons {t : TV} (h : t.isT = true) (hk : t.kind = 8) : t = .mk 8 0 [] t.items ∧ t.items.length = 2 ∧ TV.isL t.items = true := by
  cases t with
  | mk k n s l =>
    have hk : k = 8 := hk
    subst hk
    obtain ⟨h1, h9⟩ := isT_head h
    simp only [headB, Int.reduceEq, if_false, if_true, or_self, Bool.and_eq_true, decide_eq_true_eq] at h1
    obtain ⟨⟨h2, h3⟩, h4⟩ := h1
    rw [h3, h4]
    exact ⟨rfl, h2, h9⟩
theorem fitL_at {f : List UInt8 → Option TV} : ∀ {ps : List ND} {ts : List TV}, FitL f ps ts → ∀ {k : Nat} (h : k < ps.length) (h' : k < ts.length), FitP f ps[k] ts[k]
  | [], _, _, _, h, _ => by simp at h
  | _ :: _, [], _, _, _, h' => by simp at h'
  | p :: ps, t :: ts, hf, 0, _, _ => by simp only [FitL] at hf; exact hf.1
  | p :: ps, t :: ts, hf, k + 1, h, h' => by simp only [FitL] at hf; exact fitL_at hf.2 (by simpa using h) (by simpa using h')
theorem cons_rdx {S : Nat → Prop} (hS : ∀ k, S k → k < W.heap.size) {x y : EX} {nx ny g : Nat} (hnx : x.t.items.length = nx) (hny : y.t.items.length = ny) (hx : RdX S W x.A x.c x.t.items) (hy : RdX S W y.A y.c y.t.items) {W3 : World} (hg : W3.heap.size = g) (hb : Below W.heap.size W W3) :
    RdX S (W3.alloc (.cells #[.int .i64 x.t.kind, .int .i64 x.t.int, .string ⟨x.t.name.toArray⟩, .slice x.A nx x.c, .int .i64 y.t.kind, .int .i64 y.t.int, .string ⟨y.t.name.toArray⟩, .slice y.A ny y.c] 35)) (some ⟨g, 0, none⟩) 2 [x.t, y.t] := by
  have hbk := blkB_newAt (W := W3) (t := 35) (cs := #[.int .i64 x.t.kind, .int .i64 x.t.int, .string ⟨x.t.name.toArray⟩, .slice x.A nx x.c, .int .i64 y.t.kind, .int .i64 y.t.int, .string ⟨y.t.name.toArray⟩, .slice y.A ny y.c]) hg
  have hsz := hb.size
  intro W'' hk
  have hx2 := (hx.below (below_step hb (below_alloc _ _))) W'' hk
  have hy2 := (hy.below (below_step hb (below_alloc _ _))) W'' hk
  have hc : ∀ i u, (#[.int .i64 x.t.kind, .int .i64 x.t.int, .string ⟨x.t.name.toArray⟩, .slice x.A nx x.c, .int .i64 y.t.kind, .int .i64 y.t.int, .string ⟨y.t.name.toArray⟩, .slice y.A ny y.c] : Array Value)[i]? = some u → W''.cell? ⟨g, i, none⟩ = some u := fun i u hu => hk.cells ⟨_, i, none⟩ (fun e => by have h9 := hS _ e; simp only at h9; omega) u ((hbk.cell i).trans hu)
  refine ⟨Nat.le_refl _, by omega, .inr ⟨_, 0, rfl, ?_⟩⟩
  simp only [TV.Row, and_true]
  exact ⟨(TV.at_iff _ _ _).2 ⟨hc 0 _ rfl, hc 1 _ rfl, hc 2 _ rfl, x.A, x.c, by rw [hnx]; exact hc 3 _ rfl, hx2⟩, (TV.at_iff _ _ _).2 ⟨hc 4 _ rfl, hc 5 _ rfl, hc 6 _ rfl, y.A, y.c, by rw [hny]; exact hc 7 _ rfl, hy2⟩⟩
theorem tcons_x {S : Nat → Prop} (hS : ∀ k, S k → k < W.heap.size) (x y : EX) (hx : RdX S W x.A x.c x.t.items) (hy : RdX S W y.A y.c y.t.items) :
    Calls Tryz.prog 40 #[.agg #[.int .i64 x.t.kind, .int .i64 x.t.int, .string ⟨x.t.name.toArray⟩, .slice x.A x.t.items.length x.c], .agg #[.int .i64 y.t.kind, .int .i64 y.t.int, .string ⟨y.t.name.toArray⟩, .slice y.A y.t.items.length y.c]] W
      fun e w' => ∃ g, e = .returned (.agg #[.int .i64 8, .int .i64 0, .string ⟨#[]⟩, .slice (some ⟨g, 0, none⟩) 2 2]) ∧ RdX S w' (some ⟨g, 0, none⟩) 2 [x.t, y.t] ∧ Below W.heap.size W w' := by
  have HX := Lib.hid hx
  have HY := Lib.hid hy
  have HS := Lib.hid hS
  obtain ⟨nx, hnx⟩ : ∃ n, x.t.items.length = n := ⟨_, rfl⟩
  obtain ⟨ny, hny⟩ : ∃ n, y.t.items.length = n := ⟨_, rfl⟩
  rw [hnx, hny]
  have HNX := Lib.hid hnx
  have HNY := Lib.hid hny
  clear hx hy hS hnx hny
  go_enter Tryz.func40, Tryz.ntmps40
  go_wp2
  refine bodyPost_ret (v := .agg #[.int .i64 8, .int .i64 0, .string ⟨#[]⟩, .slice (some ⟨W.heap.size + 1 + 1 + 1, 0, none⟩) 2 2]) (by simp [results, Tryz.results40, go_sem]) rfl ?_
  have hb3 := below_step (below_step (below_alloc W (.cells #[.int .i64 x.t.kind, .int .i64 x.t.int, .string ⟨x.t.name.toArray⟩, .slice x.A nx x.c] 35)) (below_alloc _ (.cells #[.int .i64 y.t.kind, .int .i64 y.t.int, .string ⟨y.t.name.toArray⟩, .slice y.A ny y.c] 35))) (below_alloc _ (.cells #[.int .i64 8, .int .i64 0, .string ⟨#[]⟩, .slice (some ⟨W.heap.size + 1 + 1 + 1, 0, none⟩) 2 2] 35))
  exact ⟨_, rfl, cons_rdx HS.out HNX.out HNY.out HX.out HY.out (by simp) hb3, below_step hb3 (below_alloc _ _)⟩
end

/-- The boxes of built: the pattern, the result. -/
structure BI (W : World) (cs : Array Value) (V : World) : Prop where
  p : Blk V W.heap.size 29 cs
  r : Blk V (W.heap.size + 1) 35 #[.int .i64 0, .int .i64 0, .string ⟨#[]⟩, .slice none 0 0]
  bel : Below W.heap.size W V
section
variable {w0 W V V' : World} {cs : Array Value}
theorem BI.new (W : World) (cs : Array Value) : BI W cs ((W.alloc (.cells cs 29)).alloc (.cells #[.int .i64 0, .int .i64 0, .string ⟨#[]⟩, .slice none 0 0] 35)) :=
  ⟨(Blk.new _ _ _).alloc _, blkB_newAt (by simp), below_step (below_alloc _ _) (below_alloc _ _)⟩
theorem BI.keep (h : BI W cs V) (hb : Below V.heap.size V V') : BI W cs V' := ⟨h.p.keep hb, h.r.keep hb, below_step h.bel hb⟩
variable {sb : Nat} {v : Value} {L : List (List UInt8)}
set_option maxRecDepth 100000 in
set_option maxHeartbeats 2000000 in
theorem built_k1 (hS : Seen w0 sb v L W) (n : Int) (s : List UInt8) (a : Int) (l : List ND) (A : Option Addr) (c : Nat) (v5 v6 : Value) (D : Option Addr) (ne e : Nat) (t : TV) (ht : t = .mk 1 n [] []) :
    Calls Tryz.prog 18 #[.agg #[.int .i64 1, .int .i64 n, .string ⟨s.toArray⟩, .int .i64 a, .slice A l.length c, v5, v6], .slice D ne e, .pointer (some ⟨sb, 0, none⟩)] W (BEnd w0 sb v L.length W t) := by
  have HF := Lib.hid (fun V (hb : Below W.heap.size W V) => BEnd.flat hS hb (.mk 1 n [] []) t true rfl (fun _ => ht.symm))
  clear hS ht
  generalize l.length = len at *
  go_enter Tryz.func18, Tryz.ntmps18
  go_upto_region 1 with (fail)
  refine wp_world (BI W #[.int .i64 1, .int .i64 n, .string ⟨s.toArray⟩, .int .i64 a, .slice A len c, v5, v6]) (BI.new W _) ?_
  intro V hV
  have p0 := hV.p.cell 0
  have p1 := hV.p.cell 1
  have HV := Lib.hid hV
  clear hV
  go_upto_region 3 with (fail)
  go_wp2_with (go_at_call 21; refine (tint_any _ _).mono ?_; rintro e w5 ⟨rfl, hb5⟩; have hr5 := HV.out.r.keep hb5; have f0 := hr5.frozen 0; have f1 := hr5.frozen 1; have f2 := hr5.frozen 2; have f3 := hr5.frozen 3; have z0 := hr5.cell 0; have z1 := hr5.cell 1; have z2 := hr5.cell 2; have z3 := hr5.cell 3)
  have hset := hr5.set4 (.int .i64 1) (.int .i64 n) (.string ⟨#[]⟩) (.slice none 0 0)
  have hf4 := fr_set4 w5 (W.heap.size + 1) (.int .i64 1) (.int .i64 n) (.string ⟨#[]⟩) (.slice none 0 0)
  have c0 := hset.cell 0
  have c1 := hset.cell 1
  have c2 := hset.cell 2
  have c3 := hset.cell 3
  refine bodyPost_ret (v := .tuple #[.agg #[.int .i64 1, .int .i64 n, .string ⟨#[]⟩, .slice none 0 0], .bool true]) (by simp [results, Tryz.results18, go_sem, c0, c1, c2, c3]) rfl ?_
  have hb9 := below_step HV.out.bel hb5
  exact HF.out _ (hb9.trans (hf4.below hb9.size (fun k hk => by omega)))
set_option maxRecDepth 100000 in
set_option maxHeartbeats 2000000 in
theorem built_k2 (hS : Seen w0 sb v L W) (n : Int) (s : List UInt8) (a : Int) (l : List ND) (A : Option Addr) (c : Nat) (v5 v6 : Value) (D : Option Addr) (ne e : Nat) (t : TV) (ht : t = .mk 2 0 s []) :
    Calls Tryz.prog 18 #[.agg #[.int .i64 2, .int .i64 n, .string ⟨s.toArray⟩, .int .i64 a, .slice A l.length c, v5, v6], .slice D ne e, .pointer (some ⟨sb, 0, none⟩)] W (BEnd w0 sb v L.length W t) := by
  have HF := Lib.hid (fun V (hb : Below W.heap.size W V) => BEnd.flat hS hb (.mk 2 0 s []) t true rfl (fun _ => ht.symm))
  clear hS ht
  generalize l.length = len at *
  go_enter Tryz.func18, Tryz.ntmps18
  go_upto_region 1 with (fail)
  refine wp_world (BI W #[.int .i64 2, .int .i64 n, .string ⟨s.toArray⟩, .int .i64 a, .slice A len c, v5, v6]) (BI.new W _) ?_
  intro V hV
  have p0 := hV.p.cell 0
  have p2 := hV.p.cell 2
  have HV := Lib.hid hV
  clear hV
  go_upto_region 5 with (fail)
  go_wp2_with (go_at_call 38; refine (tatom_v _ _).mono ?_; rintro e w5 ⟨rfl, hb5⟩; have hr5 := HV.out.r.keep hb5; have f0 := hr5.frozen 0; have f1 := hr5.frozen 1; have f2 := hr5.frozen 2; have f3 := hr5.frozen 3; have z0 := hr5.cell 0; have z1 := hr5.cell 1; have z2 := hr5.cell 2; have z3 := hr5.cell 3)
  have hset := hr5.set4 (.int .i64 2) (.int .i64 0) (.string ⟨s.toArray⟩) (.slice none 0 0)
  have hf4 := fr_set4 w5 (W.heap.size + 1) (.int .i64 2) (.int .i64 0) (.string ⟨s.toArray⟩) (.slice none 0 0)
  have c0 := hset.cell 0
  have c1 := hset.cell 1
  have c2 := hset.cell 2
  have c3 := hset.cell 3
  refine bodyPost_ret (v := .tuple #[.agg #[.int .i64 2, .int .i64 0, .string ⟨s.toArray⟩, .slice none 0 0], .bool true]) (by simp [results, Tryz.results18, go_sem, c0, c1, c2, c3]) rfl ?_
  have hb9 := below_step HV.out.bel hb5
  exact HF.out _ (hb9.trans (hf4.below hb9.size (fun k hk => by omega)))
set_option maxRecDepth 100000 in
set_option maxHeartbeats 2000000 in
theorem built_k5 (hS : Seen w0 sb v L W) (n : Int) (s : List UInt8) (a : Int) (l : List ND) (A : Option Addr) (c : Nat) (v5 v6 : Value) (D : Option Addr) (ne e : Nat) (t : TV) (ht : t = .mk 7 0 [] []) :
    Calls Tryz.prog 18 #[.agg #[.int .i64 5, .int .i64 n, .string ⟨s.toArray⟩, .int .i64 a, .slice A l.length c, v5, v6], .slice D ne e, .pointer (some ⟨sb, 0, none⟩)] W (BEnd w0 sb v L.length W t) := by
  have HF := Lib.hid (fun V (hb : Below W.heap.size W V) => BEnd.flat hS hb (.mk 7 0 [] []) t true rfl (fun _ => ht.symm))
  clear hS ht
  generalize l.length = len at *
  go_enter Tryz.func18, Tryz.ntmps18
  go_upto_region 1 with (fail)
  refine wp_world (BI W #[.int .i64 5, .int .i64 n, .string ⟨s.toArray⟩, .int .i64 a, .slice A len c, v5, v6]) (BI.new W _) ?_
  intro V hV
  have p0 := hV.p.cell 0
  have HV := Lib.hid hV
  clear hV
  go_upto_region 7 with (fail)
  go_wp2_with (go_at_call 39; refine (tnil_v _).mono ?_; rintro e w5 ⟨rfl, hb5⟩; have hr5 := HV.out.r.keep hb5; have f0 := hr5.frozen 0; have f1 := hr5.frozen 1; have f2 := hr5.frozen 2; have f3 := hr5.frozen 3; have z0 := hr5.cell 0; have z1 := hr5.cell 1; have z2 := hr5.cell 2; have z3 := hr5.cell 3)
  have hset := hr5.set4 (.int .i64 7) (.int .i64 0) (.string ⟨#[]⟩) (.slice none 0 0)
  have hf4 := fr_set4 w5 (W.heap.size + 1) (.int .i64 7) (.int .i64 0) (.string ⟨#[]⟩) (.slice none 0 0)
  have c0 := hset.cell 0
  have c1 := hset.cell 1
  have c2 := hset.cell 2
  have c3 := hset.cell 3
  refine bodyPost_ret (v := .tuple #[.agg #[.int .i64 7, .int .i64 0, .string ⟨#[]⟩, .slice none 0 0], .bool true]) (by simp [results, Tryz.results18, go_sem, c0, c1, c2, c3]) rfl ?_
  have hb9 := below_step HV.out.bel hb5
  exact HF.out _ (hb9.trans (hf4.below hb9.size (fun k hk => by omega)))
set_option maxRecDepth 100000 in
set_option maxHeartbeats 2000000 in
theorem built_k10 (hS : Seen w0 sb v L W) (n : Int) (s : List UInt8) (a : Int) (l : List ND) (A : Option Addr) (c : Nat) (v5 v6 : Value) (D : Option Addr) (ne e : Nat) (t : TV) (hl : l.length = 1) (hR : RdN NoB W A c l) (ht : t = .mk 1 (negK l) [] []) :
    Calls Tryz.prog 18 #[.agg #[.int .i64 10, .int .i64 n, .string ⟨s.toArray⟩, .int .i64 a, .slice A l.length c, v5, v6], .slice D ne e, .pointer (some ⟨sb, 0, none⟩)] W (BEnd w0 sb v L.length W t) := by
  obtain ⟨b, o, x, rfl, hx, hok, e0, e1, e2, e3, e4, e5, e6⟩ := rdn_item hR (k := 0) (by omega)
  have hk : negK l = IntKind.i64.wrap (-x.t.int) := by
    rw [hx]
    match l, hl with
    | [y], _ => rfl
  obtain ⟨nm, hneg⟩ : ∃ nm, IntKind.i64.wrap (-x.t.int) = nm := ⟨_, rfl⟩
  rw [hk, hneg] at ht
  have hc : 1 ≤ c := by have := hR.1; omega
  have HF := Lib.hid (fun V (hb : Below W.heap.size W V) => BEnd.flat hS hb (.mk 1 nm [] []) t true rfl (fun _ => ht.symm))
  rw [hl]
  simp only [Nat.zero_mul, Nat.add_zero, Nat.zero_add] at e1
  have hlt := World.block_lt_of_cell? W _ e1
  clear hx hok hk e0 e2 e3 e4 e5 e6 hR hl ht hS
  generalize x.t.int = z at *
  go_enter Tryz.func18, Tryz.ntmps18
  go_upto_region 1 with (fail)
  refine wp_world (BI W #[.int .i64 10, .int .i64 n, .string ⟨s.toArray⟩, .int .i64 a, .slice (some ⟨b, o, none⟩) 1 c, v5, v6]) (BI.new W _) ?_
  intro V hV
  have p0 := hV.p.cell 0
  have p4 := hV.p.cell 4
  have k1 := (hV.bel.cell hlt).trans e1
  have HV := Lib.hid hV
  clear hV e1
  go_upto_region 9 with (fail)
  go_wp2_with (go_at_call 21; refine (tint_any _ _).mono ?_; rintro e w5 ⟨rfl, hb5⟩; have hr5 := HV.out.r.keep hb5; have f0 := hr5.frozen 0; have f1 := hr5.frozen 1; have f2 := hr5.frozen 2; have f3 := hr5.frozen 3; have z0 := hr5.cell 0; have z1 := hr5.cell 1; have z2 := hr5.cell 2; have z3 := hr5.cell 3)
  have hset := hr5.set4 (.int .i64 1) (.int .i64 nm) (.string ⟨#[]⟩) (.slice none 0 0)
  have hf4 := fr_set4 w5 (W.heap.size + 1) (.int .i64 1) (.int .i64 nm) (.string ⟨#[]⟩) (.slice none 0 0)
  have c0 := hset.cell 0
  have c1 := hset.cell 1
  have c2 := hset.cell 2
  have c3 := hset.cell 3
  refine bodyPost_ret (v := .tuple #[.agg #[.int .i64 1, .int .i64 nm, .string ⟨#[]⟩, .slice none 0 0], .bool true]) (by simp [results, Tryz.results18, go_sem, c0, c1, c2, c3]) rfl ?_
  have hb9 := below_step HV.out.bel hb5
  exact HF.out _ (hb9.trans (hf4.below hb9.size (fun k hk => by omega)))
end
end Go.Proofs.YtmpknhdfglbocaaGreat
