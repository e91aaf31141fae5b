/- Layer 13: the law's built at tuples and at lists' cells, and at every pattern. Written by magenmb.py. -/
import Derived.Test.YtmpknhdfglbocaaGreatMbB
import Derived.StillTailTactics
namespace Go.Proofs.YtmpknhdfglbocaaGreat
open Go.RowKit
set_option linter.unusedVariables false

section
variable {w0 W : World} {sb : Nat} {v : Value} {L : List (List UInt8)}
theorem BJ.far {V V' : World} {cs : Array Value} {v1 : Value} {L1 : List (List UInt8)} {F : Nat → Prop} (h : BJ w0 W sb v L cs v1 L1 V) (hf : Fr F V V') (hF : ∀ k, F k → W.heap.size + 2 ≤ k) (hv : ∀ g, v1.ownBlock = some g → ¬ F g) : BJ w0 W sb v L cs v1 L1 V' := by
  have hlt := h.lt
  have hle := h.seen.le
  exact ⟨h.seen.far hf (fun e => by have := hF _ e; omega) hv (fun k e => by have := hF _ e; omega), hf.blk h.p (fun e => by have := hF _ e; omega), hf.blk h.r (fun e => by have := hF _ e; omega), h.own, h.fr.trans hf (fun i hi e => by have := hF _ e; omega), Nat.le_trans h.sz hf.size, h.apart, hlt⟩
/-- What the loop over the parts keeps. -/
structure BLp (w0 W : World) (sb : Nat) (v : Value) (L : List (List UInt8)) (cs : Array Value) (ts : List TV) (k : Nat) (v1 : Value) (L1 : List (List UInt8)) (l : Value) (xs : List EX) (V : World) : Prop where
  j : BJ w0 W sb v L cs v1 L1 V
  le : L1.length ≤ L.length + TV.partsL (ts.take k)
  row : V.ownsRow (W.heap.size + 2) 35 4 l k (exL xs)
  ne : ∀ g, l.ownBlock = some g → v1.ownBlock ≠ some g
  each : ∀ x ∈ xs, RdX (fun i => sb ≤ i ∧ i < W.heap.size + 2 ∨ v1.ownBlock = some i ∨ l.ownBlock = some i) V x.A x.c x.t.items
  map : xs.map (fun x : EX => x.t) = ts.take k
section
variable {cs : Array Value} {ts : List TV} {k : Nat} {v1 : Value} {L1 : List (List UInt8)} {l : Value} {xs : List EX} {V : World}
theorem BLp.start (h : BJ w0 W sb v L cs v1 L V) : BLp w0 W sb v L cs ts 0 v1 L (.slice none 0 0) [] V :=
  ⟨h, by simp, World.ownsRow_nil _ _ _ _, fun g hg => (by cases hg), fun x hx => (by simp at hx), by simp⟩
theorem BLp.len (h : BLp w0 W sb v L cs ts k v1 L1 l xs V) (hk : k ≤ ts.length) : xs.length = k := by
  have := congrArg List.length h.map
  simpa [Nat.min_eq_left hk] using this
theorem BLp.step {v2 l' : Value} {L2 : List (List UInt8)} {w5 V7 w8 : World} {u : EX} (h : BLp w0 W sb v L cs ts k v1 L1 l xs V) (hk : k < ts.length) (hB : BRes w0 sb v1 L1.length V (ts[k]).parts v2 L2 w5) (hu : u.t = ts[k]) (hx : RdX (fun i => sb ≤ i ∧ i < V.heap.size ∨ v2.ownBlock = some i) w5 u.A u.c u.t.items)
    (hb6 : Below w5.heap.size w5 V7) (ho : w8.ownsRow (W.heap.size + 2) 35 4 l' (k + 1) (exL xs ++ u.cells)) (hg : V7.grownBy w8 l.ownBlock) (hw : l'.ownBlock = l.ownBlock ∨ l'.ownBlock = some V7.heap.size) :
    BLp w0 W sb v L cs ts (k + 1) v2 L2 l' (xs ++ [u]) w8 := by
  have hsz := h.j.sz
  have hlt := h.j.lt
  have s5 := hB.fr.size
  have s7 := hb6.size
  have hl : ∀ g, l.ownBlock = some g → W.heap.size + 2 ≤ g ∧ g < V.heap.size := fun g hg => h.row.lt g hg
  have hv2 : ∀ g, v2.ownBlock = some g → v1.ownBlock = some g ∨ V.heap.size ≤ g := hB.own
  have hlv : ∀ g, v2.ownBlock = some g → l.ownBlock ≠ some g := fun g hg e => by
    rcases hv2 g hg with h9 | h9
    · exact h.ne g e h9
    · have := (hl g e).2; omega
  have hF : Fr (fun i => l.ownBlock = some i) V7 w8 := Fr.of_grown hg (fun k e _ => e)
  have hl' : ∀ g, l'.ownBlock = some g → l.ownBlock = some g ∨ g = V7.heap.size := fun g hg => by
    rcases hw with e | e
    · exact .inl (by rw [← e]; exact hg)
    · rw [e] at hg
      injection hg with hg
      exact .inr hg.symm
  refine ⟨((h.j.step hB.seen hB.own hB.fr).keep hb6).far hF (fun g e => (hl g e).1) (fun g hg e => hlv g hg e), ?_, ?_, ?_, ?_, ?_⟩
  · have h1 := hB.le
    have h2 := h.le
    have h3 := partsL_take ts k hk
    omega
  · rw [exL_append, exL_one]; exact ho
  · intro g hg e
    rcases hl' g hg with h9 | h9
    · exact hlv g e h9
    · have := (hB.seen.apart e).2; omega
  · intro y hy
    rcases List.mem_append.1 hy with hy | hy
    · have h1 := ((h.each y hy).new.to ((KeepEx.of_fr hB.fr).mono (fun i e => by
        rcases e with e | e
        · exact .inl (.inl (by omega))
        · exact .inl (.inr (.inl e))))).below hb6
      have h2 := h1.to ((KeepEx.of_fr hF).mono (fun i e => .inl (.inr (.inr e))))
      refine h2.mono fun i e => ?_
      rcases e with e | e | e
      · exact .inl (.inl e)
      · rcases hv2 i e with h9 | h9
        · exact .inl (.inr (.inl h9))
        · exact .inr h9
      · rcases hl' i e with h9 | h9
        · exact .inl (.inr (.inr h9))
        · exact .inr (by omega)
    · obtain rfl : y = u := by simpa using hy
      have h1 := (hx.new.below hb6).to ((KeepEx.of_fr hF).mono (fun i e => .inl (.inl (by have := hl i e; omega))))
      refine h1.mono fun i e => ?_
      rcases e with e | e | e
      · exact .inl (.inl (by omega))
      · exact .inl (.inr e)
      · rcases hl' i e with h9 | h9
        · exact .inl (.inl (by have := hl i h9; omega))
        · exact .inr (by omega)
  · rw [List.map_append, h.map, List.take_succ_eq_append_getElem hk, List.map_singleton, hu]
theorem BLp.rd {A : Option Addr} {c : Nat} (h : BLp w0 W sb v L cs ts ts.length v1 L1 (.slice A ts.length c) xs V) : RdX (fun i => sb ≤ i ∧ i < W.heap.size + 2 ∨ v1.ownBlock = some i) V A c ts := by
  have hm := h.map
  rw [List.take_length] at hm
  have := rdx_of_own h.row (h.len (Nat.le_refl _)) (fun i => sb ≤ i ∧ i < W.heap.size + 2 ∨ v1.ownBlock = some i) (fun g hg e => by
    have := h.row.lt g hg
    rcases e with e | e
    · omega
    · exact h.ne g hg e) (fun x hx => (h.each x hx).mono fun i e => e.imp id .inl)
  rwa [hm] at this
end
set_option maxRecDepth 100000 in
set_option maxHeartbeats 4000000 in
theorem built_k4 (hS : Seen w0 sb v L W) (n : Int) (s : List UInt8) (a : Int) (l : List ND) (A : Option Addr) (c : Nat) (v5 v6 : Value) (D : Option Addr) (ne d : Nat) (ts : List TV) (hR : RdN NoB w0 A c l) (hlen : l.length = ts.length) (hL : L.length + TV.partsL ts ≤ 2000000)
    (hI : ∀ (k : Nat) (h : k < l.length) (h' : k < ts.length) (x : EN) (V : World) (v1 : Value) (L1 : List (List UInt8)), x.t = l[k] → x.Ok NoB w0 → Seen w0 sb v1 L1 V → L1.length + (ts[k]).parts ≤ 2000000 → Calls Tryz.prog 18 #[.agg #[.int .i64 x.t.kind, .int .i64 x.t.int, .string ⟨x.t.name.toArray⟩, .int .i64 x.t.at_, .slice x.A x.t.kids.length x.c, .slice x.B x.t.clauses.length x.d, .slice x.C x.t.body.length x.e], .slice D ne d, .pointer (some ⟨sb, 0, none⟩)] V (BEnd w0 sb v1 L1.length V ts[k])) :
    Calls Tryz.prog 18 #[.agg #[.int .i64 4, .int .i64 n, .string ⟨s.toArray⟩, .int .i64 a, .slice A l.length c, v5, v6], .slice D ne d, .pointer (some ⟨sb, 0, none⟩)] W (BEnd w0 sb v L.length W (.mk 6 0 [] ts)) := by
  have hlc := hR.1
  have hlc2 := hR.2.1
  have HS := Lib.hid hS
  have HR := Lib.hid hR
  have HI := Lib.hid hI
  have HL := Lib.hid hL
  have hp1 := len_parts ts
  obtain ⟨len, hle⟩ : ∃ len, ts.length = len := ⟨_, rfl⟩
  rw [hle] at hlen hp1
  rw [hlen] at hlc
  have hbl : len ≤ 2000000 := by omega
  have HTL := Lib.hid hle
  have HLN := Lib.hid hlen

  clear hS hR hI hL hle hp1
  rw [hlen]
  clear hlen
  go_enter Tryz.func18, Tryz.ntmps18
  go_upto_region 1 with (fail)
  refine wp_world (BI W #[.int .i64 4, .int .i64 n, .string ⟨s.toArray⟩, .int .i64 a, .slice A len c, v5, v6]) (BI.new W _) ?_
  intro V1 hV
  have p0 := hV.p.cell 0
  have HJ := Lib.hid (BLp.start (ts := ts) (BJ.start HS.out hV))
  clear hV
  go_upto_region 20 with (fail)
  clear p0
  go_loopw [9, 10] (fun lv i wr => ∃ (k : Nat) (v1 : Value) (L1 : List (List UInt8)) (xs : List EX), k ≤ len ∧ i = .int .i64 k ∧ Hid (BLp w0 W sb v L #[.int .i64 4, .int .i64 n, .string ⟨s.toArray⟩, .int .i64 a, .slice A len c, v5, v6] ts k v1 L1 lv xs wr)) (fun _ i _ => len - (intOf i).toNat)
  case atStart => exact ⟨0, v, L, [], Nat.zero_le _, rfl, HJ.out⟩
  case round =>
    obtain ⟨k, v1, L1, xs, hk, rfl, HB⟩ := hrel
    clear HJ
    have p4 := HB.out.j.p.cell 4
    by_cases hlt : k < len
    · have hd1 : decide (k < len) = true := by simpa using hlt
      have hkl : k < l.length := by rw [HLN.out]; exact hlt
      have hkt : k < ts.length := by rw [HTL.out]; exact hlt
      obtain ⟨b, o, x, rfl, hx, hok, e0, e1, e2, e3, e4, e5, e6⟩ := rdn_item HR.out hkl
      have hpt : L1.length + (ts[k]).parts ≤ 2000000 := by
        have h1 := HB.out.le
        have h2 := partsL_take ts k hkt
        have h3 := partsL_take_le ts (k + 1)
        have h4 := HL.out
        omega
      have HC := Lib.hid (HI.out k hkl hkt x wr v1 L1 hx hok HB.out.j.seen hpt)
      have hw0 : ∀ {p : Addr} {u : Value}, w0.cell? p = some u → wr.cell? p = some u := fun {p u} h => (HB.out.j.seen.bel.cell (World.block_lt_of_cell? w0 p h)).trans h
      replace e0 := hw0 e0
      replace e1 := hw0 e1
      replace e2 := hw0 e2
      replace e3 := hw0 e3
      replace e4 := hw0 e4
      replace e5 := hw0 e5
      replace e6 := hw0 e6
      have hq1 : (0 : Int) ≤ (k : Int) := by omega
      have hq2 : (k : Int) < (len : Int) := by omega
      obtain ⟨t, ht⟩ : ∃ t, ts[k] = t := ⟨_, rfl⟩
      have HT := Lib.hid ht
      rw [ht] at HC
      clear hx hok hw0 ht hpt
      go_upto_region 23 with (go_at_call 18; refine HC.out.mono ?_; rintro e w5 ⟨u, ok, v2, L2, rfl, hok5, hB5, hx5⟩; have HO5 := Lib.hid hok5; have HB5 := Lib.hid hB5; have HX5 := Lib.hid hx5; clear hok5 hB5 hx5)
      refine wp_world (fun V => Blk V w5.heap.size 35 #[.int .i64 u.t.kind, .int .i64 u.t.int, .string ⟨u.t.name.toArray⟩, .slice u.A u.t.items.length u.c] ∧ Below w5.heap.size w5 V) ⟨Blk.new _ _ _, below_alloc _ _⟩ ?_
      rintro V6 ⟨hu6, hb6⟩
      have HU6 := Lib.hid hu6
      have HB6 := Lib.hid hb6
      have HJ6 := Lib.hid ((HB.out.j.step HB5.out.seen HB5.out.own HB5.out.fr).keep hb6)
      have u0 := hu6.cell 0
      have u1 := hu6.cell 1
      have u2 := hu6.cell 2
      have u3 := hu6.cell 3
      clear hu6 hb6 e0 e1 e2 e3 e4 e5 e6 p4
      cases ok with
      | false =>
        have hr5 := HJ6.out.r
        have f0 := hr5.frozen 0
        have z0 := hr5.cell 0
        have f1 := hr5.frozen 1
        have z1 := hr5.cell 1
        have f2 := hr5.frozen 2
        have z2 := hr5.cell 2
        have f3 := hr5.frozen 3
        have z3 := hr5.cell 3
        go_wp2
        have hset := hr5.set4 (.int .i64 0) (.int .i64 0) (.string ⟨#[]⟩) (.slice none 0 0)
        have hf4 := fr_set4 V6 (W.heap.size + 1) (.int .i64 0) (.int .i64 0) (.string ⟨#[]⟩) (.slice none 0 0)
        have c0 := hset.cell 0
        have c1 := hset.cell 1
        have c2 := hset.cell 2
        have c3 := hset.cell 3
        refine bodyPost_ret (v := .tuple #[.agg #[.int .i64 0, .int .i64 0, .string ⟨#[]⟩, .slice none 0 0], .bool false]) (by simp [results, Tryz.results18, go_sem, c0, c1, c2, c3]) rfl ?_
        refine HJ6.out.done (u := .mk 0 0 [] []) (A := none) (c := 0) (ok := false) ?_ (fun h => by cases h) (RdX.nil_ _ _ _ _ (by omega)) hf4
        have h1 := HB5.out.le
        have h2 := HB.out.le
        have h3 := partsL_take ts k hkt
        have h4 := partsL_take_le ts (k + 1)
        have h5 := HT.out
        rw [h5] at h3
        rw [TV.parts_eq]
        simp only [TV.items]
        omega
      | true =>
        obtain ⟨nx, hnx⟩ : ∃ nx, k = nx := ⟨_, rfl⟩
        have hO := HB.out.row
        have HFW := Lib.hid (HB5.out.fr)
        have hO5 : w5.ownsRow (W.heap.size + 2) 35 4 u9 k (exL xs) := own_fr hO HFW.out (fun g hg e => by
          have h1 := hO.lt g hg
          have h2 := HB.out.j.lt
          rcases e with e | e
          · omega
          · exact HB.out.ne g hg e)
        have HO6 := Lib.hid (own_far hO5 HB6.out)
        have hs6 : W.heap.size + 2 ≤ V6.heap.size := HJ6.out.sz
        clear hO hO5 HFW hnx
        go_wp2_with (at_builtin; refine wpList_app ex_termsT rfl (.tmp 93) (.tmp 95) rfl (W.heap.size + 2) u9 k (exL xs) rfl (HO6.out.alloc _) (some ⟨V6.heap.size, 0, none⟩) 1 1 u.cells rfl rfl (ex_news V6 u) (excells_one _) (by unfold maxLen; omega) (by omega) (by simp; omega) ?_; intro v8 w8 ho8 hg8 hw8)
        have HS8 := Lib.hid (HB.out.step hkt (by rw [HT.out]; exact HB5.out) (by rw [HT.out]; exact HO5.out rfl) HX5.out (below_step HB6.out (below_alloc _ _)) ho8 hg8 hw8)
        go_roundw
        case rel => exact ⟨k + 1, v2, L2, xs ++ [u], by omega, by go_num, HS8.out⟩
        case measure => simp [intOf]; omega
    · obtain rfl : k = len := by omega
      have hd1 : decide (k < k) = false := by simp
      obtain ⟨Al, cl, rfl⟩ := ex_form HB.out.row
      have HB2 := Lib.hid (show BLp w0 W sb v L #[.int .i64 4, .int .i64 n, .string ⟨s.toArray⟩, .int .i64 a, .slice A k c, v5, v6] ts ts.length v1 L1 (.slice Al ts.length cl) xs wr by rw [HTL.out]; exact HB.out)
      have HLE : Hid (L1.length ≤ L.length + (.mk 6 0 [] ts : TV).parts) := by
        have h1 := HB2.out.le
        rw [List.take_length] at h1
        unfold Hid
        rw [TV.parts_eq]
        simp only [TV.items]
        omega
      have p0 := HB.out.j.p.cell 0
      go_wp2_with (go_at_call 20; refine (ttuple_any _ _ _ _).mono ?_; rintro e w5 ⟨rfl, hb5⟩; have HJ5 := Lib.hid (HB2.out.j.keep hb5); have HX5 := Lib.hid (HB2.out.rd.below hb5); have hr5 := HJ5.out.r; have f0 := hr5.frozen 0; have z0 := hr5.cell 0; have f1 := hr5.frozen 1; have z1 := hr5.cell 1; have f2 := hr5.frozen 2; have z2 := hr5.cell 2; have f3 := hr5.frozen 3; have z3 := hr5.cell 3)
      have hset := hr5.set4 (.int .i64 6) (.int .i64 0) (.string ⟨#[]⟩) (.slice Al k cl)
      have hf4 := fr_set4 w5 (W.heap.size + 1) (.int .i64 6) (.int .i64 0) (.string ⟨#[]⟩) (.slice Al k cl)
      have c0 := hset.cell 0
      have c1 := hset.cell 1
      have c2 := hset.cell 2
      have c3 := hset.cell 3
      refine bodyPost_ret (v := .tuple #[.agg #[.int .i64 6, .int .i64 0, .string ⟨#[]⟩, .slice Al k cl], .bool true]) (by simp [results, Tryz.results18, go_sem, c0, c1, c2, c3]) rfl ?_
      have h9 := HJ5.out.done (u := .mk 6 0 [] ts) (t := .mk 6 0 [] ts) (A := Al) (c := cl) (ok := true) HLE.out (fun _ => rfl) HX5.out hf4
      simp only [TV.items, TV.kind, TV.int, TV.name, HTL.out] at h9
      exact h9
set_option maxRecDepth 100000 in
set_option maxHeartbeats 4000000 in
theorem built_k6 (hS : Seen w0 sb v L W) (n : Int) (s : List UInt8) (a : Int) (l : List ND) (A : Option Addr) (c : Nat) (v5 v6 : Value) (D : Option Addr) (ne d : Nat) (ts : List TV) (hR : RdN NoB w0 A c l) (hlen : l.length = ts.length) (hl2 : ts.length = 2) (hL : L.length + TV.partsL ts ≤ 2000000)
    (hI : ∀ (k : Nat) (h : k < l.length) (h' : k < ts.length) (x : EN) (V : World) (v1 : Value) (L1 : List (List UInt8)), x.t = l[k] → x.Ok NoB w0 → Seen w0 sb v1 L1 V → L1.length + (ts[k]).parts ≤ 2000000 → Calls Tryz.prog 18 #[.agg #[.int .i64 x.t.kind, .int .i64 x.t.int, .string ⟨x.t.name.toArray⟩, .int .i64 x.t.at_, .slice x.A x.t.kids.length x.c, .slice x.B x.t.clauses.length x.d, .slice x.C x.t.body.length x.e], .slice D ne d, .pointer (some ⟨sb, 0, none⟩)] V (BEnd w0 sb v1 L1.length V ts[k])) :
    Calls Tryz.prog 18 #[.agg #[.int .i64 6, .int .i64 n, .string ⟨s.toArray⟩, .int .i64 a, .slice A l.length c, v5, v6], .slice D ne d, .pointer (some ⟨sb, 0, none⟩)] W (BEnd w0 sb v L.length W (.mk 8 0 [] ts)) := by
  have hlc := hR.1
  have hlc2 := hR.2.1
  have HS := Lib.hid hS
  have HR := Lib.hid hR
  have HI := Lib.hid hI
  have HL := Lib.hid hL
  have hp1 := len_parts ts
  obtain ⟨len, hle⟩ : ∃ len, ts.length = len := ⟨_, rfl⟩
  rw [hle] at hlen hp1 hl2
  rw [hlen] at hlc
  have hbl : len ≤ 2000000 := by omega
  have HTL := Lib.hid hle
  have HLN := Lib.hid hlen
  have HL2 := Lib.hid hl2
  clear hS hR hI hL hle hp1 hl2
  rw [hlen]
  clear hlen
  go_enter Tryz.func18, Tryz.ntmps18
  go_upto_region 1 with (fail)
  refine wp_world (BI W #[.int .i64 6, .int .i64 n, .string ⟨s.toArray⟩, .int .i64 a, .slice A len c, v5, v6]) (BI.new W _) ?_
  intro V1 hV
  have p0 := hV.p.cell 0
  have HJ := Lib.hid (BLp.start (ts := ts) (BJ.start HS.out hV))
  clear hV
  go_upto_region 20 with (fail)
  clear p0
  go_loopw [9, 10] (fun lv i wr => ∃ (k : Nat) (v1 : Value) (L1 : List (List UInt8)) (xs : List EX), k ≤ len ∧ i = .int .i64 k ∧ Hid (BLp w0 W sb v L #[.int .i64 6, .int .i64 n, .string ⟨s.toArray⟩, .int .i64 a, .slice A len c, v5, v6] ts k v1 L1 lv xs wr)) (fun _ i _ => len - (intOf i).toNat)
  case atStart => exact ⟨0, v, L, [], Nat.zero_le _, rfl, HJ.out⟩
  case round =>
    obtain ⟨k, v1, L1, xs, hk, rfl, HB⟩ := hrel
    clear HJ
    have p4 := HB.out.j.p.cell 4
    by_cases hlt : k < len
    · have hd1 : decide (k < len) = true := by simpa using hlt
      have hkl : k < l.length := by rw [HLN.out]; exact hlt
      have hkt : k < ts.length := by rw [HTL.out]; exact hlt
      obtain ⟨b, o, x, rfl, hx, hok, e0, e1, e2, e3, e4, e5, e6⟩ := rdn_item HR.out hkl
      have hpt : L1.length + (ts[k]).parts ≤ 2000000 := by
        have h1 := HB.out.le
        have h2 := partsL_take ts k hkt
        have h3 := partsL_take_le ts (k + 1)
        have h4 := HL.out
        omega
      have HC := Lib.hid (HI.out k hkl hkt x wr v1 L1 hx hok HB.out.j.seen hpt)
      have hw0 : ∀ {p : Addr} {u : Value}, w0.cell? p = some u → wr.cell? p = some u := fun {p u} h => (HB.out.j.seen.bel.cell (World.block_lt_of_cell? w0 p h)).trans h
      replace e0 := hw0 e0
      replace e1 := hw0 e1
      replace e2 := hw0 e2
      replace e3 := hw0 e3
      replace e4 := hw0 e4
      replace e5 := hw0 e5
      replace e6 := hw0 e6
      have hq1 : (0 : Int) ≤ (k : Int) := by omega
      have hq2 : (k : Int) < (len : Int) := by omega
      obtain ⟨t, ht⟩ : ∃ t, ts[k] = t := ⟨_, rfl⟩
      have HT := Lib.hid ht
      rw [ht] at HC
      clear hx hok hw0 ht hpt
      go_upto_region 23 with (go_at_call 18; refine HC.out.mono ?_; rintro e w5 ⟨u, ok, v2, L2, rfl, hok5, hB5, hx5⟩; have HO5 := Lib.hid hok5; have HB5 := Lib.hid hB5; have HX5 := Lib.hid hx5; clear hok5 hB5 hx5)
      refine wp_world (fun V => Blk V w5.heap.size 35 #[.int .i64 u.t.kind, .int .i64 u.t.int, .string ⟨u.t.name.toArray⟩, .slice u.A u.t.items.length u.c] ∧ Below w5.heap.size w5 V) ⟨Blk.new _ _ _, below_alloc _ _⟩ ?_
      rintro V6 ⟨hu6, hb6⟩
      have HU6 := Lib.hid hu6
      have HB6 := Lib.hid hb6
      have HJ6 := Lib.hid ((HB.out.j.step HB5.out.seen HB5.out.own HB5.out.fr).keep hb6)
      have u0 := hu6.cell 0
      have u1 := hu6.cell 1
      have u2 := hu6.cell 2
      have u3 := hu6.cell 3
      clear hu6 hb6 e0 e1 e2 e3 e4 e5 e6 p4
      cases ok with
      | false =>
        have hr5 := HJ6.out.r
        have f0 := hr5.frozen 0
        have z0 := hr5.cell 0
        have f1 := hr5.frozen 1
        have z1 := hr5.cell 1
        have f2 := hr5.frozen 2
        have z2 := hr5.cell 2
        have f3 := hr5.frozen 3
        have z3 := hr5.cell 3
        go_wp2
        have hset := hr5.set4 (.int .i64 0) (.int .i64 0) (.string ⟨#[]⟩) (.slice none 0 0)
        have hf4 := fr_set4 V6 (W.heap.size + 1) (.int .i64 0) (.int .i64 0) (.string ⟨#[]⟩) (.slice none 0 0)
        have c0 := hset.cell 0
        have c1 := hset.cell 1
        have c2 := hset.cell 2
        have c3 := hset.cell 3
        refine bodyPost_ret (v := .tuple #[.agg #[.int .i64 0, .int .i64 0, .string ⟨#[]⟩, .slice none 0 0], .bool false]) (by simp [results, Tryz.results18, go_sem, c0, c1, c2, c3]) rfl ?_
        refine HJ6.out.done (u := .mk 0 0 [] []) (A := none) (c := 0) (ok := false) ?_ (fun h => by cases h) (RdX.nil_ _ _ _ _ (by omega)) hf4
        have h1 := HB5.out.le
        have h2 := HB.out.le
        have h3 := partsL_take ts k hkt
        have h4 := partsL_take_le ts (k + 1)
        have h5 := HT.out
        rw [h5] at h3
        rw [TV.parts_eq]
        simp only [TV.items]
        omega
      | true =>
        obtain ⟨nx, hnx⟩ : ∃ nx, k = nx := ⟨_, rfl⟩
        have hO := HB.out.row
        have HFW := Lib.hid (HB5.out.fr)
        have hO5 : w5.ownsRow (W.heap.size + 2) 35 4 u9 k (exL xs) := own_fr hO HFW.out (fun g hg e => by
          have h1 := hO.lt g hg
          have h2 := HB.out.j.lt
          rcases e with e | e
          · omega
          · exact HB.out.ne g hg e)
        have HO6 := Lib.hid (own_far hO5 HB6.out)
        have hs6 : W.heap.size + 2 ≤ V6.heap.size := HJ6.out.sz
        clear hO hO5 HFW hnx
        go_wp2_with (at_builtin; refine wpList_app ex_termsT rfl (.tmp 93) (.tmp 95) rfl (W.heap.size + 2) u9 k (exL xs) rfl (HO6.out.alloc _) (some ⟨V6.heap.size, 0, none⟩) 1 1 u.cells rfl rfl (ex_news V6 u) (excells_one _) (by unfold maxLen; omega) (by omega) (by simp; omega) ?_; intro v8 w8 ho8 hg8 hw8)
        have HS8 := Lib.hid (HB.out.step hkt (by rw [HT.out]; exact HB5.out) (by rw [HT.out]; exact HO5.out rfl) HX5.out (below_step HB6.out (below_alloc _ _)) ho8 hg8 hw8)
        go_roundw
        case rel => exact ⟨k + 1, v2, L2, xs ++ [u], by omega, by go_num, HS8.out⟩
        case measure => simp [intOf]; omega
    · obtain rfl : k = len := by omega
      have hd1 : decide (k < k) = false := by simp
      obtain ⟨Al, cl, rfl⟩ := ex_form HB.out.row
      have HB2 := Lib.hid (show BLp w0 W sb v L #[.int .i64 6, .int .i64 n, .string ⟨s.toArray⟩, .int .i64 a, .slice A k c, v5, v6] ts ts.length v1 L1 (.slice Al ts.length cl) xs wr by rw [HTL.out]; exact HB.out)
      have HLE : Hid (L1.length ≤ L.length + (.mk 8 0 [] ts : TV).parts) := by
        have h1 := HB2.out.le
        rw [List.take_length] at h1
        unfold Hid
        rw [TV.parts_eq]
        simp only [TV.items]
        omega
      have p0 := HB.out.j.p.cell 0
      have hk2 : k = 2 := HL2.out
      subst hk2
      have hxl := HB.out.len (by rw [HTL.out]; exact Nat.le_refl _)
      match xs, hxl with
      | [x, y], _ =>
      have hm := HB2.out.map
      rw [List.take_length] at hm
      have HM := Lib.hid hm
      obtain ⟨g, hAl⟩ : ∃ g, Al = some ⟨g, 0, none⟩ := by
        rcases HB.out.row.2 with ⟨_, hz⟩ | ⟨g, cap', cur, hv, _⟩
        · omega
        · obtain ⟨rfl, _, _⟩ := Value.slice.inj hv
          exact ⟨g, rfl⟩
      subst hAl
      have hcell : ∀ i u, (exL [x, y])[i]? = some u → wr.cell? ⟨g, i, none⟩ = some u := fun i u hu => by
        have := HB.out.row.cells (g := g) rfl i u hu
        rwa [Addr.add_lit, Nat.zero_add] at this
      have q0 := hcell 0 _ rfl
      have q1 := hcell 1 _ rfl
      have q2 := hcell 2 _ rfl
      have q3 := hcell 3 _ rfl
      have q4 := hcell 4 _ rfl
      have q5 := hcell 5 _ rfl
      have q6 := hcell 6 _ rfl
      have q7 := hcell 7 _ rfl
      have hcl : 2 ≤ cl := by
        obtain ⟨A', c', e, h2⟩ : ∃ A' c', (Value.slice (some ⟨g, 0, none⟩) 2 cl) = .slice A' 2 c' ∧ 2 ≤ c' := by
          rcases HB.out.row.2 with ⟨hv, hz⟩ | ⟨g', cap', cur, hv, _, _, hnc, _⟩
          · omega
          · exact ⟨_, _, hv, hnc⟩
        obtain ⟨_, _, rfl⟩ := Value.slice.inj e
        exact h2
      have HCO : Hid (∀ V, Below wr.heap.size wr V → Calls Tryz.prog 40 #[.agg #[.int .i64 x.t.kind, .int .i64 x.t.int, .string ⟨x.t.name.toArray⟩, .slice x.A x.t.items.length x.c], .agg #[.int .i64 y.t.kind, .int .i64 y.t.int, .string ⟨y.t.name.toArray⟩, .slice y.A y.t.items.length y.c]] V fun e w' => ∃ g, e = .returned (.agg #[.int .i64 8, .int .i64 0, .string ⟨#[]⟩, .slice (some ⟨g, 0, none⟩) 2 2]) ∧ RdX (fun i => sb ≤ i ∧ i < W.heap.size + 2 ∨ v1.ownBlock = some i) w' (some ⟨g, 0, none⟩) 2 [x.t, y.t] ∧ Below wr.heap.size wr w') := fun V hV =>
        (tcons_x (W := V) (S := fun i => sb ≤ i ∧ i < W.heap.size + 2 ∨ v1.ownBlock = some i) (fun i hi => by
          have h1 := HB.out.j.sz
          have h2 := hV.size
          rcases hi with hi | hi
          · omega
          · have := (HB.out.j.seen.apart hi).2; omega) x y (((HB.out.each x (by simp)).mono fun i e => e.imp id .inl).below hV) (((HB.out.each y (by simp)).mono fun i e => e.imp id .inl).below hV)).mono fun e w' ⟨g, h1, h2, h3⟩ => ⟨g, h1, h2, below_step hV h3⟩
      have hrk := HB.out.j.r
      have HRK : Hid (∀ V, Below wr.heap.size wr V → Blk V (W.heap.size + 1) 35 #[.int .i64 0, .int .i64 0, .string ⟨#[]⟩, .slice none 0 0]) := fun V hV => hrk.keep hV
      have HSC : Hid (∀ V, Below wr.heap.size wr V → V.cell? ⟨g, 0, none⟩ = some (.int .i64 x.t.kind) ∧ V.cell? ⟨g, 1, none⟩ = some (.int .i64 x.t.int) ∧ V.cell? ⟨g, 2, none⟩ = some (.string ⟨x.t.name.toArray⟩) ∧ V.cell? ⟨g, 3, none⟩ = some (.slice x.A x.t.items.length x.c) ∧ V.cell? ⟨g, 4, none⟩ = some (.int .i64 y.t.kind) ∧ V.cell? ⟨g, 5, none⟩ = some (.int .i64 y.t.int) ∧ V.cell? ⟨g, 6, none⟩ = some (.string ⟨y.t.name.toArray⟩) ∧ V.cell? ⟨g, 7, none⟩ = some (.slice y.A y.t.items.length y.c)) := fun V hV => ⟨(hV.cell (World.block_lt_of_cell? wr _ q0)).trans q0, (hV.cell (World.block_lt_of_cell? wr _ q1)).trans q1, (hV.cell (World.block_lt_of_cell? wr _ q2)).trans q2, (hV.cell (World.block_lt_of_cell? wr _ q3)).trans q3, (hV.cell (World.block_lt_of_cell? wr _ q4)).trans q4, (hV.cell (World.block_lt_of_cell? wr _ q5)).trans q5, (hV.cell (World.block_lt_of_cell? wr _ q6)).trans q6, (hV.cell (World.block_lt_of_cell? wr _ q7)).trans q7⟩
      clear hcell q0 q1 q2 q3 q4 q5 q6 q7 hrk hm
      go_upto_region 27 with (fail)
      refine wp_region_W 7 (fun V => Below wr.heap.size wr V) (by kernel_rfl) ?_ (fun hS0 => ?_)
      · exact (Below.refl _ _).drew
      (refine wpAnyW_take (i := 0) (v := ?_) rfl (by kernel_rfl) (by kernel_rfl) (by kernel_rfl) (by kernel_rfl) (fun _ _ _ h => h) (Or.inl ⟨by kernel_rfl, ?_⟩) (by assumption) ?_; rotate_left; focus (intro V9 hS9; go_simp; (try (with_reducible rfl)); done))
      try simp only [Act.put, List.getElem_toArray, List.getElem_cons_zero, List.setIfInBounds_toArray, List.set_cons_succ, List.set_cons_zero]
      (refine wpAnyW_take (i := 3) (v := ?_) rfl (by kernel_rfl) (by kernel_rfl) (by kernel_rfl) (by kernel_rfl) (fun _ _ _ h => h) (Or.inl ⟨by kernel_rfl, ?_⟩) (by assumption) ?_; rotate_left; focus (intro V9 hS9; go_simp; (try (with_reducible rfl)); done))
      try simp only [Act.put, List.getElem_toArray, List.getElem_cons_succ, List.getElem_cons_zero, List.setIfInBounds_toArray, List.set_cons_succ, List.set_cons_zero]
      (refine wpAnyW_take (i := 1) (v := ?_) rfl (by kernel_rfl) (by kernel_rfl) (by kernel_rfl) (by kernel_rfl) (fun _ _ _ h => h) (Or.inl ⟨by kernel_rfl, ?_⟩) (by assumption) ?_; rotate_left; focus (intro V9 hS9; obtain ⟨q0, q1, q2, q3, q4, q5, q6, q7⟩ := HSC.out V9 hS9; go_simp; (try (with_reducible rfl)); done))
      try simp only [Act.put, List.getElem_toArray, List.getElem_cons_succ, List.getElem_cons_zero, List.setIfInBounds_toArray, List.set_cons_succ, List.set_cons_zero]
      (refine wpAnyW_take (i := 2) (v := ?_) rfl (by kernel_rfl) (by kernel_rfl) (by kernel_rfl) (by kernel_rfl) (fun _ _ _ h => h) (Or.inl ⟨by kernel_rfl, ?_⟩) (by assumption) ?_; rotate_left; focus (intro V9 hS9; obtain ⟨q0, q1, q2, q3, q4, q5, q6, q7⟩ := HSC.out V9 hS9; go_simp; (try (with_reducible rfl)); done))
      try simp only [Act.put, List.getElem_toArray, List.getElem_cons_succ, List.getElem_cons_zero, List.setIfInBounds_toArray, List.set_cons_succ, List.set_cons_zero]
      (refine wpAnyW_take (i := 4) (v := ?_) rfl (by kernel_rfl) (by kernel_rfl) (by kernel_rfl) (by kernel_rfl) (fun _ _ _ h => h) (Or.inl ⟨by kernel_rfl, ?_⟩) (by assumption) ?_; rotate_left; focus (intro V9 hS9; obtain ⟨q0, q1, q2, q3, q4, q5, q6, q7⟩ := HSC.out V9 hS9; go_simp; (try (with_reducible rfl)); done))
      try simp only [Act.put, List.getElem_toArray, List.getElem_cons_succ, List.getElem_cons_zero, List.setIfInBounds_toArray, List.set_cons_succ, List.set_cons_zero]
      (refine wpAnyW_take (i := 5) (v := ?_) rfl (by kernel_rfl) (by kernel_rfl) (by kernel_rfl) (by kernel_rfl) (fun _ _ _ h => h) (Or.inl ⟨by kernel_rfl, ?_⟩) (by assumption) ?_; rotate_left; focus (intro V9 hS9; obtain ⟨q0, q1, q2, q3, q4, q5, q6, q7⟩ := HSC.out V9 hS9; go_simp; (try (with_reducible rfl)); done))
      try simp only [Act.put, List.getElem_toArray, List.getElem_cons_succ, List.getElem_cons_zero, List.setIfInBounds_toArray, List.set_cons_succ, List.set_cons_zero]
      refine wpAnyW_ready (rs := [6]) (by kernel_rfl) (by simp) ?_
      refine AllReadyW.cons rfl (fun K hK => ?_) AllReadyW.nil
      go_simp
      refine (HCO.out _ (Below.refl _ _).drew).mono ?_
      rintro e w5 ⟨g5, rfl, hx5, hb5⟩
      refine hK.out _ _ hb5 (fun _ => ?_)
      clear hK K
      try simp only [Act.put, List.getElem_toArray, List.getElem_cons_succ, List.getElem_cons_zero, List.setIfInBounds_toArray, List.set_cons_succ, List.set_cons_zero]
      have hr5 := HRK.out w5 hb5
      have f0 := hr5.frozen 0
      have z0 := hr5.cell 0
      have f1 := hr5.frozen 1
      have z1 := hr5.cell 1
      have f2 := hr5.frozen 2
      have z2 := hr5.cell 2
      have f3 := hr5.frozen 3
      have z3 := hr5.cell 3
      refine wpAnyW_ready (rs := [7]) (by kernel_rfl) (by simp) ?_
      refine AllReadyW.consE rfl (by kernel_rfl) (fun K hK => ?_) AllReadyW.nil
      go_simp
      refine hK.out _ _ ?_
      clear hK K
      try simp only [Act.put, List.getElem_toArray, List.getElem_cons_succ, List.getElem_cons_zero, List.setIfInBounds_toArray, List.set_cons_succ, List.set_cons_zero]
      refine wpAnyW_ready (rs := [8]) (by kernel_rfl) (by simp) ?_
      refine AllReadyW.consE rfl (by kernel_rfl) (fun K hK => ?_) AllReadyW.nil
      go_simp
      refine hK.out _ _ ?_
      clear hK K
      refine wpAnyW_done (by kernel_rfl) ?_ _
      go_wp2
      have hset := hr5.set4 (.int .i64 8) (.int .i64 0) (.string ⟨#[]⟩) (.slice (some ⟨g5, 0, none⟩) 2 2)
      have hf4 := fr_set4 w5 (W.heap.size + 1) (.int .i64 8) (.int .i64 0) (.string ⟨#[]⟩) (.slice (some ⟨g5, 0, none⟩) 2 2)
      have c0 := hset.cell 0
      have c1 := hset.cell 1
      have c2 := hset.cell 2
      have c3 := hset.cell 3
      refine bodyPost_ret (v := .tuple #[.agg #[.int .i64 8, .int .i64 0, .string ⟨#[]⟩, .slice (some ⟨g5, 0, none⟩) 2 2], .bool true]) (by simp [results, Tryz.results18, go_sem, c0, c1, c2, c3]) rfl ?_
      have h9 := (HB2.out.j.keep hb5).done (u := .mk 8 0 [] ts) (t := .mk 8 0 [] ts) (A := some ⟨g5, 0, none⟩) (c := 2) (ok := true) HLE.out (fun _ => rfl) (by
        have hm := HM.out
        simp only [TV.items]
        rw [← hm]
        exact hx5) hf4
      simp only [TV.items, TV.kind, TV.int, TV.name, HTL.out] at h9
      exact h9
end
end Go.Proofs.YtmpknhdfglbocaaGreat
