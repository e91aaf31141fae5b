/- Layer 12: the law's own `of` and `live`. -/
import Derived.Test.YthhindnjnijglaaChR
namespace Go.Proofs.Ythhindnjnijglaa
open Go.RowKit Go.Maps Go.WideMaps
set_option linter.unusedVariables false

theorem num_any (e : Int) (W : World) : Calls Try.prog 17 #[.int .i64 e] W fun r w' => r = .returned (.int .i64 e) ∧ w' = W := by
  go_enter Try.func17, Try.ntmps17
  go_wp2
  go_ret
  exact ⟨rfl, rfl⟩
theorem one_names {X : List UInt8} {T : List Tok} {cd : CD} (hX : scanP X = ⟨T, 0, 0⟩) (h1 : One T X.length cd) : KK (namesP X) ∧ cd.wf ∧ cd.all (fun s => s ∈ namesP X) := by
  obtain ⟨t0, n, s1, ht, hk, hn, hr, he, hse, hdo, hie⟩ := h1.ex
  have hT : ∀ t ∈ T, t.text ∈ namesP X := fun t h => List.mem_cons_of_mem _ (List.mem_map_of_mem (by rw [hX]; exact h))
  have h0 : t0 ∈ T := List.mem_of_getElem? ht
  exact ⟨⟨namesP_len X, namesP_text X⟩, (lang_wf _ n).head _ _ _ _ _ hr, (lang_good (Q := fun s => s ∈ namesP X) _ (List.mem_cons_self ..) hT n).head _ _ _ _ _ (hT _ h0) hr⟩
set_option maxRecDepth 100000 in
set_option maxHeartbeats 2000000 in
theorem of_any {X : List UInt8} {T : List Tok} {cd : CD} (hX : scanP X = ⟨T, 0, 0⟩) (h1 : One T X.length cd) (W : World) :
    Calls Try.prog 7 #[.string ⟨X.toArray⟩] W fun e w' => e = .returned (.tuple #[.int .i64 (chkC cd).e, .int .i64 (chkC cd).at_]) ∧ Below W.heap.size W w' := by
  have HP := Lib.hid (parse_any X T cd hX h1 W)
  obtain ⟨hK, hwf, hal⟩ := one_names hX h1
  have HC : Hid (∀ V g k B d, PRd V g k B d cd → Calls Try.prog 16 #[.slice (some ⟨g, 0, none⟩) 1 k] V fun e w' => e = .returned (.tuple #[.int .i64 (chkC cd).e, .int .i64 (chkC cd).at_]) ∧ Below V.heap.size V w') := fun V g k B d h => check_any hK h hwf hal
  obtain ⟨ce, hce⟩ : ∃ ce, (chkC cd).e = ce := ⟨_, rfl⟩
  obtain ⟨ca, hca⟩ : ∃ ca, (chkC cd).at_ = ca := ⟨_, rfl⟩
  rw [hce, hca] at HC ⊢
  clear hX h1 hK hwf hal hce hca
  go_enter Try.func7, Try.ntmps7
  go_upto_region 2 with (go_at_call 15; refine HP.out.mono ?_; rintro e V1 ⟨g, k, B, d, rfl, hr, hb⟩)
  have HR := Lib.hid hr
  have HB := Lib.hid hb
  clear hr hb HP
  go_upto_region 5 with (go_at_call 16; refine (HC.out _ _ _ _ _ HR.out).mono ?_; rintro e V2 ⟨rfl, hb2⟩)
  have HB2 := Lib.hid hb2
  clear hb2
  go_wp2_with (go_at_call 17; refine (num_any _ _).mono ?_; rintro e V3 ⟨rfl, rfl⟩)
  refine bodyPost_ret (v := .tuple #[.int .i64 ce, .int .i64 ca]) (by simp [results, Try.results7, go_sem]) rfl ?_
  exact ⟨rfl, below_step HB.out HB2.out⟩
theorem of_lit {X : List UInt8} {e at_ : Int} (h : litB X e at_ = true) (W : World) :
    Calls Try.prog 7 #[.string ⟨X.toArray⟩] W fun r w' => r = .returned (.tuple #[.int .i64 e, .int .i64 at_]) ∧ Below W.heap.size W w' := by
  obtain ⟨ts, cd, h1, h2, h3⟩ := lit_of h
  have := of_any h1 h2 W
  rw [h3] at this
  exact this
set_option maxRecDepth 100000 in
set_option maxHeartbeats 2000000 in
theorem live_any (W : World) : Calls Try.prog 4 #[] W fun r w' => r = .returned (.bool true) ∧ Below W.heap.size W w' := by
  have H1 : Hid (∀ V, Calls Try.prog 7 #[.string ⟨#[109, 97, 105, 110, 40, 41, 32, 45, 62, 32, 88, 46]⟩] V fun r w' => r = .returned (.tuple #[.int .i64 124, .int .i64 10]) ∧ Below V.heap.size V w') := fun V => of_lit lit1 V
  have H2 : Hid (∀ V, Calls Try.prog 7 #[.string ⟨#[109, 97, 105, 110, 40, 41, 32, 45, 62, 32, 102, 40, 41, 46]⟩] V fun r w' => r = .returned (.tuple #[.int .i64 125, .int .i64 10]) ∧ Below V.heap.size V w') := fun V => of_lit lit2 V
  have H3 : Hid (∀ V, Calls Try.prog 7 #[.string ⟨#[102, 40, 41, 32, 45, 62, 32, 49, 46]⟩] V fun r w' => r = .returned (.tuple #[.int .i64 122, .int .i64 0]) ∧ Below V.heap.size V w') := fun V => of_lit lit3 V
  have H4 : Hid (∀ V, Calls Try.prog 7 #[.string ⟨#[109, 97, 105, 110, 40, 41, 32, 45, 62, 32, 99, 97, 115, 101, 32, 49, 32, 111, 102, 32, 88, 32, 45, 62, 32, 88, 32, 101, 110, 100, 44, 32, 88, 46]⟩] V fun r w' => r = .returned (.tuple #[.int .i64 124, .int .i64 32]) ∧ Below V.heap.size V w') := fun V => of_lit lit4 V
  have H5 : Hid (∀ V, Calls Try.prog 7 #[.string ⟨#[109, 97, 105, 110, 40, 41, 32, 45, 62, 32, 88, 32, 61, 32, 49, 44, 32, 88, 46]⟩] V fun r w' => r = .returned (.tuple #[.int .i64 0, .int .i64 0]) ∧ Below V.heap.size V w') := fun V => of_lit lit5 V
  have HB : Hid (∀ V, Calls Try.prog 8 #[.string ⟨#[104, 100]⟩, .int .i64 1] V fun e w' => e = .returned (.int .i64 1) ∧ Below V.heap.size V w') := fun V => by
    have := blt_any [104, 100] 1 V
    rw [show bltP [104, 100] 1 = 1 by kernel_rfl] at this
    exact this
  go_enter Try.func4, Try.ntmps4
  go_upto_region 2 with (go_at_call 7; with_reducible refine (H1.out _).mono ?_; rintro e V1 ⟨rfl, hb1⟩)
  go_upto_region 3 with (go_at_call 7; with_reducible refine (H2.out _).mono ?_; rintro e V2 ⟨rfl, hb2⟩)
  go_upto_region 4 with (go_at_call 7; with_reducible refine (H3.out _).mono ?_; rintro e V3 ⟨rfl, hb3⟩)
  go_upto_region 5 with (go_at_call 7; with_reducible refine (H4.out _).mono ?_; rintro e V4 ⟨rfl, hb4⟩)
  go_upto_region 6 with (go_at_call 7; with_reducible refine (H5.out _).mono ?_; rintro e V5 ⟨rfl, hb5⟩)
  go_wp2_with (go_at_call 8; with_reducible refine (HB.out _).mono ?_; rintro e V6 ⟨rfl, hb6⟩)
  go_ret
  exact ⟨rfl, below_step (below_step (below_step (below_step (below_step hb1 hb2) hb3) hb4) hb5) hb6⟩
end Go.Proofs.Ythhindnjnijglaa
