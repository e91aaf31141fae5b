/- Links (layer 18): maps.Values, maps.Keys and slices.Collect of them. -/
import Derived.Test.YtpfikhamokjdjaaLkK
namespace Go.Proofs.Ytpfikhamokjdjaa
open Go.RowKit Go.Maps Go.WideMaps Go.Shelf
set_option linter.unusedVariables false

theorem values_mk (mb : Option Nat) (w : World) : Calls Try.prog 31 #[.map mb] w fun e w' =>
    e = .returned (.func (.func 44) #[] #[.pointer (some ⟨w.heap.size, 0, none⟩)]) ∧ w' = w.alloc (.cells #[.map mb] 54) := by
  go_enter Try.func31, Try.ntmps31
  go_wp2
  go_ret
  exact ⟨rfl, rfl⟩
theorem keysP_mk (mb : Option Nat) (w : World) : Calls Try.prog 35 #[.map mb] w fun e w' =>
    e = .returned (.func (.func 48) #[] #[.pointer (some ⟨w.heap.size, 0, none⟩)]) ∧ w' = w.alloc (.cells #[.map mb] 53) := by
  go_enter Try.func35, Try.ntmps35
  go_wp2
  go_ret
  exact ⟨rfl, rfl⟩
theorem collectW_v (Bm b nn : Nat) (K : WL) (hkok : ∀ x ∈ K, i64ok x.ref) (hknd : K.Pairwise fun x y => x.ref ≠ y.ref) (hlen : K.length ≤ 1000000) (w : World) (hBm : Bm < w.heap.size) (hm : w.cell? ⟨Bm, 0, none⟩ = some (.map (some b))) (hown : WM w b nn K) :
    Calls Try.prog 42 #[.func (.func 44) #[] #[.pointer (some ⟨Bm, 0, none⟩)]] w (ColW w K) := by
  have HC := Lib.hid (appW_v Bm b nn K hkok hknd hlen w hBm hm hown)
  clear hkok hknd hlen hBm hm hown
  go_enter Try.func42, Try.ntmps42
  go_wp2_with (go_at_call 60; refine HC.out.mono ?_; rintro e w1 ⟨v, ys, rfl, h1, h2, h3⟩; have H1 := Lib.hid h1; have H2 := Lib.hid h2; have H3 := Lib.hid h3; clear h1 h2 h3)
  go_ret
  exact ⟨v, ys, rfl, H1.out, H2.out, H3.out⟩
theorem collectP_v (Bm b nn : Nat) (K : PL) (hkok : ∀ x ∈ K, i64ok x.1 ∧ i64ok x.2) (hknd : K.Nodup) (hlen : K.length ≤ 1000000) (w : World) (hBm : Bm < w.heap.size) (hm : w.cell? ⟨Bm, 0, none⟩ = some (.map (some b))) (hown : PM w b nn K) :
    Calls Try.prog 46 #[.func (.func 48) #[] #[.pointer (some ⟨Bm, 0, none⟩)]] w (ColP w K) := by
  have HC := Lib.hid (appP_v Bm b nn K hkok hknd hlen w hBm hm hown)
  clear hkok hknd hlen hBm hm hown
  go_enter Try.func46, Try.ntmps46
  go_wp2_with (go_at_call 62; refine HC.out.mono ?_; rintro e w1 ⟨v, ys, rfl, h1, h2, h3⟩; have H1 := Lib.hid h1; have H2 := Lib.hid h2; have H3 := Lib.hid h3; clear h1 h2 h3)
  go_ret
  exact ⟨v, ys, rfl, H1.out, H2.out, H3.out⟩
end Go.Proofs.Ytpfikhamokjdjaa
