/- Layer 12: the walk of check.Builtin. Written by chgenb.py. -/
import Derived.Test.YthhindnjnijglaaChG
import Derived.Test.YthhindnjnijglaaPaD
import Derived.Laws.StructEq
namespace Go.Proofs.Ythhindnjnijglaa
open Go.RowKit
set_option linter.unusedVariables false

/-- Names are held against one another. -/
theorem run_eqlN (w : World) (s s' : List UInt8) (n : Nat) (k : Int) (k' : Nat) (hk : k = (k' : Int)) : (binOp .eql 55 (.agg #[.string ⟨s.toArray⟩, .int .i64 (n : Int)]) (.agg #[.string ⟨s'.toArray⟩, .int .i64 k])).run Try.prog w = .ok (.bool (s == s' && n == k')) w := by
  subst hk
  have h2 : ((n : Int) == (k' : Int)) = (n == k') := by
    by_cases h : n = k'
    · subst h; rw [beq_self_eq_true, beq_self_eq_true]
    · have : ¬ (n : Int) = (k' : Int) := by omega
      rw [beq_eq_false_iff_ne.2 this, beq_eq_false_iff_ne.2 h]
  have hS : Try.prog.underlying 55 = some (.struct (Try.prog.fieldsOf 55)) := by kernel_rfl
  have hp : Try.prog.stoodInHeld 55 = false := by kernel_rfl
  rw [run_eql_struct, show (10000 : Nat) = 9999 + 1 from rfl, run_equalIn_agg w 9999 55 _ _ hS hp]
  simp only [Program.fieldsOf, Try.underlying55]
  have u3 := Try.underlying3
  have u9 := Try.underlying9
  have a3 := Try.isAgg3
  have a9 := Try.isAgg9
  have z3 := Try.sizeOf3
  have z9 := Try.sizeOf9
  go_simp
  by_cases h1 : s = s' <;> by_cases hh : n = k' <;> simp [h1, hh]

set_option maxRecDepth 100000 in
set_option maxHeartbeats 8000000 in
theorem blt_any (s : List UInt8) (n : Nat) (W : World) : Calls Try.prog 8 #[.string ⟨s.toArray⟩, .int .i64 (n : Int)] W fun e w' => e = .returned (.int .i64 (bltP s n)) ∧ Below W.heap.size W w' := by
  obtain ⟨b0, h0⟩ : ∃ b, (s == [105, 115, 95, 105, 110, 116, 101, 103, 101, 114] && n == 1) = b := ⟨_, rfl⟩
  obtain ⟨b1, h1⟩ : ∃ b, (s == [105, 115, 95, 97, 116, 111, 109] && n == 1) = b := ⟨_, rfl⟩
  obtain ⟨b2, h2⟩ : ∃ b, (s == [105, 115, 95, 112, 105, 100] && n == 1) = b := ⟨_, rfl⟩
  obtain ⟨b3, h3⟩ : ∃ b, (s == [105, 115, 95, 114, 101, 102, 101, 114, 101, 110, 99, 101] && n == 1) = b := ⟨_, rfl⟩
  obtain ⟨b4, h4⟩ : ∃ b, (s == [105, 115, 95, 102, 117, 110, 99, 116, 105, 111, 110] && n == 1) = b := ⟨_, rfl⟩
  obtain ⟨b5, h5⟩ : ∃ b, (s == [105, 115, 95, 116, 117, 112, 108, 101] && n == 1) = b := ⟨_, rfl⟩
  obtain ⟨b6, h6⟩ : ∃ b, (s == [105, 115, 95, 108, 105, 115, 116] && n == 1) = b := ⟨_, rfl⟩
  obtain ⟨b7, h7⟩ : ∃ b, (s == [104, 100] && n == 1) = b := ⟨_, rfl⟩
  obtain ⟨b8, h8⟩ : ∃ b, (s == [116, 108] && n == 1) = b := ⟨_, rfl⟩
  obtain ⟨b9, h9⟩ : ∃ b, (s == [116, 117, 112, 108, 101, 95, 115, 105, 122, 101] && n == 1) = b := ⟨_, rfl⟩
  obtain ⟨b10, h10⟩ : ∃ b, (s == [108, 101, 110, 103, 116, 104] && n == 1) = b := ⟨_, rfl⟩
  obtain ⟨b11, h11⟩ : ∃ b, (s == [101, 108, 101, 109, 101, 110, 116] && n == 2) = b := ⟨_, rfl⟩
  obtain ⟨b12, h12⟩ : ∃ b, (s == [108, 105, 115, 116, 95, 116, 111, 95, 116, 117, 112, 108, 101] && n == 1) = b := ⟨_, rfl⟩
  obtain ⟨b13, h13⟩ : ∃ b, (s == [116, 117, 112, 108, 101, 95, 116, 111, 95, 108, 105, 115, 116] && n == 1) = b := ⟨_, rfl⟩
  obtain ⟨b14, h14⟩ : ∃ b, (s == [114, 101, 118, 101, 114, 115, 101] && n == 1) = b := ⟨_, rfl⟩
  obtain ⟨b15, h15⟩ : ∃ b, (s == [116, 104, 114, 111, 119] && n == 1) = b := ⟨_, rfl⟩
  obtain ⟨b16, h16⟩ : ∃ b, (s == [101, 114, 114, 111, 114] && n == 1) = b := ⟨_, rfl⟩
  obtain ⟨b17, h17⟩ : ∃ b, (s == [101, 120, 105, 116] && n == 1) = b := ⟨_, rfl⟩
  obtain ⟨b18, h18⟩ : ∃ b, (s == [97, 112, 112, 101, 110, 100] && n == 2) = b := ⟨_, rfl⟩
  obtain ⟨b19, h19⟩ : ∃ b, (s == [115, 101, 108, 102] && n == 0) = b := ⟨_, rfl⟩
  obtain ⟨b20, h20⟩ : ∃ b, (s == [110, 111, 119] && n == 0) = b := ⟨_, rfl⟩
  obtain ⟨b21, h21⟩ : ∃ b, (s == [109, 97, 107, 101, 95, 114, 101, 102] && n == 0) = b := ⟨_, rfl⟩
  obtain ⟨b22, h22⟩ : ∃ b, (s == [115, 112, 97, 119, 110] && n == 1) = b := ⟨_, rfl⟩
  obtain ⟨b23, h23⟩ : ∃ b, (s == [108, 105, 110, 107] && n == 1) = b := ⟨_, rfl⟩
  obtain ⟨b24, h24⟩ : ∃ b, (s == [117, 110, 108, 105, 110, 107] && n == 1) = b := ⟨_, rfl⟩
  obtain ⟨b25, h25⟩ : ∃ b, (s == [109, 111, 110, 105, 116, 111, 114] && n == 1) = b := ⟨_, rfl⟩
  obtain ⟨b26, h26⟩ : ∃ b, (s == [100, 101, 109, 111, 110, 105, 116, 111, 114] && n == 1) = b := ⟨_, rfl⟩
  obtain ⟨b27, h27⟩ : ∃ b, (s == [117, 110, 114, 101, 103, 105, 115, 116, 101, 114] && n == 1) = b := ⟨_, rfl⟩
  obtain ⟨b28, h28⟩ : ∃ b, (s == [119, 104, 101, 114, 101, 105, 115] && n == 1) = b := ⟨_, rfl⟩
  obtain ⟨b29, h29⟩ : ∃ b, (s == [116, 114, 97, 112, 95, 101, 120, 105, 116] && n == 1) = b := ⟨_, rfl⟩
  obtain ⟨b30, h30⟩ : ∃ b, (s == [111, 117, 116, 112, 117, 116] && n == 1) = b := ⟨_, rfl⟩
  obtain ⟨b31, h31⟩ : ∃ b, (s == [101, 120, 105, 116] && n == 2) = b := ⟨_, rfl⟩
  obtain ⟨b32, h32⟩ : ∃ b, (s == [114, 101, 103, 105, 115, 116, 101, 114] && n == 2) = b := ⟨_, rfl⟩
  have HR : Hid (bltP s n = if (b0 || (b1 || (b2 || (b3 || (b4 || (b5 || (b6 || (b7 || (b8 || (b9 || (b10 || (b11 || false)))))))))))) = true then 1 else if (b12 || (b13 || (b14 || (b15 || (b16 || (b17 || (b18 || false))))))) = true then 2 else if (b19 || (b20 || (b21 || (b22 || (b23 || (b24 || (b25 || (b26 || (b27 || (b28 || (b29 || (b30 || (b31 || (b32 || false)))))))))))))) = true then 3 else 0) := by
    unfold Hid bltP
    simp only [blt1, blt2, blt3, List.any_cons, List.any_nil, h0, h1, h2, h3, h4, h5, h6, h7, h8, h9, h10, h11, h12, h13, h14, h15, h16, h17, h18, h19, h20, h21, h22, h23, h24, h25, h26, h27, h28, h29, h30, h31, h32]
  have q0 : ∀ w, (binOp .eql 55 (.agg #[.string ⟨s.toArray⟩, .int .i64 (n : Int)]) (.agg #[.string ⟨#[105, 115, 95, 105, 110, 116, 101, 103, 101, 114]⟩, .int .i64 1])).run Try.prog w = .ok (.bool b0) w := fun w => by rw [← h0]; exact run_eqlN w s [105, 115, 95, 105, 110, 116, 101, 103, 101, 114] n 1 1 rfl
  have q1 : ∀ w, (binOp .eql 55 (.agg #[.string ⟨s.toArray⟩, .int .i64 (n : Int)]) (.agg #[.string ⟨#[105, 115, 95, 97, 116, 111, 109]⟩, .int .i64 1])).run Try.prog w = .ok (.bool b1) w := fun w => by rw [← h1]; exact run_eqlN w s [105, 115, 95, 97, 116, 111, 109] n 1 1 rfl
  have q2 : ∀ w, (binOp .eql 55 (.agg #[.string ⟨s.toArray⟩, .int .i64 (n : Int)]) (.agg #[.string ⟨#[105, 115, 95, 112, 105, 100]⟩, .int .i64 1])).run Try.prog w = .ok (.bool b2) w := fun w => by rw [← h2]; exact run_eqlN w s [105, 115, 95, 112, 105, 100] n 1 1 rfl
  have q3 : ∀ w, (binOp .eql 55 (.agg #[.string ⟨s.toArray⟩, .int .i64 (n : Int)]) (.agg #[.string ⟨#[105, 115, 95, 114, 101, 102, 101, 114, 101, 110, 99, 101]⟩, .int .i64 1])).run Try.prog w = .ok (.bool b3) w := fun w => by rw [← h3]; exact run_eqlN w s [105, 115, 95, 114, 101, 102, 101, 114, 101, 110, 99, 101] n 1 1 rfl
  have q4 : ∀ w, (binOp .eql 55 (.agg #[.string ⟨s.toArray⟩, .int .i64 (n : Int)]) (.agg #[.string ⟨#[105, 115, 95, 102, 117, 110, 99, 116, 105, 111, 110]⟩, .int .i64 1])).run Try.prog w = .ok (.bool b4) w := fun w => by rw [← h4]; exact run_eqlN w s [105, 115, 95, 102, 117, 110, 99, 116, 105, 111, 110] n 1 1 rfl
  have q5 : ∀ w, (binOp .eql 55 (.agg #[.string ⟨s.toArray⟩, .int .i64 (n : Int)]) (.agg #[.string ⟨#[105, 115, 95, 116, 117, 112, 108, 101]⟩, .int .i64 1])).run Try.prog w = .ok (.bool b5) w := fun w => by rw [← h5]; exact run_eqlN w s [105, 115, 95, 116, 117, 112, 108, 101] n 1 1 rfl
  have q6 : ∀ w, (binOp .eql 55 (.agg #[.string ⟨s.toArray⟩, .int .i64 (n : Int)]) (.agg #[.string ⟨#[105, 115, 95, 108, 105, 115, 116]⟩, .int .i64 1])).run Try.prog w = .ok (.bool b6) w := fun w => by rw [← h6]; exact run_eqlN w s [105, 115, 95, 108, 105, 115, 116] n 1 1 rfl
  have q7 : ∀ w, (binOp .eql 55 (.agg #[.string ⟨s.toArray⟩, .int .i64 (n : Int)]) (.agg #[.string ⟨#[104, 100]⟩, .int .i64 1])).run Try.prog w = .ok (.bool b7) w := fun w => by rw [← h7]; exact run_eqlN w s [104, 100] n 1 1 rfl
  have q8 : ∀ w, (binOp .eql 55 (.agg #[.string ⟨s.toArray⟩, .int .i64 (n : Int)]) (.agg #[.string ⟨#[116, 108]⟩, .int .i64 1])).run Try.prog w = .ok (.bool b8) w := fun w => by rw [← h8]; exact run_eqlN w s [116, 108] n 1 1 rfl
  have q9 : ∀ w, (binOp .eql 55 (.agg #[.string ⟨s.toArray⟩, .int .i64 (n : Int)]) (.agg #[.string ⟨#[116, 117, 112, 108, 101, 95, 115, 105, 122, 101]⟩, .int .i64 1])).run Try.prog w = .ok (.bool b9) w := fun w => by rw [← h9]; exact run_eqlN w s [116, 117, 112, 108, 101, 95, 115, 105, 122, 101] n 1 1 rfl
  have q10 : ∀ w, (binOp .eql 55 (.agg #[.string ⟨s.toArray⟩, .int .i64 (n : Int)]) (.agg #[.string ⟨#[108, 101, 110, 103, 116, 104]⟩, .int .i64 1])).run Try.prog w = .ok (.bool b10) w := fun w => by rw [← h10]; exact run_eqlN w s [108, 101, 110, 103, 116, 104] n 1 1 rfl
  have q11 : ∀ w, (binOp .eql 55 (.agg #[.string ⟨s.toArray⟩, .int .i64 (n : Int)]) (.agg #[.string ⟨#[101, 108, 101, 109, 101, 110, 116]⟩, .int .i64 2])).run Try.prog w = .ok (.bool b11) w := fun w => by rw [← h11]; exact run_eqlN w s [101, 108, 101, 109, 101, 110, 116] n 2 2 rfl
  have q12 : ∀ w, (binOp .eql 55 (.agg #[.string ⟨s.toArray⟩, .int .i64 (n : Int)]) (.agg #[.string ⟨#[108, 105, 115, 116, 95, 116, 111, 95, 116, 117, 112, 108, 101]⟩, .int .i64 1])).run Try.prog w = .ok (.bool b12) w := fun w => by rw [← h12]; exact run_eqlN w s [108, 105, 115, 116, 95, 116, 111, 95, 116, 117, 112, 108, 101] n 1 1 rfl
  have q13 : ∀ w, (binOp .eql 55 (.agg #[.string ⟨s.toArray⟩, .int .i64 (n : Int)]) (.agg #[.string ⟨#[116, 117, 112, 108, 101, 95, 116, 111, 95, 108, 105, 115, 116]⟩, .int .i64 1])).run Try.prog w = .ok (.bool b13) w := fun w => by rw [← h13]; exact run_eqlN w s [116, 117, 112, 108, 101, 95, 116, 111, 95, 108, 105, 115, 116] n 1 1 rfl
  have q14 : ∀ w, (binOp .eql 55 (.agg #[.string ⟨s.toArray⟩, .int .i64 (n : Int)]) (.agg #[.string ⟨#[114, 101, 118, 101, 114, 115, 101]⟩, .int .i64 1])).run Try.prog w = .ok (.bool b14) w := fun w => by rw [← h14]; exact run_eqlN w s [114, 101, 118, 101, 114, 115, 101] n 1 1 rfl
  have q15 : ∀ w, (binOp .eql 55 (.agg #[.string ⟨s.toArray⟩, .int .i64 (n : Int)]) (.agg #[.string ⟨#[116, 104, 114, 111, 119]⟩, .int .i64 1])).run Try.prog w = .ok (.bool b15) w := fun w => by rw [← h15]; exact run_eqlN w s [116, 104, 114, 111, 119] n 1 1 rfl
  have q16 : ∀ w, (binOp .eql 55 (.agg #[.string ⟨s.toArray⟩, .int .i64 (n : Int)]) (.agg #[.string ⟨#[101, 114, 114, 111, 114]⟩, .int .i64 1])).run Try.prog w = .ok (.bool b16) w := fun w => by rw [← h16]; exact run_eqlN w s [101, 114, 114, 111, 114] n 1 1 rfl
  have q17 : ∀ w, (binOp .eql 55 (.agg #[.string ⟨s.toArray⟩, .int .i64 (n : Int)]) (.agg #[.string ⟨#[101, 120, 105, 116]⟩, .int .i64 1])).run Try.prog w = .ok (.bool b17) w := fun w => by rw [← h17]; exact run_eqlN w s [101, 120, 105, 116] n 1 1 rfl
  have q18 : ∀ w, (binOp .eql 55 (.agg #[.string ⟨s.toArray⟩, .int .i64 (n : Int)]) (.agg #[.string ⟨#[97, 112, 112, 101, 110, 100]⟩, .int .i64 2])).run Try.prog w = .ok (.bool b18) w := fun w => by rw [← h18]; exact run_eqlN w s [97, 112, 112, 101, 110, 100] n 2 2 rfl
  have q19 : ∀ w, (binOp .eql 55 (.agg #[.string ⟨s.toArray⟩, .int .i64 (n : Int)]) (.agg #[.string ⟨#[115, 101, 108, 102]⟩, .int .i64 0])).run Try.prog w = .ok (.bool b19) w := fun w => by rw [← h19]; exact run_eqlN w s [115, 101, 108, 102] n 0 0 rfl
  have q20 : ∀ w, (binOp .eql 55 (.agg #[.string ⟨s.toArray⟩, .int .i64 (n : Int)]) (.agg #[.string ⟨#[110, 111, 119]⟩, .int .i64 0])).run Try.prog w = .ok (.bool b20) w := fun w => by rw [← h20]; exact run_eqlN w s [110, 111, 119] n 0 0 rfl
  have q21 : ∀ w, (binOp .eql 55 (.agg #[.string ⟨s.toArray⟩, .int .i64 (n : Int)]) (.agg #[.string ⟨#[109, 97, 107, 101, 95, 114, 101, 102]⟩, .int .i64 0])).run Try.prog w = .ok (.bool b21) w := fun w => by rw [← h21]; exact run_eqlN w s [109, 97, 107, 101, 95, 114, 101, 102] n 0 0 rfl
  have q22 : ∀ w, (binOp .eql 55 (.agg #[.string ⟨s.toArray⟩, .int .i64 (n : Int)]) (.agg #[.string ⟨#[115, 112, 97, 119, 110]⟩, .int .i64 1])).run Try.prog w = .ok (.bool b22) w := fun w => by rw [← h22]; exact run_eqlN w s [115, 112, 97, 119, 110] n 1 1 rfl
  have q23 : ∀ w, (binOp .eql 55 (.agg #[.string ⟨s.toArray⟩, .int .i64 (n : Int)]) (.agg #[.string ⟨#[108, 105, 110, 107]⟩, .int .i64 1])).run Try.prog w = .ok (.bool b23) w := fun w => by rw [← h23]; exact run_eqlN w s [108, 105, 110, 107] n 1 1 rfl
  have q24 : ∀ w, (binOp .eql 55 (.agg #[.string ⟨s.toArray⟩, .int .i64 (n : Int)]) (.agg #[.string ⟨#[117, 110, 108, 105, 110, 107]⟩, .int .i64 1])).run Try.prog w = .ok (.bool b24) w := fun w => by rw [← h24]; exact run_eqlN w s [117, 110, 108, 105, 110, 107] n 1 1 rfl
  have q25 : ∀ w, (binOp .eql 55 (.agg #[.string ⟨s.toArray⟩, .int .i64 (n : Int)]) (.agg #[.string ⟨#[109, 111, 110, 105, 116, 111, 114]⟩, .int .i64 1])).run Try.prog w = .ok (.bool b25) w := fun w => by rw [← h25]; exact run_eqlN w s [109, 111, 110, 105, 116, 111, 114] n 1 1 rfl
  have q26 : ∀ w, (binOp .eql 55 (.agg #[.string ⟨s.toArray⟩, .int .i64 (n : Int)]) (.agg #[.string ⟨#[100, 101, 109, 111, 110, 105, 116, 111, 114]⟩, .int .i64 1])).run Try.prog w = .ok (.bool b26) w := fun w => by rw [← h26]; exact run_eqlN w s [100, 101, 109, 111, 110, 105, 116, 111, 114] n 1 1 rfl
  have q27 : ∀ w, (binOp .eql 55 (.agg #[.string ⟨s.toArray⟩, .int .i64 (n : Int)]) (.agg #[.string ⟨#[117, 110, 114, 101, 103, 105, 115, 116, 101, 114]⟩, .int .i64 1])).run Try.prog w = .ok (.bool b27) w := fun w => by rw [← h27]; exact run_eqlN w s [117, 110, 114, 101, 103, 105, 115, 116, 101, 114] n 1 1 rfl
  have q28 : ∀ w, (binOp .eql 55 (.agg #[.string ⟨s.toArray⟩, .int .i64 (n : Int)]) (.agg #[.string ⟨#[119, 104, 101, 114, 101, 105, 115]⟩, .int .i64 1])).run Try.prog w = .ok (.bool b28) w := fun w => by rw [← h28]; exact run_eqlN w s [119, 104, 101, 114, 101, 105, 115] n 1 1 rfl
  have q29 : ∀ w, (binOp .eql 55 (.agg #[.string ⟨s.toArray⟩, .int .i64 (n : Int)]) (.agg #[.string ⟨#[116, 114, 97, 112, 95, 101, 120, 105, 116]⟩, .int .i64 1])).run Try.prog w = .ok (.bool b29) w := fun w => by rw [← h29]; exact run_eqlN w s [116, 114, 97, 112, 95, 101, 120, 105, 116] n 1 1 rfl
  have q30 : ∀ w, (binOp .eql 55 (.agg #[.string ⟨s.toArray⟩, .int .i64 (n : Int)]) (.agg #[.string ⟨#[111, 117, 116, 112, 117, 116]⟩, .int .i64 1])).run Try.prog w = .ok (.bool b30) w := fun w => by rw [← h30]; exact run_eqlN w s [111, 117, 116, 112, 117, 116] n 1 1 rfl
  have q31 : ∀ w, (binOp .eql 55 (.agg #[.string ⟨s.toArray⟩, .int .i64 (n : Int)]) (.agg #[.string ⟨#[101, 120, 105, 116]⟩, .int .i64 2])).run Try.prog w = .ok (.bool b31) w := fun w => by rw [← h31]; exact run_eqlN w s [101, 120, 105, 116] n 2 2 rfl
  have q32 : ∀ w, (binOp .eql 55 (.agg #[.string ⟨s.toArray⟩, .int .i64 (n : Int)]) (.agg #[.string ⟨#[114, 101, 103, 105, 115, 116, 101, 114]⟩, .int .i64 2])).run Try.prog w = .ok (.bool b32) w := fun w => by rw [← h32]; exact run_eqlN w s [114, 101, 103, 105, 115, 116, 101, 114] n 2 2 rfl
  have hg : Try.prog.eqGuardType Try.prog.depth 55 = false := by kernel_rfl
  generalize bltP s n = R at *
  clear h0 h1 h2 h3 h4 h5 h6 h7 h8 h9 h10 h11 h12 h13 h14 h15 h16 h17 h18 h19 h20 h21 h22 h23 h24 h25 h26 h27 h28 h29 h30 h31 h32
  go_enter Try.func8, Try.ntmps8
  go_upto_region 2 with (fail)
  refine wp_world (fun V => Blk V W.heap.size 55 #[.string ⟨s.toArray⟩, .int .i64 (n : Int)] ∧ Below W.heap.size W V) ⟨Blk.new _ _ _, below_alloc _ _⟩ ?_
  rintro V ⟨hB, hb⟩
  have c0 := hB.cell 0
  have c1 := hB.cell 1
  have HB := Lib.hid hb
  clear hB hb
  go_upto_region 3 with (fail)
  clear c0 c1
  cases b0 with
  | true =>
    clear q1 q2 q3 q4 q5 q6 q7 q8 q9 q10 q11 q12 q13 q14 q15 q16 q17 q18 q19 q20 q21 q22 q23 q24 q25 q26 q27 q28 q29 q30 q31 q32
    go_wp2
    go_ret
    exact ⟨by rw [HR.out]; rfl, HB.out⟩
  | false =>
  go_upto_region 4 with (fail)
  clear q0
  cases b1 with
  | true =>
    clear q2 q3 q4 q5 q6 q7 q8 q9 q10 q11 q12 q13 q14 q15 q16 q17 q18 q19 q20 q21 q22 q23 q24 q25 q26 q27 q28 q29 q30 q31 q32
    go_wp2
    go_ret
    exact ⟨by rw [HR.out]; rfl, HB.out⟩
  | false =>
  go_upto_region 5 with (fail)
  clear q1
  cases b2 with
  | true =>
    clear q3 q4 q5 q6 q7 q8 q9 q10 q11 q12 q13 q14 q15 q16 q17 q18 q19 q20 q21 q22 q23 q24 q25 q26 q27 q28 q29 q30 q31 q32
    go_wp2
    go_ret
    exact ⟨by rw [HR.out]; rfl, HB.out⟩
  | false =>
  go_upto_region 6 with (fail)
  clear q2
  cases b3 with
  | true =>
    clear q4 q5 q6 q7 q8 q9 q10 q11 q12 q13 q14 q15 q16 q17 q18 q19 q20 q21 q22 q23 q24 q25 q26 q27 q28 q29 q30 q31 q32
    go_wp2
    go_ret
    exact ⟨by rw [HR.out]; rfl, HB.out⟩
  | false =>
  go_upto_region 7 with (fail)
  clear q3
  cases b4 with
  | true =>
    clear q5 q6 q7 q8 q9 q10 q11 q12 q13 q14 q15 q16 q17 q18 q19 q20 q21 q22 q23 q24 q25 q26 q27 q28 q29 q30 q31 q32
    go_wp2
    go_ret
    exact ⟨by rw [HR.out]; rfl, HB.out⟩
  | false =>
  go_upto_region 8 with (fail)
  clear q4
  cases b5 with
  | true =>
    clear q6 q7 q8 q9 q10 q11 q12 q13 q14 q15 q16 q17 q18 q19 q20 q21 q22 q23 q24 q25 q26 q27 q28 q29 q30 q31 q32
    go_wp2
    go_ret
    exact ⟨by rw [HR.out]; rfl, HB.out⟩
  | false =>
  go_upto_region 9 with (fail)
  clear q5
  cases b6 with
  | true =>
    clear q7 q8 q9 q10 q11 q12 q13 q14 q15 q16 q17 q18 q19 q20 q21 q22 q23 q24 q25 q26 q27 q28 q29 q30 q31 q32
    go_wp2
    go_ret
    exact ⟨by rw [HR.out]; rfl, HB.out⟩
  | false =>
  go_upto_region 10 with (fail)
  clear q6
  cases b7 with
  | true =>
    clear q8 q9 q10 q11 q12 q13 q14 q15 q16 q17 q18 q19 q20 q21 q22 q23 q24 q25 q26 q27 q28 q29 q30 q31 q32
    go_wp2
    go_ret
    exact ⟨by rw [HR.out]; rfl, HB.out⟩
  | false =>
  go_upto_region 11 with (fail)
  clear q7
  cases b8 with
  | true =>
    clear q9 q10 q11 q12 q13 q14 q15 q16 q17 q18 q19 q20 q21 q22 q23 q24 q25 q26 q27 q28 q29 q30 q31 q32
    go_wp2
    go_ret
    exact ⟨by rw [HR.out]; rfl, HB.out⟩
  | false =>
  go_upto_region 12 with (fail)
  clear q8
  cases b9 with
  | true =>
    clear q10 q11 q12 q13 q14 q15 q16 q17 q18 q19 q20 q21 q22 q23 q24 q25 q26 q27 q28 q29 q30 q31 q32
    go_wp2
    go_ret
    exact ⟨by rw [HR.out]; rfl, HB.out⟩
  | false =>
  go_upto_region 13 with (fail)
  clear q9
  cases b10 with
  | true =>
    clear q11 q12 q13 q14 q15 q16 q17 q18 q19 q20 q21 q22 q23 q24 q25 q26 q27 q28 q29 q30 q31 q32
    go_wp2
    go_ret
    exact ⟨by rw [HR.out]; rfl, HB.out⟩
  | false =>
  go_upto_region 14 with (fail)
  clear q10
  cases b11 with
  | true =>
    clear q12 q13 q14 q15 q16 q17 q18 q19 q20 q21 q22 q23 q24 q25 q26 q27 q28 q29 q30 q31 q32
    go_wp2
    go_ret
    exact ⟨by rw [HR.out]; rfl, HB.out⟩
  | false =>
  go_upto_region 16 with (fail)
  clear q11
  cases b12 with
  | true =>
    clear q13 q14 q15 q16 q17 q18 q19 q20 q21 q22 q23 q24 q25 q26 q27 q28 q29 q30 q31 q32
    go_wp2
    go_ret
    exact ⟨by rw [HR.out]; rfl, HB.out⟩
  | false =>
  go_upto_region 17 with (fail)
  clear q12
  cases b13 with
  | true =>
    clear q14 q15 q16 q17 q18 q19 q20 q21 q22 q23 q24 q25 q26 q27 q28 q29 q30 q31 q32
    go_wp2
    go_ret
    exact ⟨by rw [HR.out]; rfl, HB.out⟩
  | false =>
  go_upto_region 18 with (fail)
  clear q13
  cases b14 with
  | true =>
    clear q15 q16 q17 q18 q19 q20 q21 q22 q23 q24 q25 q26 q27 q28 q29 q30 q31 q32
    go_wp2
    go_ret
    exact ⟨by rw [HR.out]; rfl, HB.out⟩
  | false =>
  go_upto_region 19 with (fail)
  clear q14
  cases b15 with
  | true =>
    clear q16 q17 q18 q19 q20 q21 q22 q23 q24 q25 q26 q27 q28 q29 q30 q31 q32
    go_wp2
    go_ret
    exact ⟨by rw [HR.out]; rfl, HB.out⟩
  | false =>
  go_upto_region 20 with (fail)
  clear q15
  cases b16 with
  | true =>
    clear q17 q18 q19 q20 q21 q22 q23 q24 q25 q26 q27 q28 q29 q30 q31 q32
    go_wp2
    go_ret
    exact ⟨by rw [HR.out]; rfl, HB.out⟩
  | false =>
  go_upto_region 21 with (fail)
  clear q16
  cases b17 with
  | true =>
    clear q18 q19 q20 q21 q22 q23 q24 q25 q26 q27 q28 q29 q30 q31 q32
    go_wp2
    go_ret
    exact ⟨by rw [HR.out]; rfl, HB.out⟩
  | false =>
  go_upto_region 22 with (fail)
  clear q17
  cases b18 with
  | true =>
    clear q19 q20 q21 q22 q23 q24 q25 q26 q27 q28 q29 q30 q31 q32
    go_wp2
    go_ret
    exact ⟨by rw [HR.out]; rfl, HB.out⟩
  | false =>
  go_upto_region 24 with (fail)
  clear q18
  cases b19 with
  | true =>
    clear q20 q21 q22 q23 q24 q25 q26 q27 q28 q29 q30 q31 q32
    go_wp2
    go_ret
    exact ⟨by rw [HR.out]; rfl, HB.out⟩
  | false =>
  go_upto_region 25 with (fail)
  clear q19
  cases b20 with
  | true =>
    clear q21 q22 q23 q24 q25 q26 q27 q28 q29 q30 q31 q32
    go_wp2
    go_ret
    exact ⟨by rw [HR.out]; rfl, HB.out⟩
  | false =>
  go_upto_region 26 with (fail)
  clear q20
  cases b21 with
  | true =>
    clear q22 q23 q24 q25 q26 q27 q28 q29 q30 q31 q32
    go_wp2
    go_ret
    exact ⟨by rw [HR.out]; rfl, HB.out⟩
  | false =>
  go_upto_region 27 with (fail)
  clear q21
  cases b22 with
  | true =>
    clear q23 q24 q25 q26 q27 q28 q29 q30 q31 q32
    go_wp2
    go_ret
    exact ⟨by rw [HR.out]; rfl, HB.out⟩
  | false =>
  go_upto_region 28 with (fail)
  clear q22
  cases b23 with
  | true =>
    clear q24 q25 q26 q27 q28 q29 q30 q31 q32
    go_wp2
    go_ret
    exact ⟨by rw [HR.out]; rfl, HB.out⟩
  | false =>
  go_upto_region 29 with (fail)
  clear q23
  cases b24 with
  | true =>
    clear q25 q26 q27 q28 q29 q30 q31 q32
    go_wp2
    go_ret
    exact ⟨by rw [HR.out]; rfl, HB.out⟩
  | false =>
  go_upto_region 30 with (fail)
  clear q24
  cases b25 with
  | true =>
    clear q26 q27 q28 q29 q30 q31 q32
    go_wp2
    go_ret
    exact ⟨by rw [HR.out]; rfl, HB.out⟩
  | false =>
  go_upto_region 31 with (fail)
  clear q25
  cases b26 with
  | true =>
    clear q27 q28 q29 q30 q31 q32
    go_wp2
    go_ret
    exact ⟨by rw [HR.out]; rfl, HB.out⟩
  | false =>
  go_upto_region 32 with (fail)
  clear q26
  cases b27 with
  | true =>
    clear q28 q29 q30 q31 q32
    go_wp2
    go_ret
    exact ⟨by rw [HR.out]; rfl, HB.out⟩
  | false =>
  go_upto_region 33 with (fail)
  clear q27
  cases b28 with
  | true =>
    clear q29 q30 q31 q32
    go_wp2
    go_ret
    exact ⟨by rw [HR.out]; rfl, HB.out⟩
  | false =>
  go_upto_region 34 with (fail)
  clear q28
  cases b29 with
  | true =>
    clear q30 q31 q32
    go_wp2
    go_ret
    exact ⟨by rw [HR.out]; rfl, HB.out⟩
  | false =>
  go_upto_region 35 with (fail)
  clear q29
  cases b30 with
  | true =>
    clear q31 q32
    go_wp2
    go_ret
    exact ⟨by rw [HR.out]; rfl, HB.out⟩
  | false =>
  go_upto_region 36 with (fail)
  clear q30
  cases b31 with
  | true =>
    clear q32
    go_wp2
    go_ret
    exact ⟨by rw [HR.out]; rfl, HB.out⟩
  | false =>
  go_upto_region 37 with (fail)
  clear q31
  cases b32 with
  | true =>
    go_wp2
    go_ret
    exact ⟨by rw [HR.out]; rfl, HB.out⟩
  | false =>
  go_wp2
  go_ret
  exact ⟨by rw [HR.out]; rfl, HB.out⟩
end Go.Proofs.Ythhindnjnijglaa
