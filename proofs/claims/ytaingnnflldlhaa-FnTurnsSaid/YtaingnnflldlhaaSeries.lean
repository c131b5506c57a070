/- The walks for both programs' series: nine rounds, each valid, to the same word. -/
import Derived.Test.YtaingnnflldlhaaGcd
namespace Go.Proofs.Ytaingnnflldlhaa.TurnW
open Go.RowKit Fl

theorem round_facts {y d t : Nat} {E : Int} (s : StepOk y d t E) (D : Int) (hD : D = (d : Int)) :
    ∃ q p, (∀ w, (binOp .quo 37 (.float .f64 y) (.float .f64 (floatOfInt .f64 D))).run Try.prog w = .ok (.float .f64 q) w) ∧ floatBits .mul .f64 q t = some p ∧
      (∀ w, (binOp .sub 37 (.float .f64 4607182418800017408) (.float .f64 p)).run Try.prog w = .ok (.float .f64 (Fl.step y d t)) w) := by
  subst hD
  exact ⟨_, _, fun w => run_float_arith w .quo 37 .f64 _ _ _ s.q, s.p, fun w => run_float_arith w .sub 37 .f64 _ _ _ s.s⟩

set_option maxHeartbeats 1000000 in
theorem series_even : ∀ {y : Nat} (_ : Num y 2) (w : World), Calls Try.prog 82 #[.float .f64 y, .bool true] w fun e w' => e = .returned (.float .f64 (cosT y 9)) ∧ w = w' := by
  intro y hy w
  go_enter Try.func82, Try.ntmps82
  go_wp2
  go_loop [5, 6] (fun t m => ∃ i : Nat, i ≤ 9 ∧ m = .int .i64 ((9 - i : Nat) : Int) ∧ t = .float .f64 (cosT y i)) (fun _ m => (intOf m).toNat)
  case atStart => exact ⟨0, by omega, rfl, rfl⟩
  case round =>
    obtain ⟨i, hi, rfl, rfl⟩ := hrel
    have hi' : i = 0 ∨ i = 1 ∨ i = 2 ∨ i = 3 ∨ i = 4 ∨ i = 5 ∨ i = 6 ∨ i = 7 ∨ i = 8 ∨ i = 9 := by omega
    clear hi
    rcases hi' with rfl | rfl | rfl | rfl | rfl | rfl | rfl | rfl | rfl | rfl
    · obtain ⟨q, p, h1, h2, h3⟩ := round_facts (cos_step hy 0 (by omega)) 306 rfl
      go_wp2_with (go_at_call 81; refine (mul_impl _ _ p h2 _).mono ?_; rintro e w' ⟨rfl, rfl⟩)
      go_round
      case rel => exact ⟨1, by omega, by go_num, rfl⟩
      case measure => simp [intOf]
    · obtain ⟨q, p, h1, h2, h3⟩ := round_facts (cos_step hy 1 (by omega)) 240 rfl
      go_wp2_with (go_at_call 81; refine (mul_impl _ _ p h2 _).mono ?_; rintro e w' ⟨rfl, rfl⟩)
      go_round
      case rel => exact ⟨2, by omega, by go_num, rfl⟩
      case measure => simp [intOf]
    · obtain ⟨q, p, h1, h2, h3⟩ := round_facts (cos_step hy 2 (by omega)) 182 rfl
      go_wp2_with (go_at_call 81; refine (mul_impl _ _ p h2 _).mono ?_; rintro e w' ⟨rfl, rfl⟩)
      go_round
      case rel => exact ⟨3, by omega, by go_num, rfl⟩
      case measure => simp [intOf]
    · obtain ⟨q, p, h1, h2, h3⟩ := round_facts (cos_step hy 3 (by omega)) 132 rfl
      go_wp2_with (go_at_call 81; refine (mul_impl _ _ p h2 _).mono ?_; rintro e w' ⟨rfl, rfl⟩)
      go_round
      case rel => exact ⟨4, by omega, by go_num, rfl⟩
      case measure => simp [intOf]
    · obtain ⟨q, p, h1, h2, h3⟩ := round_facts (cos_step hy 4 (by omega)) 90 rfl
      go_wp2_with (go_at_call 81; refine (mul_impl _ _ p h2 _).mono ?_; rintro e w' ⟨rfl, rfl⟩)
      go_round
      case rel => exact ⟨5, by omega, by go_num, rfl⟩
      case measure => simp [intOf]
    · obtain ⟨q, p, h1, h2, h3⟩ := round_facts (cos_step hy 5 (by omega)) 56 rfl
      go_wp2_with (go_at_call 81; refine (mul_impl _ _ p h2 _).mono ?_; rintro e w' ⟨rfl, rfl⟩)
      go_round
      case rel => exact ⟨6, by omega, by go_num, rfl⟩
      case measure => simp [intOf]
    · obtain ⟨q, p, h1, h2, h3⟩ := round_facts (cos_step hy 6 (by omega)) 30 rfl
      go_wp2_with (go_at_call 81; refine (mul_impl _ _ p h2 _).mono ?_; rintro e w' ⟨rfl, rfl⟩)
      go_round
      case rel => exact ⟨7, by omega, by go_num, rfl⟩
      case measure => simp [intOf]
    · obtain ⟨q, p, h1, h2, h3⟩ := round_facts (cos_step hy 7 (by omega)) 12 rfl
      go_wp2_with (go_at_call 81; refine (mul_impl _ _ p h2 _).mono ?_; rintro e w' ⟨rfl, rfl⟩)
      go_round
      case rel => exact ⟨8, by omega, by go_num, rfl⟩
      case measure => simp [intOf]
    · obtain ⟨q, p, h1, h2, h3⟩ := round_facts (cos_step hy 8 (by omega)) 2 rfl
      go_wp2_with (go_at_call 81; refine (mul_impl _ _ p h2 _).mono ?_; rintro e w' ⟨rfl, rfl⟩)
      go_round
      case rel => exact ⟨9, by omega, by go_num, rfl⟩
      case measure => simp [intOf]
    · -- behind the last round
      go_wp2
      go_ret
      exact ⟨rfl, rfl⟩

set_option maxHeartbeats 1000000 in
theorem series_odd : ∀ {y : Nat} (_ : Num y 2) (w : World), Calls Try.prog 82 #[.float .f64 y, .bool false] w fun e w' => e = .returned (.float .f64 (sinT y 9)) ∧ w = w' := by
  intro y hy w
  go_enter Try.func82, Try.ntmps82
  go_wp2
  go_loop [5, 6] (fun t m => ∃ i : Nat, i ≤ 9 ∧ m = .int .i64 ((9 - i : Nat) : Int) ∧ t = .float .f64 (sinT y i)) (fun _ m => (intOf m).toNat)
  case atStart => exact ⟨0, by omega, rfl, rfl⟩
  case round =>
    obtain ⟨i, hi, rfl, rfl⟩ := hrel
    have hi' : i = 0 ∨ i = 1 ∨ i = 2 ∨ i = 3 ∨ i = 4 ∨ i = 5 ∨ i = 6 ∨ i = 7 ∨ i = 8 ∨ i = 9 := by omega
    clear hi
    rcases hi' with rfl | rfl | rfl | rfl | rfl | rfl | rfl | rfl | rfl | rfl
    · obtain ⟨q, p, h1, h2, h3⟩ := round_facts (sin_step hy 0 (by omega)) 342 rfl
      go_wp2_with (go_at_call 81; refine (mul_impl _ _ p h2 _).mono ?_; rintro e w' ⟨rfl, rfl⟩)
      go_round
      case rel => exact ⟨1, by omega, by go_num, rfl⟩
      case measure => simp [intOf]
    · obtain ⟨q, p, h1, h2, h3⟩ := round_facts (sin_step hy 1 (by omega)) 272 rfl
      go_wp2_with (go_at_call 81; refine (mul_impl _ _ p h2 _).mono ?_; rintro e w' ⟨rfl, rfl⟩)
      go_round
      case rel => exact ⟨2, by omega, by go_num, rfl⟩
      case measure => simp [intOf]
    · obtain ⟨q, p, h1, h2, h3⟩ := round_facts (sin_step hy 2 (by omega)) 210 rfl
      go_wp2_with (go_at_call 81; refine (mul_impl _ _ p h2 _).mono ?_; rintro e w' ⟨rfl, rfl⟩)
      go_round
      case rel => exact ⟨3, by omega, by go_num, rfl⟩
      case measure => simp [intOf]
    · obtain ⟨q, p, h1, h2, h3⟩ := round_facts (sin_step hy 3 (by omega)) 156 rfl
      go_wp2_with (go_at_call 81; refine (mul_impl _ _ p h2 _).mono ?_; rintro e w' ⟨rfl, rfl⟩)
      go_round
      case rel => exact ⟨4, by omega, by go_num, rfl⟩
      case measure => simp [intOf]
    · obtain ⟨q, p, h1, h2, h3⟩ := round_facts (sin_step hy 4 (by omega)) 110 rfl
      go_wp2_with (go_at_call 81; refine (mul_impl _ _ p h2 _).mono ?_; rintro e w' ⟨rfl, rfl⟩)
      go_round
      case rel => exact ⟨5, by omega, by go_num, rfl⟩
      case measure => simp [intOf]
    · obtain ⟨q, p, h1, h2, h3⟩ := round_facts (sin_step hy 5 (by omega)) 72 rfl
      go_wp2_with (go_at_call 81; refine (mul_impl _ _ p h2 _).mono ?_; rintro e w' ⟨rfl, rfl⟩)
      go_round
      case rel => exact ⟨6, by omega, by go_num, rfl⟩
      case measure => simp [intOf]
    · obtain ⟨q, p, h1, h2, h3⟩ := round_facts (sin_step hy 6 (by omega)) 42 rfl
      go_wp2_with (go_at_call 81; refine (mul_impl _ _ p h2 _).mono ?_; rintro e w' ⟨rfl, rfl⟩)
      go_round
      case rel => exact ⟨7, by omega, by go_num, rfl⟩
      case measure => simp [intOf]
    · obtain ⟨q, p, h1, h2, h3⟩ := round_facts (sin_step hy 7 (by omega)) 20 rfl
      go_wp2_with (go_at_call 81; refine (mul_impl _ _ p h2 _).mono ?_; rintro e w' ⟨rfl, rfl⟩)
      go_round
      case rel => exact ⟨8, by omega, by go_num, rfl⟩
      case measure => simp [intOf]
    · obtain ⟨q, p, h1, h2, h3⟩ := round_facts (sin_step hy 8 (by omega)) 6 rfl
      go_wp2_with (go_at_call 81; refine (mul_impl _ _ p h2 _).mono ?_; rintro e w' ⟨rfl, rfl⟩)
      go_round
      case rel => exact ⟨9, by omega, by go_num, rfl⟩
      case measure => simp [intOf]
    · -- behind the last round
      go_wp2
      go_ret
      exact ⟨rfl, rfl⟩

set_option maxHeartbeats 1000000 in
theorem cosine : ∀ {y : Nat} (_ : Num y 2) (w : World), Calls Try.prog 90 #[.float .f64 y] w fun e w' => e = .returned (.float .f64 (cosT y 9)) ∧ w = w' := by
  intro y hy w
  go_enter Try.func90, Try.ntmps90
  go_wp2
  go_loop [3, 4] (fun t m => ∃ i : Nat, i ≤ 9 ∧ m = .int .i64 ((9 - i : Nat) : Int) ∧ t = .float .f64 (cosT y i)) (fun _ m => (intOf m).toNat)
  case atStart => exact ⟨0, by omega, rfl, rfl⟩
  case round =>
    obtain ⟨i, hi, rfl, rfl⟩ := hrel
    have hi' : i = 0 ∨ i = 1 ∨ i = 2 ∨ i = 3 ∨ i = 4 ∨ i = 5 ∨ i = 6 ∨ i = 7 ∨ i = 8 ∨ i = 9 := by omega
    clear hi
    rcases hi' with rfl | rfl | rfl | rfl | rfl | rfl | rfl | rfl | rfl | rfl
    · obtain ⟨q, p, h1, h2, h3⟩ := round_facts (cos_step hy 0 (by omega)) 306 rfl
      have h2' := fun w => run_float_arith (P := Try.prog) w .mul 37 .f64 _ _ p h2
      clear h2
      go_wp2
      go_round
      case rel => exact ⟨1, by omega, by go_num, rfl⟩
      case measure => simp [intOf]
    · obtain ⟨q, p, h1, h2, h3⟩ := round_facts (cos_step hy 1 (by omega)) 240 rfl
      have h2' := fun w => run_float_arith (P := Try.prog) w .mul 37 .f64 _ _ p h2
      clear h2
      go_wp2
      go_round
      case rel => exact ⟨2, by omega, by go_num, rfl⟩
      case measure => simp [intOf]
    · obtain ⟨q, p, h1, h2, h3⟩ := round_facts (cos_step hy 2 (by omega)) 182 rfl
      have h2' := fun w => run_float_arith (P := Try.prog) w .mul 37 .f64 _ _ p h2
      clear h2
      go_wp2
      go_round
      case rel => exact ⟨3, by omega, by go_num, rfl⟩
      case measure => simp [intOf]
    · obtain ⟨q, p, h1, h2, h3⟩ := round_facts (cos_step hy 3 (by omega)) 132 rfl
      have h2' := fun w => run_float_arith (P := Try.prog) w .mul 37 .f64 _ _ p h2
      clear h2
      go_wp2
      go_round
      case rel => exact ⟨4, by omega, by go_num, rfl⟩
      case measure => simp [intOf]
    · obtain ⟨q, p, h1, h2, h3⟩ := round_facts (cos_step hy 4 (by omega)) 90 rfl
      have h2' := fun w => run_float_arith (P := Try.prog) w .mul 37 .f64 _ _ p h2
      clear h2
      go_wp2
      go_round
      case rel => exact ⟨5, by omega, by go_num, rfl⟩
      case measure => simp [intOf]
    · obtain ⟨q, p, h1, h2, h3⟩ := round_facts (cos_step hy 5 (by omega)) 56 rfl
      have h2' := fun w => run_float_arith (P := Try.prog) w .mul 37 .f64 _ _ p h2
      clear h2
      go_wp2
      go_round
      case rel => exact ⟨6, by omega, by go_num, rfl⟩
      case measure => simp [intOf]
    · obtain ⟨q, p, h1, h2, h3⟩ := round_facts (cos_step hy 6 (by omega)) 30 rfl
      have h2' := fun w => run_float_arith (P := Try.prog) w .mul 37 .f64 _ _ p h2
      clear h2
      go_wp2
      go_round
      case rel => exact ⟨7, by omega, by go_num, rfl⟩
      case measure => simp [intOf]
    · obtain ⟨q, p, h1, h2, h3⟩ := round_facts (cos_step hy 7 (by omega)) 12 rfl
      have h2' := fun w => run_float_arith (P := Try.prog) w .mul 37 .f64 _ _ p h2
      clear h2
      go_wp2
      go_round
      case rel => exact ⟨8, by omega, by go_num, rfl⟩
      case measure => simp [intOf]
    · obtain ⟨q, p, h1, h2, h3⟩ := round_facts (cos_step hy 8 (by omega)) 2 rfl
      have h2' := fun w => run_float_arith (P := Try.prog) w .mul 37 .f64 _ _ p h2
      clear h2
      go_wp2
      go_round
      case rel => exact ⟨9, by omega, by go_num, rfl⟩
      case measure => simp [intOf]
    · -- behind the last round
      go_wp2
      go_ret
      exact ⟨rfl, rfl⟩

set_option maxHeartbeats 1000000 in
theorem sine : ∀ {x y : Nat} (_ : Num y 2) (r : Nat) (_ : floatBits .mul .f64 (sinT y 9) x = some r) (w : World), Calls Try.prog 91 #[.float .f64 x, .float .f64 y] w fun e w' => e = .returned (.float .f64 r) ∧ w = w' := by
  intro x y hy r hr w
  go_enter Try.func91, Try.ntmps91
  go_wp2
  go_loop [5, 6] (fun t m => ∃ i : Nat, i ≤ 9 ∧ m = .int .i64 ((9 - i : Nat) : Int) ∧ t = .float .f64 (sinT y i)) (fun _ m => (intOf m).toNat)
  case atStart => exact ⟨0, by omega, rfl, rfl⟩
  case round =>
    obtain ⟨i, hi, rfl, rfl⟩ := hrel
    have hi' : i = 0 ∨ i = 1 ∨ i = 2 ∨ i = 3 ∨ i = 4 ∨ i = 5 ∨ i = 6 ∨ i = 7 ∨ i = 8 ∨ i = 9 := by omega
    clear hi
    rcases hi' with rfl | rfl | rfl | rfl | rfl | rfl | rfl | rfl | rfl | rfl
    · obtain ⟨q, p, h1, h2, h3⟩ := round_facts (sin_step hy 0 (by omega)) 342 rfl
      have h2' := fun w => run_float_arith (P := Try.prog) w .mul 37 .f64 _ _ p h2
      clear h2
      go_wp2
      go_round
      case rel => exact ⟨1, by omega, by go_num, rfl⟩
      case measure => simp [intOf]
    · obtain ⟨q, p, h1, h2, h3⟩ := round_facts (sin_step hy 1 (by omega)) 272 rfl
      have h2' := fun w => run_float_arith (P := Try.prog) w .mul 37 .f64 _ _ p h2
      clear h2
      go_wp2
      go_round
      case rel => exact ⟨2, by omega, by go_num, rfl⟩
      case measure => simp [intOf]
    · obtain ⟨q, p, h1, h2, h3⟩ := round_facts (sin_step hy 2 (by omega)) 210 rfl
      have h2' := fun w => run_float_arith (P := Try.prog) w .mul 37 .f64 _ _ p h2
      clear h2
      go_wp2
      go_round
      case rel => exact ⟨3, by omega, by go_num, rfl⟩
      case measure => simp [intOf]
    · obtain ⟨q, p, h1, h2, h3⟩ := round_facts (sin_step hy 3 (by omega)) 156 rfl
      have h2' := fun w => run_float_arith (P := Try.prog) w .mul 37 .f64 _ _ p h2
      clear h2
      go_wp2
      go_round
      case rel => exact ⟨4, by omega, by go_num, rfl⟩
      case measure => simp [intOf]
    · obtain ⟨q, p, h1, h2, h3⟩ := round_facts (sin_step hy 4 (by omega)) 110 rfl
      have h2' := fun w => run_float_arith (P := Try.prog) w .mul 37 .f64 _ _ p h2
      clear h2
      go_wp2
      go_round
      case rel => exact ⟨5, by omega, by go_num, rfl⟩
      case measure => simp [intOf]
    · obtain ⟨q, p, h1, h2, h3⟩ := round_facts (sin_step hy 5 (by omega)) 72 rfl
      have h2' := fun w => run_float_arith (P := Try.prog) w .mul 37 .f64 _ _ p h2
      clear h2
      go_wp2
      go_round
      case rel => exact ⟨6, by omega, by go_num, rfl⟩
      case measure => simp [intOf]
    · obtain ⟨q, p, h1, h2, h3⟩ := round_facts (sin_step hy 6 (by omega)) 42 rfl
      have h2' := fun w => run_float_arith (P := Try.prog) w .mul 37 .f64 _ _ p h2
      clear h2
      go_wp2
      go_round
      case rel => exact ⟨7, by omega, by go_num, rfl⟩
      case measure => simp [intOf]
    · obtain ⟨q, p, h1, h2, h3⟩ := round_facts (sin_step hy 7 (by omega)) 20 rfl
      have h2' := fun w => run_float_arith (P := Try.prog) w .mul 37 .f64 _ _ p h2
      clear h2
      go_wp2
      go_round
      case rel => exact ⟨8, by omega, by go_num, rfl⟩
      case measure => simp [intOf]
    · obtain ⟨q, p, h1, h2, h3⟩ := round_facts (sin_step hy 8 (by omega)) 6 rfl
      have h2' := fun w => run_float_arith (P := Try.prog) w .mul 37 .f64 _ _ p h2
      clear h2
      go_wp2
      go_round
      case rel => exact ⟨9, by omega, by go_num, rfl⟩
      case measure => simp [intOf]
    · -- behind the last round
      have hx := fun w => run_float_arith (P := Try.prog) w .mul 37 .f64 _ _ r hr
      go_wp2
      go_ret
      exact ⟨rfl, rfl⟩
end Go.Proofs.Ytaingnnflldlhaa.TurnW
