/- The walks for both programs' greatest common divisor, and for small helpers of the turns. No condition but bounds on the numbers. -/
import Derived.Test.YtaingnnflldlhaaTurn
import Derived.Test.YtaingnnflldlhaaExt
import Derived.WalkKit
import Derived.WalkLawsBesides
import Derived.Outline
import Derived.Lib.Hide
import Derived.LoopTactic
import Derived.Deep.QuietTactic
import Derived.BigQuiet
namespace Go.Proofs.Ytaingnnflldlhaa.TurnW
open Go.RowKit Fl

theorem ret_int {k : IntKind} {a b : Int} (h : a = b) : Ending.returned (.int k a) = .returned (.int k b) := by rw [h]

theorem gcd_step (p q : Nat) : q.gcd (p % q) = p.gcd q := by rw [Nat.gcd_comm q (p % q), ← Nat.gcd_rec, Nat.gcd_comm]

theorem gcd_spec (a b : Nat) (ha : a ≤ 1000000) (hb : b ≤ 1000000) (w : World) : Calls Try.prog 89 #[.int .i64 a, .int .i64 b] w fun e w' => e = .returned (.int .i64 (a.gcd b : Nat)) ∧ w = w' := by
  go_enter Try.func89, Try.ntmps89
  go_wp2
  go_loop [0, 1, 5] (fun x y _ => ∃ p q : Nat, p ≤ 1000000 ∧ q ≤ 1000000 ∧ x = .int .i64 p ∧ y = .int .i64 q ∧ Hid (p.gcd q = a.gcd b)) (fun _ y _ => (intOf y).toNat)
  case atStart => exact ⟨a, b, ha, hb, rfl, rfl, rfl⟩
  case round =>
    obtain ⟨p, q, hp, hq, rfl, rfl, hg⟩ := hrel
    by_cases h : q = 0
    · have h0 : (((q : Nat) : Int) != 0) = false := by rw [h]; rfl
      have H := Lib.hid h
      clear h
      go_wp2
      go_ret
      exact ⟨ret_int (by have e := hg.out; rw [H.out, Nat.gcd_zero_right] at e; rw [e]), rfl⟩
    · have h0 : (((q : Nat) : Int) != 0) = true := by simp; exact h
      have h1 : 0 < (q : Int) := by omega
      have h2 : 0 < q := by omega
      have hm := Nat.mod_lt p h2
      clear h
      go_wp2
      go_round
      case rel => exact ⟨q, p % q, hq, by omega, rfl, by go_num, by show _ = _; rw [← hg.out]; exact gcd_step p q⟩
      case measure => simp [intOf]; omega

theorem gcd_impl (a b : Nat) (ha : a ≤ 1000000) (hb : b ≤ 1000000) (w : World) : Calls Try.prog 78 #[.int .i64 a, .int .i64 b] w fun e w' => e = .returned (.int .i64 (a.gcd b : Nat)) ∧ ∃ n, w' = w.drewN n := by
  go_enter Try.func78, Try.ntmps78
  go_wp2
  go_loopw [0, 1] (fun x y wr => ∃ p q : Nat, p ≤ 1000000 ∧ q ≤ 1000000 ∧ x = .int .i64 p ∧ y = .int .i64 q ∧ Hid (p.gcd q = a.gcd b) ∧ ∃ m, wr = w.drewN m) (fun _ y _ => (intOf y).toNat)
  case atStart => exact ⟨a, b, ha, hb, rfl, rfl, rfl, 0, rfl⟩
  case round =>
    obtain ⟨p, q, hp, hq, rfl, rfl, hg, m, rfl⟩ := hrel
    by_cases h : q = 0
    · have h0 : (((q : Nat) : Int) != 0) = false := by rw [h]; rfl
      have H := Lib.hid h
      clear h
      go_wp2
      go_ret
      exact ⟨ret_int (by have e := hg.out; rw [H.out, Nat.gcd_zero_right] at e; rw [e]), _, rfl⟩
    · have h0 : (((q : Nat) : Int) != 0) = true := by simp; exact h
      have h1 : 0 < (q : Int) := by omega
      have h2 : 0 < q := by omega
      have hm := Nat.mod_lt p h2
      have h3 : ((q : Int) == 0) = false := by simp; omega
      clear h
      go_wp2
      go_quiet (fail)
      go_wp2
      go_roundw
      case rel => exact ⟨q, p % q, hq, by omega, rfl, by go_num, by show _ = _; rw [← hg.out]; exact gcd_step p q, _, World.drewN_drewN ..⟩
      case measure => simp [intOf]; omega

/-! ### Small helpers -/
theorem conj_impl (a b : Nat) (w : World) : Calls Try.prog 79 #[.complex .f64 a b] w fun e w' => e = .returned (.complex .f64 a (Op.negFloat .f64 b)) ∧ w = w' := by
  go_enter Try.func79, Try.ntmps79
  go_wp2
  go_ret
  exact ⟨rfl, rfl⟩
theorem conj_spec (a b : Nat) (w : World) : Calls Try.prog 51 #[.complex .f64 a b] w fun e w' => e = .returned (.complex .f64 a (Op.negFloat .f64 b)) ∧ w = w' := by
  go_enter Try.func51, Try.ntmps51
  go_wp2
  go_ret
  exact ⟨rfl, rfl⟩
theorem mul_impl (x y r : Nat) (h : floatBits .mul .f64 x y = some r) (w : World) : Calls Try.prog 81 #[.float .f64 x, .float .f64 y] w fun e w' => e = .returned (.float .f64 r) ∧ w = w' := by
  have hop : ∀ w, (binOp .mul 37 (.float .f64 x) (.float .f64 y)).run Try.prog w = .ok (.float .f64 r) w := fun w => run_float_arith w .mul 37 .f64 x y r h
  clear h
  go_enter Try.func81, Try.ntmps81
  go_wp2
  go_ret
  exact ⟨rfl, rfl⟩
theorem sqrt_call (w : World) : (callFunc 92 #[.float .f64 4602678819172646912]).run Try.prog w = .ok (.value (.float .f64 half)) w := by
  rw [run_callFunc_extern Try.func92 (by kernel_rfl) (by kernel_rfl) (by kernel_rfl) (e := Extern.MathSqrt.sqrt) (by kernel_rfl)]
  have h : FloatKind.f64.format.sqrt 4602678819172646912 = some half := by decide +kernel
  have e : Extern.MathSqrt.sqrt #[.float .f64 4602678819172646912] = (match FloatKind.f64.format.sqrt 4602678819172646912 with
    | some r => pure (.float .f64 r)
    | none => do pure (.float .f64 (← choose (.nanBits .f64 4602678819172646912 4602678819172646912)))) := rfl
  rw [e, h]
  rfl
theorem sqrt_any (w : World) : Calls Try.prog 80 #[.float .f64 4602678819172646912] w fun e w' => e = .returned (.float .f64 half) ∧ w = w' := by
  have h := sqrt_call
  go_enter Try.func80, Try.ntmps80
  go_wp2
  go_ret
  exact ⟨rfl, rfl⟩
end Go.Proofs.Ytaingnnflldlhaa.TurnW
