/- The law's own test sameFloat answers true at two equal words that are no NaN, and at two NaNs. No condition besides. -/
import Derived.Test.YtaingnnflldlhabDoorOrd
import Derived.Test.YtaingnnflldlhabDoorChecked
import Derived.WalkKit
import Derived.WalkLawsBesides
import Derived.Outline
import Derived.Lib.Hide
namespace Go.Proofs.YtaingnnflldlhabDoor.Same
open Go.RowKit Fl

theorem quo_zero (b : Nat) (h : rung .f64 b = 0) : ∃ r, floatBits .quo .f64 4607182418800017408 b = some r := by
  obtain ⟨m, d, e, v, _, _⟩ := read_number .f64 b (by rw [h]; decide)
  rw [h, vmag_zero] at v
  have hm : m = 0 := by
    rcases Nat.mul_eq_zero.1 v with h | h
    · exact h
    · have := Nat.two_pow_pos d; omega
  subst hm
  have e1 : FloatKind.f64.format.read 4607182418800017408 = .number false 4503599627370496 (-52) := by decide +kernel
  unfold floatBits Ieee.Format.div
  rw [e, e1]
  simp [Ieee.Datum.quotient]

theorem same_nan (a b : Nat) (ha : nan .f64 a = true) (hb : nan .f64 b = true) (w : World) : Calls Tryd.prog 11 #[.float .f64 a, .float .f64 b] w fun e w' => e = .returned (.bool true) ∧ w = w' := by
  have na := self_neq .f64 a
  have nb := self_neq .f64 b
  rw [ha] at na; rw [hb] at nb
  clear ha hb
  go_enter Tryd.func11, Tryd.ntmps11
  go_wp2
  go_ret
  exact ⟨rfl, rfl⟩

theorem same_eq (a : Nat) (ha : nan .f64 a = false) (w : World) : Calls Tryd.prog 11 #[.float .f64 a, .float .f64 a] w fun e w' => e = .returned (.bool true) ∧ w = w' := by
  have na := self_neq .f64 a
  have ez := eq_zero .f64 a ha
  have es : (FloatKind.f64.format.order a a == some .eq) = true := by rw [order_self, ha]; rfl
  rw [ha] at na
  by_cases h : rung .f64 a = 0
  · obtain ⟨r, hr⟩ := quo_zero a h
    have hq := fun w => run_float_arith (P := Tryd.prog) w .quo 37 .f64 _ _ r hr
    rw [h] at ez
    have ez' : (FloatKind.f64.format.order a 0 == some .eq) = true := ez
    clear ez es ha h hr
    go_enter Tryd.func11, Tryd.ntmps11
    go_wp2
    go_ret
    exact ⟨rfl, rfl⟩
  · have ez' : (FloatKind.f64.format.order a 0 == some .eq) = false := by rw [ez]; simp [h]
    clear ez ha h
    go_enter Tryd.func11, Tryd.ntmps11
    go_wp2
    go_ret
    exact ⟨rfl, rfl⟩

end Go.Proofs.YtaingnnflldlhabDoor.Same
