/- The walks for NextUp: the reference's next greater number, and math.Nextafter towards plus infinity, are the same word, or both are NaNs. No condition. -/
import Derived.Test.YtaingnnflldlhaaSame
namespace Go.Proofs.Ytaingnnflldlhaa.Next
open Go.RowKit Fl

def inf64 : Int := 9218868437227405312

theorem plc_inf : plc .f64 9218868437227405312 = 9218868437227405312 := by decide +kernel
theorem plc_max : plc .f64 9218868437227405311 = 9218868437227405311 := by decide +kernel
theorem plc_zero : plc .f64 0 = 0 := by decide +kernel
theorem nan_inf : nan .f64 9218868437227405312 = false := by decide +kernel
theorem nan_max : nan .f64 9218868437227405311 = false := by decide +kernel
theorem nan_zero : nan .f64 0 = false := by decide +kernel
theorem infRung64 : FloatKind.f64.format.infRung = 9218868437227405312 := by decide +kernel

theorem plc_le (a : Nat) (h : nan .f64 a = false) : -9218868437227405312 ≤ plc .f64 a ∧ plc .f64 a ≤ 9218868437227405312 := by
  have : rung .f64 a ≤ 9218868437227405312 := by rw [← infRung64]; simpa [nan] using h
  unfold plc; split <;> omega

theorem cmp_gt (x y : Int) : ((some (compare x y)) == some Ordering.gt) = decide (y < x) := by
  rcases Int.lt_trichotomy x y with h | h | h
  · rw [compare_lt h]; simp; omega
  · rw [compare_same h]; simp; omega
  · rw [compare_gt h]; simp; omega
theorem cmp_lt (x y : Int) : ((some (compare x y)) == some Ordering.lt) = decide (x < y) := by
  rcases Int.lt_trichotomy x y with h | h | h
  · rw [compare_lt h]; simp; omega
  · rw [compare_same h]; simp; omega
  · rw [compare_gt h]; simp; omega
theorem cmp_eq (x y : Int) : ((some (compare x y)) == some Ordering.eq) = decide (x = y) := by
  rcases Int.lt_trichotomy x y with h | h | h
  · rw [compare_lt h]; simp; omega
  · rw [compare_same h]; simp; omega
  · rw [compare_gt h]; simp; omega

/-- The next word. -/
def up (a : Nat) : Nat := if plc .f64 a = inf64 then a else if plc .f64 a = 0 then 1 else if 0 < plc .f64 a then a + 1 else a - 1

theorem gt_max (a : Nat) (h : nan .f64 a = false) : (FloatKind.f64.format.order a 9218868437227405311 == some .gt) = decide (plc .f64 a = inf64) := by
  have := plc_le a h
  rw [order_plc _ _ _ h nan_max, cmp_gt, plc_max]
  unfold inf64
  rw [decide_eq_decide]; omega
theorem eq0 (a : Nat) (h : nan .f64 a = false) : (FloatKind.f64.format.order a 0 == some .eq) = decide (plc .f64 a = 0) := by
  rw [order_plc _ _ _ h nan_zero, cmp_eq, plc_zero]
theorem gt0 (a : Nat) (h : nan .f64 a = false) : (FloatKind.f64.format.order a 0 == some .gt) = decide (0 < plc .f64 a) := by
  rw [order_plc _ _ _ h nan_zero, cmp_gt, plc_zero]
theorem eq_inf (a : Nat) (h : nan .f64 a = false) : (FloatKind.f64.format.order a 9218868437227405312 == some .eq) = decide (plc .f64 a = inf64) := by
  rw [order_plc _ _ _ h nan_inf, cmp_eq, plc_inf]; rfl
theorem inf_gt (a : Nat) (h : nan .f64 a = false) : (FloatKind.f64.format.order 9218868437227405312 a == some .gt) = decide (plc .f64 a < inf64) := by
  rw [order_plc _ _ _ nan_inf h, cmp_gt, plc_inf]; rfl

theorem spec_nan (a : Nat) (h : nan .f64 a = true) (w : World) : Calls Try.prog 30 #[.float .f64 a] w fun e w' => e = .returned (.float .f64 a) ∧ w = w' := by
  have na := self_neq .f64 a
  rw [h] at na
  clear h
  go_enter Try.func30, Try.ntmps30
  go_wp2
  go_ret
  exact ⟨rfl, rfl⟩

set_option maxHeartbeats 1000000 in
theorem spec_num (a : Nat) (ha : a < 18446744073709551616) (h : nan .f64 a = false) (w : World) : Calls Try.prog 30 #[.float .f64 a] w fun e w' => e = .returned (.float .f64 (up a)) ∧ w = w' := by
  have na := self_neq .f64 a
  rw [h] at na
  have g1 := gt_max a h
  have g2 := eq0 a h
  have g3 := gt0 a h
  have hp := plc_le a h
  have hb := bits_of64 a ha
  unfold up
  by_cases c1 : plc .f64 a = inf64
  · rw [if_pos c1]
    have g1' : (FloatKind.f64.format.order a 9218868437227405311 == some .gt) = true := by rw [g1]; simpa using c1
    clear g1 g2 g3 hp hb c1 h ha
    go_enter Try.func30, Try.ntmps30
    go_wp2
    go_ret
    exact ⟨rfl, rfl⟩
  · rw [if_neg c1]
    have g1' : (FloatKind.f64.format.order a 9218868437227405311 == some .gt) = false := by rw [g1]; simpa using c1
    by_cases c2 : plc .f64 a = 0
    · rw [if_pos c2]
      have g2' : (FloatKind.f64.format.order a 0 == some .eq) = true := by rw [g2]; simpa using c2
      clear g1 g2 g3 hp hb c1 c2 h ha
      go_enter Try.func30, Try.ntmps30
      go_wp2
      go_ret
      exact ⟨rfl, rfl⟩
    · rw [if_neg c2]
      have g2' : (FloatKind.f64.format.order a 0 == some .eq) = false := by rw [g2]; simpa using c2
      by_cases c3 : 0 < plc .f64 a
      · rw [if_pos c3]
        have g3' : (FloatKind.f64.format.order a 0 == some .gt) = true := by rw [g3]; simpa using c3
        have hlt : a ≤ 9218868437227405312 := by
          unfold plc at c3 hp
          cases hs : sgn .f64 a <;> rw [hs] at hb c3 hp <;> simp only [if_true, if_false, Bool.false_eq_true] at hb c3 hp <;> omega
        clear g1 g2 g3 hp hb c1 c2 c3 h ha
        go_enter Try.func30, Try.ntmps30
        go_wp2
        go_ret
        exact ⟨rfl, rfl⟩
      · rw [if_neg c3]
        have g3' : (FloatKind.f64.format.order a 0 == some .gt) = false := by rw [g3]; simpa using c3
        have hlt : 1 ≤ a := by
          rcases Nat.eq_zero_or_pos a with e | e
          · exact absurd (e ▸ plc_zero) c2
          · exact e
        clear g1 g2 g3 hp hb c1 c2 c3 h
        go_enter Try.func30, Try.ntmps30
        go_wp2
        go_ret
        exact ⟨rfl, rfl⟩

theorem inf_any (w : World) : Calls Try.prog 70 #[.int .i64 1] w fun e w' => e = .returned (.float .f64 9218868437227405312) ∧ w = w' := by
  go_enter Try.func70, Try.ntmps70
  go_wp2
  go_ret
  exact ⟨rfl, rfl⟩
theorem nan_any (w : World) : Calls Try.prog 87 #[] w fun e w' => e = .returned (.float .f64 9221120237041090561) ∧ w = w' := by
  go_enter Try.func87, Try.ntmps87
  go_wp2
  go_ret
  exact ⟨rfl, rfl⟩
theorem copysign_one (b : Nat) (hb : b ≤ 9223372036854775807) (w : World) : Calls Try.prog 88 #[.float .f64 1, .float .f64 b] w fun e w' => e = .returned (.float .f64 1) ∧ w = w' := by
  have h1 : bits .andNot .u64 1 9223372036854775808 = 1 := by decide +kernel
  have h2 : bits .and .u64 (b : Int) 9223372036854775808 = 0 := by
    rw [u64_and _ _ (by omega) (by omega) (by omega) (by omega)]
    have := nat_bit 63 b
    simp only [Int.toNat_natCast]
    have e : b &&& 9223372036854775808 = 0 := by
      rw [show (9223372036854775808 : Nat) = 2 ^ 63 by decide, this, Nat.div_eq_of_lt (by omega)]
    exact congrArg Int.ofNat e
  have h3 : bits .or .u64 1 0 = 1 := by decide +kernel
  go_enter Try.func88, Try.ntmps88
  go_wp2
  go_ret
  exact ⟨rfl, rfl⟩

theorem after_nan (a : Nat) (h : nan .f64 a = true) (w : World) : Calls Try.prog 69 #[.float .f64 a, .float .f64 9218868437227405312] w fun e w' => e = .returned (.float .f64 9221120237041090561) ∧ w = w' := by
  have na := self_neq .f64 a
  rw [h] at na
  clear h
  go_enter Try.func69, Try.ntmps69
  go_wp2_with (first | (go_at_call 87; refine (nan_any _).mono ?_; rintro e w' ⟨rfl, rfl⟩) | go_in)
  go_ret
  exact ⟨rfl, rfl⟩

set_option maxHeartbeats 1000000 in
theorem after_num (a : Nat) (ha : a < 18446744073709551616) (h : nan .f64 a = false) (w : World) : Calls Try.prog 69 #[.float .f64 a, .float .f64 9218868437227405312] w fun e w' => e = .returned (.float .f64 (up a)) ∧ w = w' := by
  have na := self_neq .f64 a
  rw [h] at na
  have ni : (FloatKind.f64.format.order 9218868437227405312 9218868437227405312 != some .eq) = false := by rw [self_neq]; exact nan_inf
  have g1 := eq_inf a h
  have g2 := eq0 a h
  have g3 := gt0 a h
  have g4 := inf_gt a h
  have hp := plc_le a h
  have hb := bits_of64 a ha
  unfold up
  by_cases c1 : plc .f64 a = inf64
  · rw [if_pos c1]
    have g1' : (FloatKind.f64.format.order a 9218868437227405312 == some .eq) = true := by rw [g1]; simpa using c1
    clear g1 g2 g3 g4 hp hb c1 h ha
    go_enter Try.func69, Try.ntmps69
    go_wp2
    go_ret
    exact ⟨rfl, rfl⟩
  · rw [if_neg c1]
    have g1' : (FloatKind.f64.format.order a 9218868437227405312 == some .eq) = false := by rw [g1]; simpa using c1
    have g4' : (FloatKind.f64.format.order 9218868437227405312 a == some .gt) = true := by
      rw [g4]
      have : plc .f64 a < inf64 := by unfold inf64 at *; omega
      simpa using this
    by_cases c2 : plc .f64 a = 0
    · rw [if_pos c2]
      have g2' : (FloatKind.f64.format.order a 0 == some .eq) = true := by rw [g2]; simpa using c2
      clear g1 g2 g3 g4 g4' hp hb c1 c2 h ha
      go_enter Try.func69, Try.ntmps69
      go_wp2_with (first | (go_at_call 88; refine (copysign_one 9218868437227405312 (by omega) _).mono ?_; rintro e w' ⟨rfl, rfl⟩) | go_in)
      go_ret
      exact ⟨rfl, rfl⟩
    · rw [if_neg c2]
      have g2' : (FloatKind.f64.format.order a 0 == some .eq) = false := by rw [g2]; simpa using c2
      by_cases c3 : 0 < plc .f64 a
      · rw [if_pos c3]
        have g3' : (FloatKind.f64.format.order a 0 == some .gt) = true := by rw [g3]; simpa using c3
        have hlt : a ≤ 9218868437227405312 := by
          unfold plc at c3 hp
          cases hs : sgn .f64 a <;> rw [hs] at hb c3 hp <;> simp only [if_true, if_false, Bool.false_eq_true] at hb c3 hp <;> omega
        clear g1 g2 g3 g4 hp hb c1 c2 c3 h ha
        go_enter Try.func69, Try.ntmps69
        go_wp2
        go_ret
        exact ⟨rfl, rfl⟩
      · rw [if_neg c3]
        have g3' : (FloatKind.f64.format.order a 0 == some .gt) = false := by rw [g3]; simpa using c3
        have hlt : 1 ≤ a := by
          rcases Nat.eq_zero_or_pos a with e | e
          · exact absurd (e ▸ plc_zero) c2
          · exact e
        clear g1 g2 g3 g4 hp hb c1 c2 c3 h
        go_enter Try.func69, Try.ntmps69
        go_wp2
        go_ret
        exact ⟨rfl, rfl⟩

theorem impl_nan (a : Nat) (h : nan .f64 a = true) (w : World) : Calls Try.prog 31 #[.float .f64 a] w fun e w' => e = .returned (.float .f64 9221120237041090561) ∧ w = w' := by
  have H := Lib.hid (after_nan a h)
  clear h
  go_enter Try.func31, Try.ntmps31
  go_wp2_with (first | (go_at_call 70; refine (inf_any _).mono ?_; rintro e w' ⟨rfl, rfl⟩) | (go_at_call 69; refine (H.out _).mono ?_; rintro e w' ⟨rfl, rfl⟩))
  go_ret
  exact ⟨rfl, rfl⟩
theorem impl_num (a : Nat) (ha : a < 18446744073709551616) (h : nan .f64 a = false) (w : World) : Calls Try.prog 31 #[.float .f64 a] w fun e w' => e = .returned (.float .f64 (up a)) ∧ w = w' := by
  have H := Lib.hid (after_num a ha h)
  clear h
  go_enter Try.func31, Try.ntmps31
  go_wp2_with (first | (go_at_call 70; refine (inf_any _).mono ?_; rintro e w' ⟨rfl, rfl⟩) | (go_at_call 69; refine (H.out _).mono ?_; rintro e w' ⟨rfl, rfl⟩))
  go_ret
  exact ⟨rfl, rfl⟩

/-- The next word is no NaN. -/
theorem up_num (a : Nat) (ha : a < 18446744073709551616) (h : nan .f64 a = false) : nan .f64 (up a) = false := by
  have hp := plc_le a h
  have hb := bits_of64 a ha
  unfold up
  by_cases c1 : plc .f64 a = inf64
  · rw [if_pos c1]; exact h
  · rw [if_neg c1]
    by_cases c2 : plc .f64 a = 0
    · rw [if_pos c2]; decide +kernel
    · rw [if_neg c2]
      have hr : nan .f64 a = decide (9218868437227405312 < rung .f64 a) := by unfold nan; rw [infRung64]
      rw [hr] at h
      have h' : rung .f64 a ≤ 9218868437227405312 := by simpa using h
      unfold plc at *
      unfold nan
      rw [infRung64]
      unfold inf64 at c1
      cases hs : sgn .f64 a <;> rw [hs] at hb c1 c2 <;> simp only [if_true, if_false, Bool.false_eq_true] at hb c1 c2 ⊢
      · rw [if_pos (by omega)]
        have e : rung .f64 (a + 1) = rung .f64 a + 1 := by unfold rung at *; rw [weight64] at *; omega
        rw [e]; simp; omega
      · rw [if_neg (by omega)]
        have e : rung .f64 (a - 1) = rung .f64 a - 1 := by unfold rung at *; rw [weight64] at *; omega
        rw [e]; simp; omega

theorem law (a : Nat) (ha : a < 18446744073709551616) (w : World) : Calls Try.prog 7 #[.float .f64 a] w fun e w' => e = .returned (.bool true) ∧ Below w.heap.size w w' := by
  cases h : nan .f64 a with
  | true =>
    have H1 := Lib.hid (spec_nan a h)
    have H2 := Lib.hid (impl_nan a h)
    have H3 := Lib.hid (Same.same_nan 9221120237041090561 a (by decide +kernel) h)
    clear h ha
    go_enter Try.func7, Try.ntmps7
    go_wp2_with (first | (go_at_call 30; refine (H1.out _).mono ?_; rintro e w' ⟨rfl, rfl⟩) | (go_at_call 31; refine (H2.out _).mono ?_; rintro e w' ⟨rfl, rfl⟩) | (go_at_call 32; refine (H3.out _).mono ?_; rintro e w' ⟨rfl, rfl⟩))
    go_ret
    exact ⟨rfl, Below.refl _ _⟩
  | false =>
    have H1 := Lib.hid (spec_num a ha h)
    have H2 := Lib.hid (impl_num a ha h)
    have H3 := Lib.hid (Same.same_eq (up a) (up_num a ha h))
    clear h ha
    generalize up a = u at *
    go_enter Try.func7, Try.ntmps7
    go_wp2_with (first | (go_at_call 30; refine (H1.out _).mono ?_; rintro e w' ⟨rfl, rfl⟩) | (go_at_call 31; refine (H2.out _).mono ?_; rintro e w' ⟨rfl, rfl⟩) | (go_at_call 32; refine (H3.out _).mono ?_; rintro e w' ⟨rfl, rfl⟩))
    go_ret
    exact ⟨rfl, Below.refl _ _⟩

end Go.Proofs.Ytaingnnflldlhaa.Next
