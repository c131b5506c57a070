/- The walks for NextUpNarrow: the reference's next greater float32 and math.Nextafter32 towards plus infinity are the same word, or both are NaNs, whatever the tape answers. No condition. -/
import Derived.Test.YtaingnnflldlhaaNext
import Derived.Test.YtaingnnflldlhaaConv
namespace Go.Proofs.Ytaingnnflldlhaa.Next32
open Go.RowKit Fl
open Go.Proofs.Ytaingnnflldlhaa.Next (cmp_gt cmp_lt cmp_eq inf_any nan_any)

def inf32 : Int := 2139095040

theorem plc_inf : plc .f32 2139095040 = 2139095040 := by decide +kernel
theorem plc_max : plc .f32 2139095039 = 2139095039 := by decide +kernel
theorem plc_zero : plc .f32 0 = 0 := by decide +kernel
theorem nan_inf : nan .f32 2139095040 = false := by decide +kernel
theorem nan_max : nan .f32 2139095039 = false := by decide +kernel
theorem nan_zero : nan .f32 0 = false := by decide +kernel
theorem infRung32 : FloatKind.f32.format.infRung = 2139095040 := by decide +kernel

theorem plc_le (a : Nat) (h : nan .f32 a = false) : -2139095040 ≤ plc .f32 a ∧ plc .f32 a ≤ 2139095040 := by
  have : rung .f32 a ≤ 2139095040 := by rw [← infRung32]; simpa [nan] using h
  unfold plc; split <;> omega

/-- The next word. -/
def up (a : Nat) : Nat := if plc .f32 a = inf32 then a else if plc .f32 a = 0 then 1 else if 0 < plc .f32 a then a + 1 else a - 1

theorem gt_max (a : Nat) (h : nan .f32 a = false) : (FloatKind.f32.format.order a 2139095039 == some .gt) = decide (plc .f32 a = inf32) := by
  have := plc_le a h
  rw [order_plc _ _ _ h nan_max, cmp_gt, plc_max]
  unfold inf32
  rw [decide_eq_decide]; omega
theorem eq0 (a : Nat) (h : nan .f32 a = false) : (FloatKind.f32.format.order a 0 == some .eq) = decide (plc .f32 a = 0) := by
  rw [order_plc _ _ _ h nan_zero, cmp_eq, plc_zero]
theorem gt0 (a : Nat) (h : nan .f32 a = false) : (FloatKind.f32.format.order a 0 == some .gt) = decide (0 < plc .f32 a) := by
  rw [order_plc _ _ _ h nan_zero, cmp_gt, plc_zero]
theorem eq_inf (a : Nat) (h : nan .f32 a = false) : (FloatKind.f32.format.order a 2139095040 == some .eq) = decide (plc .f32 a = inf32) := by
  rw [order_plc _ _ _ h nan_inf, cmp_eq, plc_inf]; rfl
theorem inf_gt (a : Nat) (h : nan .f32 a = false) : (FloatKind.f32.format.order 2139095040 a == some .gt) = decide (plc .f32 a < inf32) := by
  rw [order_plc _ _ _ nan_inf h, cmp_gt, plc_inf]; rfl

theorem spec_nan (a : Nat) (h : nan .f32 a = true) (w : World) : Calls Try.prog 33 #[.float .f32 a] w fun e w' => e = .returned (.float .f32 a) ∧ w = w' := by
  have na := self_neq .f32 a
  rw [h] at na
  clear h
  go_enter Try.func33, Try.ntmps33
  go_wp2
  go_ret
  exact ⟨rfl, rfl⟩

set_option maxHeartbeats 1000000 in
theorem spec_num (a : Nat) (ha : a < 4294967296) (h : nan .f32 a = false) (w : World) : Calls Try.prog 33 #[.float .f32 a] w fun e w' => e = .returned (.float .f32 (up a)) ∧ w = w' := by
  have na := self_neq .f32 a
  rw [h] at na
  have g1 := gt_max a h
  have g2 := eq0 a h
  have g3 := gt0 a h
  have hp := plc_le a h
  have hb := bits_of32 a ha
  unfold up
  by_cases c1 : plc .f32 a = inf32
  · rw [if_pos c1]
    have g1' : (FloatKind.f32.format.order a 2139095039 == some .gt) = true := by rw [g1]; simpa using c1
    clear g1 g2 g3 hp hb c1 h ha
    go_enter Try.func33, Try.ntmps33
    go_wp2
    go_ret
    exact ⟨rfl, rfl⟩
  · rw [if_neg c1]
    have g1' : (FloatKind.f32.format.order a 2139095039 == some .gt) = false := by rw [g1]; simpa using c1
    by_cases c2 : plc .f32 a = 0
    · rw [if_pos c2]
      have g2' : (FloatKind.f32.format.order a 0 == some .eq) = true := by rw [g2]; simpa using c2
      clear g1 g2 g3 hp hb c1 c2 h ha
      go_enter Try.func33, Try.ntmps33
      go_wp2
      go_ret
      exact ⟨rfl, rfl⟩
    · rw [if_neg c2]
      have g2' : (FloatKind.f32.format.order a 0 == some .eq) = false := by rw [g2]; simpa using c2
      by_cases c3 : 0 < plc .f32 a
      · rw [if_pos c3]
        have g3' : (FloatKind.f32.format.order a 0 == some .gt) = true := by rw [g3]; simpa using c3
        have hlt : a ≤ 2139095040 := by
          unfold plc at c3 hp
          cases hs : sgn .f32 a <;> rw [hs] at hb c3 hp <;> simp only [if_true, if_false, Bool.false_eq_true] at hb c3 hp <;> omega
        clear g1 g2 g3 hp hb c1 c2 c3 h ha
        go_enter Try.func33, Try.ntmps33
        go_wp2
        go_ret
        exact ⟨rfl, rfl⟩
      · rw [if_neg c3]
        have g3' : (FloatKind.f32.format.order a 0 == some .gt) = false := by rw [g3]; simpa using c3
        have hlt : 1 ≤ a := by
          rcases Nat.eq_zero_or_pos a with e | e
          · exact absurd (e ▸ plc_zero) c2
          · exact e
        clear g1 g2 g3 hp hb c1 c2 c3 h
        go_enter Try.func33, Try.ntmps33
        go_wp2
        go_ret
        exact ⟨rfl, rfl⟩


/-! Conversions of the constants. -/
theorem conv_inf (w : World) : (convert 37 45 (.float .f64 9218868437227405312)).run Try.prog w = .ok (.float .f32 2139095040) w := run_convert_float_float w 37 45 .f64 .f32 _ _ (by rw [Try.underlying37]; rfl) Try.underlying45 (by decide +kernel)
theorem conv_inf' (w : World) : (convert 45 37 (.float .f32 2139095040)).run Try.prog w = .ok (.float .f64 9218868437227405312) w := run_convert_float_float w 45 37 .f32 .f64 _ _ (by rw [Try.underlying45]; rfl) Try.underlying37 (by decide +kernel)
theorem conv_one (w : World) : (convert 45 37 (.float .f32 1)).run Try.prog w = .ok (.float .f64 3936146074321813504) w := run_convert_float_float w 45 37 .f32 .f64 _ _ (by rw [Try.underlying45]; rfl) Try.underlying37 (by decide +kernel)
theorem conv_one' (w : World) : (convert 37 45 (.float .f64 3936146074321813504)).run Try.prog w = .ok (.float .f32 1) w := run_convert_float_float w 37 45 .f64 .f32 _ _ (by rw [Try.underlying37]; rfl) Try.underlying45 (by decide +kernel)
theorem copysign_one (w : World) : Calls Try.prog 88 #[.float .f64 3936146074321813504, .float .f64 9218868437227405312] w fun e w' => e = .returned (.float .f64 3936146074321813504) ∧ w = w' := by
  have h1 : bits .andNot .u64 3936146074321813504 9223372036854775808 = 3936146074321813504 := by decide +kernel
  have h2 : bits .and .u64 9218868437227405312 9223372036854775808 = 0 := by decide +kernel
  have h3 : bits .or .u64 3936146074321813504 0 = 3936146074321813504 := by decide +kernel
  go_enter Try.func88, Try.ntmps88
  go_wp2
  go_ret
  exact ⟨rfl, rfl⟩

/-- A NaN came out, in a world that has only drawn. -/
def NanOut (w : World) (e : Ending) (w' : World) : Prop := ∃ r, nan .f32 r = true ∧ e = .returned (.float .f32 r) ∧ Below w.heap.size w w'

theorem isnan_of (b : Bool) (a : Nat) (h : (FloatKind.f64.format.order a a != some .eq) = b) (w : World) : Calls Try.prog 86 #[.float .f64 a] w fun e w' => e = .returned (.bool b) ∧ w = w' := by
  go_enter Try.func86, Try.ntmps86
  go_wp2
  go_ret
  exact ⟨rfl, rfl⟩

theorem after_nan (a : Nat) (h : nan .f32 a = true) (w : World) : Calls Try.prog 72 #[.float .f32 a, .float .f32 2139095040] w (NanOut w) := by
  have h1 := run_conv_nan (P := Try.prog) 45 37 .f32 .f64 a (by decide) (by rw [Try.underlying45]; rfl) Try.underlying37 h w
  have n1 : (FloatKind.f64.format.order (nanOf .f64 a w) (nanOf .f64 a w) != some .eq) = true := by rw [self_neq]; exact nan_nanOf ..
  have h2 := run_conv_nan (P := Try.prog) 37 45 .f64 .f32 9221120237041090561 (by decide) (by rw [Try.underlying37]; rfl) Try.underlying45 (by decide +kernel) w.drew
  have n2 := nan_nanOf .f32 9221120237041090561 w.drew
  generalize nanOf .f64 a w = r at *
  generalize nanOf .f32 9221120237041090561 w.drew = q at *
  have H1 := Lib.hid (isnan_of true r n1)
  have HN := Lib.hid n2
  clear h n1 n2
  go_enter Try.func72, Try.ntmps72
  go_wp2_with (first | (go_at_call 87; refine (nan_any _).mono ?_; rintro e w' ⟨rfl, rfl⟩) | (go_at_call 86; refine (H1.out _).mono ?_; rintro e w' ⟨rfl, rfl⟩))
  go_ret
  exact ⟨q, HN.out, rfl, (Below.refl _ _).drew.drew⟩

set_option maxHeartbeats 2000000 in
theorem after_num (a : Nat) (ha : a < 4294967296) (h : nan .f32 a = false) (w : World) : Calls Try.prog 72 #[.float .f32 a, .float .f32 2139095040] w fun e w' => e = .returned (.float .f32 (up a)) ∧ w = w' := by
  obtain ⟨r, hr, nr⟩ := widen_num a h
  have h1 := fun w => run_convert_float_float (P := Try.prog) w 45 37 .f32 .f64 a r (by rw [Try.underlying45]; rfl) Try.underlying37 hr
  have h2 := conv_inf'
  have H1 := Lib.hid (isnan_of false r (by rw [self_neq]; exact nr))
  have H2 := Lib.hid (isnan_of false 9218868437227405312 (by rw [self_neq]; decide +kernel))
  clear hr nr
  have g1 := eq_inf a h
  have g2 := eq0 a h
  have g3 := gt0 a h
  have g4 := inf_gt a h
  have hp := plc_le a h
  have hb := bits_of32 a ha
  unfold up
  by_cases c1 : plc .f32 a = inf32
  · rw [if_pos c1]
    have g1' : (FloatKind.f32.format.order a 2139095040 == some .eq) = true := by rw [g1]; simpa using c1
    clear g1 g2 g3 g4 hp hb c1 h ha
    go_enter Try.func72, Try.ntmps72
    go_wp2_with (go_at_call 86; (first | (with_reducible refine (H1.out _).mono ?_) | (with_reducible refine (H2.out _).mono ?_)); rintro e w' ⟨rfl, rfl⟩)
    go_ret
    exact ⟨rfl, rfl⟩
  · rw [if_neg c1]
    have g1' : (FloatKind.f32.format.order a 2139095040 == some .eq) = false := by rw [g1]; simpa using c1
    have g4' : (FloatKind.f32.format.order 2139095040 a == some .gt) = true := by
      rw [g4]
      have : plc .f32 a < inf32 := by unfold inf32 at *; omega
      simpa using this
    by_cases c2 : plc .f32 a = 0
    · rw [if_pos c2]
      have g2' : (FloatKind.f32.format.order a 0 == some .eq) = true := by rw [g2]; simpa using c2
      have h3 := conv_one
      have h4 := conv_one'
      clear g1 g2 g3 g4 g4' hp hb c1 c2 h ha
      go_enter Try.func72, Try.ntmps72
      go_wp2_with (first | (go_at_call 86; (first | (with_reducible refine (H1.out _).mono ?_) | (with_reducible refine (H2.out _).mono ?_)); rintro e w' ⟨rfl, rfl⟩) | (go_at_call 88; refine (copysign_one _).mono ?_; rintro e w' ⟨rfl, rfl⟩))
      go_ret
      exact ⟨rfl, rfl⟩
    · rw [if_neg c2]
      have g2' : (FloatKind.f32.format.order a 0 == some .eq) = false := by rw [g2]; simpa using c2
      by_cases c3 : 0 < plc .f32 a
      · rw [if_pos c3]
        have g3' : (FloatKind.f32.format.order a 0 == some .gt) = true := by rw [g3]; simpa using c3
        have hlt : a ≤ 2139095040 := by
          unfold plc at c3 hp
          cases hs : sgn .f32 a <;> rw [hs] at hb c3 hp <;> simp only [if_true, if_false, Bool.false_eq_true] at hb c3 hp <;> omega
        clear g1 g2 g3 g4 hp hb c1 c2 c3 h ha
        go_enter Try.func72, Try.ntmps72
        go_wp2_with (go_at_call 86; (first | (with_reducible refine (H1.out _).mono ?_) | (with_reducible refine (H2.out _).mono ?_)); rintro e w' ⟨rfl, rfl⟩)
        go_ret
        exact ⟨rfl, rfl⟩
      · rw [if_neg c3]
        have g3' : (FloatKind.f32.format.order a 0 == some .gt) = false := by rw [g3]; simpa using c3
        have hlt : 1 ≤ a := by
          rcases Nat.eq_zero_or_pos a with e | e
          · exact absurd (e ▸ plc_zero) c2
          · exact e
        clear g1 g2 g3 g4 hp hb c1 c2 c3 h
        go_enter Try.func72, Try.ntmps72
        go_wp2_with (go_at_call 86; (first | (with_reducible refine (H1.out _).mono ?_) | (with_reducible refine (H2.out _).mono ?_)); rintro e w' ⟨rfl, rfl⟩)
        go_ret
        exact ⟨rfl, rfl⟩

theorem impl_nan (a : Nat) (h : nan .f32 a = true) (w : World) : Calls Try.prog 34 #[.float .f32 a] w (NanOut w) := by
  have H := Lib.hid (after_nan a h)
  have h1 := conv_inf
  clear h
  go_enter Try.func34, Try.ntmps34
  go_wp2_with (first | (go_at_call 70; refine (inf_any _).mono ?_; rintro e w' ⟨rfl, rfl⟩) | (go_at_call 72; refine (H.out _).mono ?_; rintro e w' ⟨r, hr, rfl, hb⟩; have HR := Lib.hid hr; clear hr))
  go_ret
  exact ⟨_, HR.out, rfl, hb⟩
theorem impl_num (a : Nat) (ha : a < 4294967296) (h : nan .f32 a = false) (w : World) : Calls Try.prog 34 #[.float .f32 a] w fun e w' => e = .returned (.float .f32 (up a)) ∧ w = w' := by
  have H := Lib.hid (after_num a ha h)
  have h1 := conv_inf
  clear h
  go_enter Try.func34, Try.ntmps34
  go_wp2_with (first | (go_at_call 70; refine (inf_any _).mono ?_; rintro e w' ⟨rfl, rfl⟩) | (go_at_call 72; refine (H.out _).mono ?_; rintro e w' ⟨rfl, rfl⟩))
  go_ret
  exact ⟨rfl, rfl⟩

/-- The next word is no NaN. -/
theorem up_num (a : Nat) (ha : a < 4294967296) (h : nan .f32 a = false) : nan .f32 (up a) = false := by
  have hb := bits_of32 a ha
  unfold up
  by_cases c1 : plc .f32 a = inf32
  · rw [if_pos c1]; exact h
  · rw [if_neg c1]
    by_cases c2 : plc .f32 a = 0
    · rw [if_pos c2]; decide +kernel
    · rw [if_neg c2]
      have hr : nan .f32 a = decide (2139095040 < rung .f32 a) := by unfold nan; rw [infRung32]
      rw [hr] at h
      have h' : rung .f32 a ≤ 2139095040 := by simpa using h
      unfold plc at *
      unfold nan
      rw [infRung32]
      unfold inf32 at c1
      cases hs : sgn .f32 a <;> rw [hs] at hb c1 c2 <;> simp only [if_true, if_false, Bool.false_eq_true] at hb c1 c2 ⊢
      · rw [if_pos (by omega)]
        have e : rung .f32 (a + 1) = rung .f32 a + 1 := by unfold rung at *; rw [weight32] at *; omega
        rw [e]; simp; omega
      · rw [if_neg (by omega)]
        have e : rung .f32 (a - 1) = rung .f32 a - 1 := by unfold rung at *; rw [weight32] at *; omega
        rw [e]; simp; omega

set_option maxHeartbeats 1000000 in
theorem law_nan (a : Nat) (h : nan .f32 a = true) (w : World) : Calls Try.prog 8 #[.float .f32 a] w fun e w' => e = .returned (.bool true) ∧ Below w.heap.size w w' := by
  have H1 := Lib.hid (spec_nan a h)
  have H2 := Lib.hid (impl_nan a h)
  have HA := Lib.hid h
  clear h
  go_enter Try.func8, Try.ntmps8
  go_wp2_with fail
  refine (H1.out _).mono ?_; rintro e w' ⟨rfl, rfl⟩
  go_wp2_with fail
  refine (H2.out _).mono ?_; rintro e w1 ⟨r, hr, rfl, hb⟩
  have HR := Lib.hid hr
  have c1 := run_conv_nan (P := Try.prog) 45 37 .f32 .f64 r (by decide) (by rw [Try.underlying45]; rfl) Try.underlying37 hr w1
  have c2 := run_conv_nan (P := Try.prog) 45 37 .f32 .f64 a (by decide) (by rw [Try.underlying45]; rfl) Try.underlying37 HA.out w1.drew
  have H3 := Lib.hid (Same.same_nan _ _ (nan_nanOf .f64 r w1) (nan_nanOf .f64 a w1.drew))
  clear hr
  generalize nanOf .f64 r w1 = x at *
  generalize nanOf .f64 a w1.drew = y at *
  go_wp2_with fail
  refine (H3.out _).mono ?_; rintro e w' ⟨rfl, rfl⟩
  go_wp2
  go_ret
  exact ⟨rfl, hb.drew.drew⟩

theorem law_num (a : Nat) (ha : a < 4294967296) (h : nan .f32 a = false) (w : World) : Calls Try.prog 8 #[.float .f32 a] w fun e w' => e = .returned (.bool true) ∧ Below w.heap.size w w' := by
  have H1 := Lib.hid (spec_num a ha h)
  have H2 := Lib.hid (impl_num a ha h)
  obtain ⟨r, hr, nr⟩ := widen_num (up a) (up_num a ha h)
  have c1 := fun w => run_convert_float_float (P := Try.prog) w 45 37 .f32 .f64 (up a) r (by rw [Try.underlying45]; rfl) Try.underlying37 hr
  have H3 := Lib.hid (Same.same_eq r nr)
  clear h ha hr nr
  generalize up a = u at *
  go_enter Try.func8, Try.ntmps8
  go_wp2_with (first | (go_at_call 33; refine (H1.out _).mono ?_; rintro e w' ⟨rfl, rfl⟩) | (go_at_call 34; refine (H2.out _).mono ?_; rintro e w' ⟨rfl, rfl⟩) | (go_at_call 32; refine (H3.out _).mono ?_; rintro e w' ⟨rfl, rfl⟩))
  go_ret
  exact ⟨rfl, Below.refl _ _⟩

theorem law (a : Nat) (ha : a < 4294967296) (w : World) : Calls Try.prog 8 #[.float .f32 a] w fun e w' => e = .returned (.bool true) ∧ Below w.heap.size w w' := by
  cases h : nan .f32 a with
  | true => exact law_nan a h w
  | false => exact law_num a ha h w

end Go.Proofs.Ytaingnnflldlhaa.Next32
