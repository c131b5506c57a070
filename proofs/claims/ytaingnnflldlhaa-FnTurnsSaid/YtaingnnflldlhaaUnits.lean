/- The walks for UnitsApart and NarrowUnitsApart: contracts of the program's and the reference's functions on numbers that are not NaN. -/
import Derived.Test.YtaingnnflldlhaaFl
import Derived.Test.YtaingnnflldlhaaExt
import Derived.WalkKit
import Derived.WalkLawsBesides
import Derived.Outline
import Derived.Lib.Hide
namespace Go.Proofs.Ytaingnnflldlhaa.Units
open Go.RowKit Fl

/-- The place of a word in the order of numbers; how far two places are apart, at most 10^18. -/
def plc (k : FloatKind) (b : Nat) : Int := if sgn k b then -(rung k b : Int) else rung k b
def ua (p q : Int) : Int := if p < q then (if q - p < 1000000000000000000 then q - p else 1000000000000000000) else (if p - q < 1000000000000000000 then p - q else 1000000000000000000)

theorem ret_int {k : IntKind} {a b : Int} (h : a = b) : Ending.returned (.int k a) = .returned (.int k b) := by rw [h]

theorem min_any (a b : Int) (w : World) : Calls Try.prog 84 #[.int .i64 a, .int .i64 b] w fun e w' => e = .returned (.int .i64 (if a < b then a else b)) ∧ w = w' := by
  by_cases h : a < b
  · rw [if_pos h]
    go_enter Try.func84, Try.ntmps84
    go_wp2
    go_ret
    exact ⟨rfl, rfl⟩
  · rw [if_neg h]
    go_enter Try.func84, Try.ntmps84
    go_wp2
    go_ret
    exact ⟨rfl, rfl⟩

theorem place32_neg (b r : Nat) (hr : r < 2147483648) (h1 : (FloatKind.f32.format.order b 0 == some .lt) = true) (hn : Op.negFloat .f32 b = r) (w : World) :
    Calls Try.prog 59 #[.float .f32 b] w fun e w' => e = .returned (.int .i64 (-(r : Int))) ∧ w = w' := by
  go_enter Try.func59, Try.ntmps59
  go_wp2
  go_ret
  exact ⟨rfl, rfl⟩
theorem place32_zero (b : Nat) (h1 : (FloatKind.f32.format.order b 0 == some .lt) = false) (h2 : (FloatKind.f32.format.order b 0 == some .eq) = true) (w : World) :
    Calls Try.prog 59 #[.float .f32 b] w fun e w' => e = .returned (.int .i64 0) ∧ w = w' := by
  go_enter Try.func59, Try.ntmps59
  go_wp2
  go_ret
  exact ⟨rfl, rfl⟩
theorem place32_pos (b : Nat) (hr : b < 2147483648) (h1 : (FloatKind.f32.format.order b 0 == some .lt) = false) (h2 : (FloatKind.f32.format.order b 0 == some .eq) = false) (w : World) :
    Calls Try.prog 59 #[.float .f32 b] w fun e w' => e = .returned (.int .i64 (b : Int)) ∧ w = w' := by
  go_enter Try.func59, Try.ntmps59
  go_wp2
  go_ret
  exact ⟨rfl, rfl⟩

theorem place32 (b : Nat) (hb : b < 4294967296) (h : nan .f32 b = false) (w : World) :
    Calls Try.prog 59 #[.float .f32 b] w fun e w' => e = .returned (.int .i64 (plc .f32 b)) ∧ w = w' := by
  have hl := lt_zero .f32 b h
  have he := eq_zero .f32 b h
  have hn := neg_bits .f32 b hb
  have hbits := bits_of32 b hb
  have hr := rung_lt32 b
  unfold plc
  cases hs : sgn .f32 b with
  | true =>
    rw [hs] at hl hn hbits
    by_cases h0 : rung .f32 b = 0
    · simp only [h0] at hl he ⊢
      exact place32_zero b (by simpa using hl) (by simpa using he) w
    · exact place32_neg b (rung .f32 b) hr (by simpa [h0] using hl) (by simpa using hn) w
  | false =>
    rw [hs] at hl hbits
    by_cases h0 : rung .f32 b = 0
    · simp only [h0] at hl he ⊢
      exact place32_zero b (by simpa using hl) (by simpa using he) w
    · have e : b = rung .f32 b := by simpa using hbits
      have := place32_pos b (by omega) (by simpa using hl) (by simpa [h0] using he) w
      rw [if_neg (by simp), ← e]
      exact this

theorem place64_neg (b r : Nat) (hr : r ≤ 9223372036854775807) (h1 : (FloatKind.f64.format.order b 0 == some .lt) = true) (hn : Op.negFloat .f64 b = r) (w : World) :
    Calls Try.prog 64 #[.float .f64 b] w fun e w' => e = .returned (.int .i64 (-(r : Int))) ∧ w = w' := by
  go_enter Try.func64, Try.ntmps64
  go_wp2
  go_ret
  exact ⟨rfl, rfl⟩
theorem place64_zero (b : Nat) (h1 : (FloatKind.f64.format.order b 0 == some .lt) = false) (h2 : (FloatKind.f64.format.order b 0 == some .eq) = true) (w : World) :
    Calls Try.prog 64 #[.float .f64 b] w fun e w' => e = .returned (.int .i64 0) ∧ w = w' := by
  go_enter Try.func64, Try.ntmps64
  go_wp2
  go_ret
  exact ⟨rfl, rfl⟩
theorem place64_pos (b : Nat) (hr : b ≤ 9223372036854775807) (h1 : (FloatKind.f64.format.order b 0 == some .lt) = false) (h2 : (FloatKind.f64.format.order b 0 == some .eq) = false) (w : World) :
    Calls Try.prog 64 #[.float .f64 b] w fun e w' => e = .returned (.int .i64 (b : Int)) ∧ w = w' := by
  go_enter Try.func64, Try.ntmps64
  go_wp2
  go_ret
  exact ⟨rfl, rfl⟩

theorem place64 (b : Nat) (hb : b < 18446744073709551616) (h : nan .f64 b = false) (w : World) :
    Calls Try.prog 64 #[.float .f64 b] w fun e w' => e = .returned (.int .i64 (plc .f64 b)) ∧ w = w' := by
  have hl := lt_zero .f64 b h
  have he := eq_zero .f64 b h
  have hn := neg_bits .f64 b hb
  have hbits := bits_of64 b hb
  have hr := rung_lt64 b
  unfold plc
  cases hs : sgn .f64 b with
  | true =>
    rw [hs] at hl hn hbits
    by_cases h0 : rung .f64 b = 0
    · simp only [h0] at hl he ⊢
      exact place64_zero b (by simpa using hl) (by simpa using he) w
    · exact place64_neg b (rung .f64 b) (by omega) (by simpa [h0] using hl) (by simpa using hn) w
  | false =>
    rw [hs] at hl hbits
    by_cases h0 : rung .f64 b = 0
    · simp only [h0] at hl he ⊢
      exact place64_zero b (by simpa using hl) (by simpa using he) w
    · have e : b = rung .f64 b := by simpa using hbits
      have := place64_pos b (by omega) (by simpa using hl) (by simpa [h0] using he) w
      rw [if_neg (by simp), ← e]
      exact this

/-- l01Apart, the first not below the second. -/
theorem apart_ge (a b : Int) (h : b ≤ a) (ha : a ≤ 9223372036854775807) (hb : -9223372036854775807 ≤ b) (w : World) :
    Calls Try.prog 58 #[.int .i64 a, .int .i64 b] w fun e w' => e = .returned (.int .i64 (ua a b)) ∧ w = w' := by
  have hua : ua a b = if a - b < 1000000000000000000 then a - b else 1000000000000000000 := by unfold ua; rw [if_neg (by omega)]
  have HUA := Lib.hid hua
  clear hua
  have hnl : ¬ a < b := by omega
  by_cases h0 : 0 ≤ a
  · by_cases h1 : b < 0
    · by_cases h2 : 1000000000000000000 < a
      · go_enter Try.func58, Try.ntmps58
        go_wp2
        go_ret
        exact ⟨ret_int (by rw [HUA.out, if_neg (by omega)]), rfl⟩
      · by_cases h3 : b < -1000000000000000000
        · go_enter Try.func58, Try.ntmps58
          go_wp2
          go_ret
          exact ⟨ret_int (by rw [HUA.out, if_neg (by omega)]), rfl⟩
        · go_enter Try.func58, Try.ntmps58
          go_wp2_with (go_at_call 84; refine (min_any _ _ _).mono ?_; rintro e w' ⟨rfl, rfl⟩)
          all_goals
            go_ret
            exact ⟨ret_int (by rw [HUA.out]; first | rw [if_pos (by omega)] | rw [if_neg (by omega)]), rfl⟩
    · go_enter Try.func58, Try.ntmps58
      go_wp2_with (go_at_call 84; refine (min_any _ _ _).mono ?_; rintro e w' ⟨rfl, rfl⟩)
      all_goals
        go_ret
        exact ⟨ret_int (by rw [HUA.out]; first | rw [if_pos (by omega)] | rw [if_neg (by omega)]), rfl⟩
  · have h1 : b < 0 := by omega
    go_enter Try.func58, Try.ntmps58
    go_wp2_with (go_at_call 84; refine (min_any _ _ _).mono ?_; rintro e w' ⟨rfl, rfl⟩)
    all_goals
      go_ret
      exact ⟨ret_int (by rw [HUA.out]; first | rw [if_pos (by omega)] | rw [if_neg (by omega)]), rfl⟩

/-- l01Apart, whatever the order: one exchange of both. -/
theorem apart_any (a b : Int) (ha : -9223372036854775807 ≤ a) (ha' : a ≤ 9223372036854775807) (hb : -9223372036854775807 ≤ b) (hb' : b ≤ 9223372036854775807) (w : World) :
    Calls Try.prog 58 #[.int .i64 a, .int .i64 b] w fun e w' => e = .returned (.int .i64 (ua a b)) ∧ w = w' := by
  by_cases h : a < b
  · have e : ua b a = ua a b := by unfold ua; rw [if_neg (by omega), if_pos h]
    have H := apart_ge b a (by omega) hb' ha w
    rw [e] at H
    have HH := Lib.hid H
    clear H e
    go_enter Try.func58, Try.ntmps58
    go_wp2_with (go_at_call 58; refine (HH.out).mono ?_; rintro e w' ⟨rfl, rfl⟩)
    go_ret
    exact ⟨rfl, rfl⟩
  · exact apart_ge a b (by omega) ha' hb w

/-- The program's apart, told by sizes and sides. -/
theorem sides_same (ra rb : Int) (s : Bool) (ha0 : 0 ≤ ra) (hb0 : 0 ≤ rb) (ha : ra ≤ 9223372036854775807) (hb : rb ≤ 9223372036854775807) (w : World) :
    Calls Try.prog 62 #[.int .i64 ra, .int .i64 rb, .bool s, .bool s] w fun e w' => e = .returned (.int .i64 (ua ra rb)) ∧ w = w' := by
  have hua : ua ra rb = min (max (ra - rb) (rb - ra)) 1000000000000000000 := by
    unfold ua; split <;> split <;> omega
  have HUA := Lib.hid hua
  clear hua
  by_cases h : ra - rb < rb - ra
  · by_cases h2 : rb - ra ≤ 1000000000000000000
    all_goals
      go_enter Try.func62, Try.ntmps62
      go_wp2
      go_ret
      exact ⟨ret_int (by rw [HUA.out]; omega), rfl⟩
  · by_cases h2 : ra - rb ≤ 1000000000000000000
    all_goals
      go_enter Try.func62, Try.ntmps62
      go_wp2
      go_ret
      exact ⟨ret_int (by rw [HUA.out]; omega), rfl⟩

theorem sides_other (ra rb : Int) (s t : Bool) (hst : (s == t) = false) (ha0 : 0 ≤ ra) (hb0 : 0 ≤ rb) (ha : ra ≤ 9223372036854775807) (hb : rb ≤ 9223372036854775807) (w : World) :
    Calls Try.prog 62 #[.int .i64 ra, .int .i64 rb, .bool s, .bool t] w fun e w' => e = .returned (.int .i64 (ua (ra + rb) 0)) ∧ w = w' := by
  have hua : ua (ra + rb) 0 = min (ra + rb) 1000000000000000000 := by
    unfold ua; split <;> split <;> omega
  have HUA := Lib.hid hua
  clear hua
  by_cases h1 : rb ≤ 1000000000000000000
  · by_cases h2 : 1000000000000000000 - rb < ra
    · go_enter Try.func62, Try.ntmps62
      go_wp2
      go_ret
      exact ⟨ret_int (by rw [HUA.out]; omega), rfl⟩
    · have h3 : ra + rb ≤ 1000000000000000000 := by omega
      go_enter Try.func62, Try.ntmps62
      go_wp2
      go_ret
      exact ⟨ret_int (by rw [HUA.out]; omega), rfl⟩
  · by_cases h2 : 0 < ra
    · go_enter Try.func62, Try.ntmps62
      go_wp2
      go_ret
      exact ⟨ret_int (by rw [HUA.out]; omega), rfl⟩
    · have h3 : ¬ ra + rb ≤ 1000000000000000000 := by omega
      go_enter Try.func62, Try.ntmps62
      go_wp2
      go_ret
      exact ⟨ret_int (by rw [HUA.out]; omega), rfl⟩

theorem rank32 (b : Nat) (hb : b < 4294967296) (w : World) :
    Calls Try.prog 60 #[.float .f32 b] w fun e w' => e = .returned (.int .i64 (rung .f32 b)) ∧ w = w' := by
  have hn := andNot32 b hb
  have hr := rung_lt32 b
  go_enter Try.func60, Try.ntmps60
  go_wp2
  go_ret
  exact ⟨rfl, rfl⟩
theorem abs64 (b : Nat) (hb : b < 18446744073709551616) (w : World) :
    Calls Try.prog 67 #[.float .f64 b] w fun e w' => e = .returned (.float .f64 (rung .f64 b)) ∧ w = w' := by
  have hn := andNot64 b hb
  go_enter Try.func67, Try.ntmps67
  go_wp2
  go_ret
  exact ⟨rfl, rfl⟩
theorem rank64 (b : Nat) (hb : b < 18446744073709551616) (w : World) :
    Calls Try.prog 65 #[.float .f64 b] w fun e w' => e = .returned (.int .i64 (rung .f64 b)) ∧ w = w' := by
  have H := Lib.hid (abs64 b hb w)
  have hr : rung .f64 b ≤ 9223372036854775807 := by have := rung_lt64 b; omega
  clear hb
  go_enter Try.func65, Try.ntmps65
  go_wp2_with (go_at_call 67; refine (H.out).mono ?_; rintro e w' ⟨rfl, rfl⟩)
  go_ret
  exact ⟨rfl, rfl⟩
end Go.Proofs.Ytaingnnflldlhaa.Units
