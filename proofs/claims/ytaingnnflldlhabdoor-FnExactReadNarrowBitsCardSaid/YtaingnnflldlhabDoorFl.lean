/- Plain facts on words of floating-point formats: when a word is a NaN, how it stands to itself and to zero, what the sign's turn does. No program in sight, no condition. -/
import Derived.Laws.FloatArith
import Derived.Laws.BitsAllLaws
namespace Go.Proofs.YtaingnnflldlhabDoor.Fl
open Ieee

/-- The sign bit, the lower bits, and whether the word is a NaN. -/
def sgn (k : FloatKind) (b : Nat) : Bool := b / k.format.signWeight % 2 == 1
def rung (k : FloatKind) (b : Nat) : Nat := b % k.format.signWeight
def nan (k : FloatKind) (b : Nat) : Bool := decide (k.format.infRung < rung k b)

theorem binade_pos (f : Format) : 0 < f.binade := Nat.two_pow_pos _

theorem isNaN_read (k : FloatKind) (b : Nat) : (k.format.read b).isNaN = nan k b := by
  have h1 : k.format.binade ≤ k.format.infRung := by cases k <;> decide
  unfold Format.read nan rung
  dsimp only
  split
  · rename_i h; simp [Datum.isNaN]; omega
  · split
    · rename_i h; simp [Datum.isNaN]; omega
    · split
      · rename_i h; simp [Datum.isNaN]; omega
      · simp [Datum.isNaN]; omega

theorem order_self (k : FloatKind) (b : Nat) : k.format.order b b = if nan k b then none else some .eq := by
  rw [← isNaN_read]
  unfold Format.order Datum.order
  cases k.format.read b with
  | nan s t => rfl
  | infinity s => simp [Datum.isNaN]
  | number s m i => simp [Datum.isNaN]

theorem self_neq (k : FloatKind) (b : Nat) : (k.format.order b b != some .eq) = nan k b := by
  rw [order_self]; cases nan k b <;> rfl

theorem compare_neg {x : Int} (h : x < 0) : compare x 0 = .lt := by simp [compare, compareOfLessAndEq, h]
theorem compare_pos {x : Int} (h : 0 < x) : compare x 0 = .gt := by
  have h1 : ¬ x < 0 := by omega
  have h2 : x ≠ 0 := by omega
  simp [compare, compareOfLessAndEq, h1, h2]

theorem signed_zero (n : Nat) : signed false 0 n = 0 := by simp [signed]

theorem signed_pos {m : Nat} (h : 0 < m) (n : Nat) : 0 < signed false m n := by
  have h1 : 0 < m <<< n := by rw [Nat.shiftLeft_eq]; exact Nat.mul_pos h (Nat.two_pow_pos _)
  simp only [signed, Bool.false_eq_true, if_false]; omega
theorem signed_neg {m : Nat} (h : 0 < m) (n : Nat) : signed true m n < 0 := by
  have h1 : 0 < m <<< n := by rw [Nat.shiftLeft_eq]; exact Nat.mul_pos h (Nat.two_pow_pos _)
  simp only [signed, if_true]; omega

theorem read_zero (k : FloatKind) : k.format.read 0 = .number false 0 k.format.leastPlace := by cases k <;> decide

theorem order_zero (k : FloatKind) (b : Nat) :
    k.format.order b 0 = if nan k b then none else if rung k b = 0 then some .eq else if sgn k b then some .lt else some .gt := by
  have h1 : k.format.binade ≤ k.format.infRung := by cases k <;> decide
  have h2 := binade_pos k.format
  have hr : Datum.order (k.format.read b) (.number false 0 k.format.leastPlace) = _ := rfl
  unfold Format.order
  rw [read_zero]
  clear hr
  unfold Format.read nan rung sgn
  dsimp only
  generalize hs : (b / k.format.signWeight % 2 == 1) = s
  generalize hm : b % k.format.signWeight = r
  by_cases c1 : r < k.format.binade
  · rw [if_pos c1]
    have c2 : ¬ k.format.infRung < r := by omega
    simp only [Datum.order, c2, decide_false, Bool.false_eq_true, if_false]
    by_cases c3 : r = 0
    · subst c3; cases s <;> simp [signed]
    · rw [if_neg c3, signed_zero]
      cases s
      · rw [compare_pos (signed_pos (by omega) _)]; rfl
      · rw [compare_neg (signed_neg (by omega) _)]; rfl
  · rw [if_neg c1]
    have c3 : ¬ r = 0 := by omega
    by_cases c2 : r < k.format.infRung
    · rw [if_pos c2]
      have c4 : ¬ k.format.infRung < r := by omega
      simp only [Datum.order, c4, decide_false, Bool.false_eq_true, if_false, c3]
      rw [signed_zero]
      cases s
      · rw [compare_pos (signed_pos (by omega) _)]; rfl
      · rw [compare_neg (signed_neg (by omega) _)]; rfl
    · rw [if_neg c2]
      by_cases c4 : r = k.format.infRung
      · rw [if_pos c4]
        have c5 : ¬ k.format.infRung < r := by omega
        simp only [Datum.order, c5, decide_false, Bool.false_eq_true, if_false, c3]
        cases s <;> rfl
      · rw [if_neg c4]
        have c5 : k.format.infRung < r := by omega
        simp [Datum.order, c5]

theorem lt_zero (k : FloatKind) (b : Nat) (h : nan k b = false) : (k.format.order b 0 == some .lt) = (sgn k b && decide (rung k b ≠ 0)) := by
  rw [order_zero, h]
  by_cases h0 : rung k b = 0 <;> cases hs : sgn k b <;> simp [h0]

theorem eq_zero (k : FloatKind) (b : Nat) (h : nan k b = false) : (k.format.order b 0 == some .eq) = decide (rung k b = 0) := by
  rw [order_zero, h]
  by_cases h0 : rung k b = 0 <;> cases hs : sgn k b <;> simp [h0]

theorem gt_zero (k : FloatKind) (b : Nat) (h : nan k b = false) : (k.format.order b 0 == some .gt) = (!sgn k b && decide (rung k b ≠ 0)) := by
  rw [order_zero, h]
  by_cases h0 : rung k b = 0 <;> cases hs : sgn k b <;> simp [h0]

/-- The signs' weight as a number. -/
theorem weight32 : FloatKind.f32.format.signWeight = 2147483648 := by decide
theorem weight64 : FloatKind.f64.format.signWeight = 9223372036854775808 := by decide

theorem xor_top (b w : Nat) (hb : b < 2 ^ (w + 1)) : b ^^^ 2 ^ w = if b / 2 ^ w % 2 = 1 then b % 2 ^ w else 2 ^ w + b % 2 ^ w := by
  have hd : b / 2 ^ w < 2 := by rw [Nat.div_lt_iff_lt_mul (Nat.two_pow_pos _)]; rw [Nat.pow_succ] at hb; omega
  have hs := Nat.div_add_mod b (2 ^ w)
  have hm := Nat.mod_lt b (Nat.two_pow_pos w)
  apply Nat.eq_of_testBit_eq
  intro i
  rw [Nat.testBit_xor, Nat.testBit_two_pow]
  by_cases hi : i < w
  · have e1 : (decide (w = i)) = false := by simp; omega
    rw [e1, Bool.xor_false]
    split
    · rw [Nat.testBit_mod_two_pow]; simp [hi]
    · rw [Nat.testBit_two_pow_add_gt hi, Nat.testBit_mod_two_pow]; simp [hi]
  · by_cases hiw : i = w
    · subst hiw
      have e : b.testBit i = decide (b / 2 ^ i % 2 = 1) := Nat.testBit_eq_decide_div_mod_eq
      split
      · rename_i h; rw [e, Nat.testBit_mod_two_pow]; simp [h]
      · rename_i h; rw [e, Nat.testBit_two_pow_add_eq, Nat.testBit_mod_two_pow]; simp [h]
    · have h2 : 2 ^ (w + 1) ≤ 2 ^ i := Nat.pow_le_pow_right (by omega) (by omega)
      have e1 : (decide (w = i)) = false := by simp; omega
      rw [e1, Bool.xor_false, Nat.testBit_lt_two_pow (by omega)]
      have h3 : 2 ^ (w + 1) = 2 ^ w + 2 ^ w := by rw [Nat.pow_succ]; omega
      split
      · rw [Nat.testBit_lt_two_pow (by omega)]
      · rw [Nat.testBit_lt_two_pow (by omega)]

theorem neg_bits (k : FloatKind) (b : Nat) (hb : b < 2 ^ k.format.width) : Op.negFloat k b = if sgn k b then rung k b else k.format.signWeight + rung k b := by
  have e : k.format.width = (k.format.exponentBits + k.format.fractionBits) + 1 := by unfold Format.width; omega
  unfold Op.negFloat
  rw [xor_top b _ (by rw [← e]; exact hb)]
  unfold sgn rung Format.signWeight
  by_cases h : b / 2 ^ (k.format.exponentBits + k.format.fractionBits) % 2 = 1
  · simp [h]
  · simp [h]

theorem rung_lt32 (b : Nat) : rung .f32 b < 2147483648 := by unfold rung; rw [weight32]; omega
theorem rung_lt64 (b : Nat) : rung .f64 b < 9223372036854775808 := by unfold rung; rw [weight64]; omega

theorem bits_of32 (b : Nat) (hb : b < 4294967296) : b = if sgn .f32 b then 2147483648 + rung .f32 b else rung .f32 b := by
  unfold sgn rung; rw [weight32]
  by_cases h : b / 2147483648 % 2 = 1
  · simp [h]; omega
  · simp [h]; omega
theorem bits_of64 (b : Nat) (hb : b < 18446744073709551616) : b = if sgn .f64 b then 9223372036854775808 + rung .f64 b else rung .f64 b := by
  unfold sgn rung; rw [weight64]
  by_cases h : b / 9223372036854775808 % 2 = 1
  · simp [h]; omega
  · simp [h]; omega

theorem andNot32 (b : Nat) (hb : b < 4294967296) : bits .andNot .u32 (b : Int) 2147483648 = (rung .f32 b : Int) := by
  rw [u32_andNot _ _ (by omega) (by omega) (by omega) (by omega)]
  unfold rung; rw [weight32]
  have := Nat.and_two_pow_sub_one_eq_mod b 31
  simp only [Int.toNat_natCast]
  exact congrArg Int.ofNat this
theorem andNot64 (b : Nat) (hb : b < 18446744073709551616) : bits .andNot .u64 (b : Int) 9223372036854775808 = (rung .f64 b : Int) := by
  rw [u64_andNot _ _ (by omega) (by omega) (by omega) (by omega)]
  unfold rung; rw [weight64]
  have := Nat.and_two_pow_sub_one_eq_mod b 63
  simp only [Int.toNat_natCast]
  exact congrArg Int.ofNat this

theorem wf32 {b : Nat} (h : (Lit.float .f32 b).wf = true) : b < 4294967296 := by simpa [Lit.wf] using h
theorem wf64 {b : Nat} (h : (Lit.float .f64 b).wf = true) : b < 18446744073709551616 := by simpa [Lit.wf] using h

end Go.Proofs.YtaingnnflldlhabDoor.Fl
