/- Two words of one format that are no NaNs stand to each other as their places in the order of numbers do. No program in sight, no condition. -/
import Derived.Test.YtaingnnflldlhabDoorFl
namespace Go.Proofs.YtaingnnflldlhabDoor.Fl
open Ieee

/-- The magnitude of a rung below infinity, in units of the format's least number. -/
def vmag (f : Format) (r : Nat) : Nat := if r < f.binade then r else (f.binade + r % f.binade) * 2 ^ (r / f.binade - 1)

theorem vmag_succ (f : Format) (r : Nat) : vmag f r < vmag f (r + 1) := by
  have hb := binade_pos f
  unfold vmag
  by_cases h1 : r + 1 < f.binade
  · rw [if_pos (by omega), if_pos h1]; omega
  · rw [if_neg h1]
    by_cases h2 : r < f.binade
    · have e : r + 1 = f.binade := by omega
      rw [if_pos h2, e, Nat.mod_self, Nat.div_self hb]; simp; omega
    · rw [if_neg h2]
      have hd := Nat.div_add_mod r f.binade
      have hm := Nat.mod_lt r hb
      have hq : 1 ≤ r / f.binade := (Nat.le_div_iff_mul_le hb).2 (by omega)
      generalize r / f.binade = q at *
      generalize r % f.binade = t at *
      by_cases h3 : t + 1 < f.binade
      · have e1 : (r + 1) / f.binade = q := by
          rw [← hd, Nat.add_assoc, Nat.mul_add_div hb, Nat.div_eq_of_lt h3]; omega
        have e2 : (r + 1) % f.binade = t + 1 := by
          rw [← hd, Nat.add_assoc, Nat.mul_add_mod, Nat.mod_eq_of_lt h3]
        rw [e1, e2]
        exact Nat.mul_lt_mul_of_pos_right (by omega) (Nat.two_pow_pos _)
      · have e : r + 1 = f.binade * (q + 1) := by rw [Nat.mul_add]; omega
        rw [e, Nat.mul_mod_right, Nat.mul_div_cancel_left _ hb]
        have e2 : 2 ^ (q + 1 - 1) = 2 * 2 ^ (q - 1) := by
          rw [show q + 1 - 1 = (q - 1) + 1 by omega, Nat.pow_succ]; omega
        rw [e2, Nat.add_zero]
        have hp := Nat.two_pow_pos (q - 1)
        have : (f.binade + t) * 2 ^ (q - 1) < (f.binade + f.binade) * 2 ^ (q - 1) := Nat.mul_lt_mul_of_pos_right (by omega) hp
        calc (f.binade + t) * 2 ^ (q - 1) < (f.binade + f.binade) * 2 ^ (q - 1) := this
          _ = f.binade * (2 * 2 ^ (q - 1)) := by rw [← Nat.two_mul, Nat.mul_comm 2 f.binade, Nat.mul_assoc]

theorem vmag_lt (f : Format) {r s : Nat} (h : r < s) : vmag f r < vmag f s := by
  induction s with
  | zero => omega
  | succ s ih =>
    by_cases e : r = s
    · subst e; exact vmag_succ f r
    · exact Nat.lt_trans (ih (by omega)) (vmag_succ f s)

theorem vmag_le (f : Format) {r s : Nat} (h : r ≤ s) : vmag f r ≤ vmag f s := by
  rcases Nat.lt_or_eq_of_le h with h | h
  · exact Nat.le_of_lt (vmag_lt f h)
  · rw [h]; exact Nat.le_refl _

/-- How a word below infinity is read. -/
theorem read_number (k : FloatKind) (b : Nat) (h : rung k b < k.format.infRung) :
    ∃ m d, k.format.read b = .number (sgn k b) m (k.format.leastPlace + (d : Nat)) ∧ m * 2 ^ d = vmag k.format (rung k b) ∧
      (m < 2 * k.format.binade) ∧ (d = rung k b / k.format.binade - 1) := by
  have hb := binade_pos k.format
  unfold Format.read vmag
  unfold rung at *
  unfold sgn
  dsimp only
  generalize b % k.format.signWeight = r at *
  by_cases h1 : r < k.format.binade
  · rw [if_pos h1, if_pos h1]
    refine ⟨r, 0, by simp, by simp, by omega, ?_⟩
    rw [Nat.div_eq_of_lt h1]
  · rw [if_neg h1, if_pos h, if_neg h1]
    refine ⟨_, _, rfl, rfl, ?_, rfl⟩
    have := Nat.mod_lt r hb
    omega

theorem read_inf (k : FloatKind) (b : Nat) (h : rung k b = k.format.infRung) : k.format.read b = .infinity (sgn k b) := by
  have h1 : k.format.binade ≤ k.format.infRung := by cases k <;> decide
  unfold Format.read
  unfold rung at *
  unfold sgn
  dsimp only
  rw [if_neg (by omega), if_neg (by omega), if_pos h]

theorem compare_lt {a b : Int} (h : a < b) : compare a b = .lt := by simp [compare, compareOfLessAndEq, h]
theorem compare_gt {a b : Int} (h : b < a) : compare a b = .gt := by
  have h1 : ¬ a < b := by omega
  have h2 : a ≠ b := by omega
  simp [compare, compareOfLessAndEq, h1, h2]
theorem compare_same {a b : Int} (h : a = b) : compare a b = .eq := by subst h; simp [compare, compareOfLessAndEq]

/-- Comparing is kept by what keeps '<'. -/
theorem compare_map {a b c d : Int} (h1 : a < b → c < d) (h2 : a = b → c = d) (h3 : b < a → d < c) : compare c d = compare a b := by
  rcases Int.lt_trichotomy a b with h | h | h
  · rw [compare_lt h, compare_lt (h1 h)]
  · rw [compare_same h, compare_same (h2 h)]
  · rw [compare_gt h, compare_gt (h3 h)]

/-- The place of a word in the order of numbers. -/
def plc (k : FloatKind) (b : Nat) : Int := if sgn k b then -(rung k b : Int) else rung k b

/-- The value of a word below infinity, in units of the format's least number. -/
def ival (k : FloatKind) (b : Nat) : Int := if sgn k b then -(vmag k.format (rung k b) : Int) else vmag k.format (rung k b)

theorem vmag_zero (f : Format) : vmag f 0 = 0 := by
  have hb := binade_pos f
  unfold vmag; rw [if_pos hb]

theorem ival_lt (k : FloatKind) {a b : Nat} (h : plc k a < plc k b) : ival k a < ival k b := by
  have z := vmag_zero k.format
  unfold plc at h
  unfold ival
  revert h
  cases sgn k a <;> cases sgn k b <;> simp only [if_true, if_false, Bool.false_eq_true] <;> intro h
  · have := vmag_lt k.format (r := rung k a) (s := rung k b) (by omega); omega
  · omega
  · by_cases ha : rung k a = 0
    · have := vmag_lt k.format (r := 0) (s := rung k b) (by omega); rw [ha]; omega
    · have := vmag_lt k.format (r := 0) (s := rung k a) (by omega); omega
  · have := vmag_lt k.format (r := rung k b) (s := rung k a) (by omega); omega

theorem ival_eq (k : FloatKind) {a b : Nat} (h : plc k a = plc k b) : ival k a = ival k b := by
  have z := vmag_zero k.format
  unfold plc at h
  unfold ival
  revert h
  cases sgn k a <;> cases sgn k b <;> simp only [if_true, if_false, Bool.false_eq_true] <;> intro h
  · have e : rung k a = rung k b := by omega
    rw [e]
  · have e1 : rung k a = 0 := by omega
    have e2 : rung k b = 0 := by omega
    rw [e1, e2, z]; rfl
  · have e1 : rung k a = 0 := by omega
    have e2 : rung k b = 0 := by omega
    rw [e1, e2, z]; rfl
  · have e : rung k a = rung k b := by omega
    rw [e]

theorem signed_eq (s : Bool) (m n : Nat) : signed s m n = if s then -((m * 2 ^ n : Nat) : Int) else ((m * 2 ^ n : Nat) : Int) := by
  unfold signed; rw [Nat.shiftLeft_eq]

/-- The numbers' order is that of their values. -/
theorem order_ival (k : FloatKind) (a b : Nat) (ha : rung k a < k.format.infRung) (hb : rung k b < k.format.infRung) :
    k.format.order a b = some (compare (ival k a) (ival k b)) := by
  obtain ⟨m, d, e1, v1, _, _⟩ := read_number k a ha
  obtain ⟨n, c, e2, v2, _, _⟩ := read_number k b hb
  unfold Format.order
  rw [e1, e2]
  simp only [Datum.order]
  congr 1
  have hmin : ∃ t : Nat, min (k.format.leastPlace + (d : Int)) (k.format.leastPlace + (c : Int)) = k.format.leastPlace + (t : Int) ∧ t ≤ d ∧ t ≤ c := by
    refine ⟨min d c, by omega, by omega, by omega⟩
  obtain ⟨t, ht, hd, hc⟩ := hmin
  rw [ht, show (k.format.leastPlace + (d : Int) - (k.format.leastPlace + (t : Int))).toNat = d - t by omega, show (k.format.leastPlace + (c : Int) - (k.format.leastPlace + (t : Int))).toNat = c - t by omega]
  rw [signed_eq, signed_eq]
  have hp : (0 : Int) < ((2 ^ t : Nat) : Int) := by have := Nat.two_pow_pos t; omega
  have ea : ival k a = (if sgn k a then -((m * 2 ^ (d - t) : Nat) : Int) else ((m * 2 ^ (d - t) : Nat) : Int)) * ((2 ^ t : Nat) : Int) := by
    have : vmag k.format (rung k a) = m * 2 ^ (d - t) * 2 ^ t := by rw [← v1, Nat.mul_assoc, ← Nat.pow_add, Nat.sub_add_cancel hd]
    unfold ival
    rw [this]
    cases sgn k a <;> simp [Int.neg_mul]
  have eb : ival k b = (if sgn k b then -((n * 2 ^ (c - t) : Nat) : Int) else ((n * 2 ^ (c - t) : Nat) : Int)) * ((2 ^ t : Nat) : Int) := by
    have : vmag k.format (rung k b) = n * 2 ^ (c - t) * 2 ^ t := by rw [← v2, Nat.mul_assoc, ← Nat.pow_add, Nat.sub_add_cancel hc]
    unfold ival
    rw [this]
    cases sgn k b <;> simp [Int.neg_mul]
  rw [ea, eb]
  refine (compare_map ?_ ?_ ?_).symm
  · exact fun h => Int.mul_lt_mul_of_pos_right h hp
  · exact fun h => by rw [h]
  · exact fun h => Int.mul_lt_mul_of_pos_right h hp

/-- Words that are no NaNs stand to each other as their places do. -/
theorem order_plc (k : FloatKind) (a b : Nat) (ha : nan k a = false) (hb : nan k b = false) : k.format.order a b = some (compare (plc k a) (plc k b)) := by
  have ha' : rung k a ≤ k.format.infRung := by simpa [nan] using ha
  have hb' : rung k b ≤ k.format.infRung := by simpa [nan] using hb
  have hpos : 0 < k.format.infRung := by cases k <;> decide
  by_cases h1 : rung k a = k.format.infRung
  · have r1 := read_inf k a h1
    by_cases h2 : rung k b = k.format.infRung
    · have r2 := read_inf k b h2
      unfold Format.order
      rw [r1, r2]
      simp only [Datum.order]
      congr 1
      unfold plc
      rw [h1, h2]
      cases sgn k a <;> cases sgn k b <;> simp only [if_true, if_false, Bool.false_eq_true, Bool.toNat_true, Bool.toNat_false]
      · rw [compare_same rfl]; rfl
      · rw [compare_gt (by omega)]; rfl
      · rw [compare_lt (by omega)]; rfl
      · rw [compare_same rfl]; rfl
    · obtain ⟨n, c, e2, _⟩ := read_number k b (by omega)
      unfold Format.order
      rw [r1, e2]
      simp only [Datum.order]
      congr 1
      unfold plc
      rw [h1]
      cases sgn k a <;> simp only [if_true, if_false, Bool.false_eq_true]
      · rw [compare_gt (by split <;> omega)]
      · rw [compare_lt (by split <;> omega)]
  · obtain ⟨m, d, e1, _⟩ := read_number k a (by omega)
    by_cases h2 : rung k b = k.format.infRung
    · have r2 := read_inf k b h2
      unfold Format.order
      rw [e1, r2]
      simp only [Datum.order]
      congr 1
      unfold plc
      rw [h2]
      cases sgn k b <;> simp only [if_true, if_false, Bool.false_eq_true]
      · rw [compare_lt (by split <;> omega)]
      · rw [compare_gt (by split <;> omega)]
    · rw [order_ival k a b (by omega) (by omega)]
      congr 1
      exact compare_map (ival_lt k) (ival_eq k) (ival_lt k)

end Go.Proofs.YtaingnnflldlhabDoor.Fl
