/- The turns as a plain function of two numbers, on the bits of floats; and that every operation on the way is valid and bounded. No program in sight. -/
import Derived.Test.YtaingnnflldlhaaRnd
namespace Go.Proofs.Ytaingnnflldlhaa.Fl
open Ieee

theorem cut_ge (neg : Bool) (n drop K : Nat) (h : K * 2 ^ drop ≤ n) : K ≤ Toward.even.cut neg n drop := by
  unfold Toward.cut
  dsimp only
  by_cases hd : drop ≤ n.log2 + 2
  · rw [Nat.min_eq_left hd, Nat.one_shiftLeft]
    have hp := Nat.two_pow_pos drop
    have := (Nat.le_div_iff_mul_le hp).2 h
    omega
  · have hlt : n < 2 ^ (n.log2 + 1) := Nat.lt_log2_self
    have h2 : 2 ^ (n.log2 + 1) ≤ 2 ^ drop := Nat.pow_le_pow_right (by omega) (by omega)
    have hK : K = 0 := by
      rcases Nat.eq_zero_or_pos K with h0 | h0
      · exact h0
      · have : 1 * 2 ^ drop ≤ K * 2 ^ drop := Nat.mul_le_mul_right _ h0
        omega
    rw [hK]; exact Nat.zero_le _

theorem rndRung_ge (f : Format) (neg : Bool) (mag : Nat) (place F : Int) (hF : f.leastPlace + f.fractionBits ≤ F) (ht : topRung f F ≤ f.infRung) (h : geP mag place F) : topRung f F ≤ rndRung f neg mag place := by
  obtain ⟨h0, h⟩ := h
  unfold rndRung
  dsimp only
  rw [if_neg (by omega)]
  have hl := log2_bounds (show mag ≠ 0 by omega)
  have k2 : (F - place).toNat < mag.log2 + 1 + (place - F).toNat := by
    refine (Nat.pow_lt_pow_iff_right (a := 2) (by omega)).1 (Nat.lt_of_le_of_lt h ?_)
    rw [Nat.pow_add 2 (mag.log2 + 1)]
    exact Nat.mul_lt_mul_of_pos_right hl.2 (Nat.two_pow_pos _)
  have hL : F ≤ place + mag.log2 := by omega
  have hlast : max (place + (mag.log2 : Int) - f.fractionBits) f.leastPlace = place + mag.log2 - f.fractionBits := by omega
  rw [hlast]
  refine Nat.le_min.2 ⟨?_, ht⟩
  have hk : f.binade ≤ Toward.even.cut neg (mag <<< (place - (place + mag.log2 - f.fractionBits)).toNat) ((place + mag.log2 - f.fractionBits) - place).toNat := by
    apply cut_ge
    rw [Nat.shiftLeft_eq, show f.binade = 2 ^ f.fractionBits from rfl]
    refine Nat.le_trans ?_ (Nat.mul_le_mul_right _ hl.1)
    rw [← Nat.pow_add, ← Nat.pow_add]
    exact Nat.pow_le_pow_right (by omega) (by omega)
  unfold topRung
  have e : (F - f.fractionBits - f.leastPlace + 1).toNat ≤ (place + mag.log2 - f.fractionBits - f.leastPlace).toNat + 1 := by omega
  have h3 := Nat.mul_le_mul_right f.binade e
  rw [Nat.add_mul, Nat.one_mul] at h3
  omega

theorem vmag_top (f : Format) (E : Int) (h : f.leastPlace + f.fractionBits ≤ E) : vmag f (topRung f E) = 2 ^ (E - f.leastPlace).toNat := by
  have hb := binade_pos f
  unfold vmag topRung
  have h1 : 1 ≤ (E - f.fractionBits - f.leastPlace + 1).toNat := by omega
  rw [if_neg (by have := Nat.mul_le_mul_right f.binade h1; omega), Nat.mul_mod_left, Nat.mul_div_cancel _ hb, Nat.add_zero, show f.binade = 2 ^ f.fractionBits from rfl, ← Nat.pow_add]
  congr 1; omega

theorem read_ge (k : FloatKind) (b : Nat) (F : Int) (hF : k.format.leastPlace + k.format.fractionBits ≤ F) (hi : rung k b < k.format.infRung) (h : topRung k.format F ≤ rung k b) : Ge k b F := by
  obtain ⟨m, d, e, v, _, _⟩ := read_number k b hi
  refine ⟨m, _, e, ?_⟩
  have hv := vmag_le k.format h
  rw [← v, vmag_top _ _ hF] at hv
  have hm : 0 < m := by
    rcases Nat.eq_zero_or_pos m with h0 | h0
    · rw [h0, Nat.zero_mul] at hv
      have := Nat.two_pow_pos (F - k.format.leastPlace).toNat
      omega
    · exact h0
  refine ⟨hm, ?_⟩
  by_cases c : k.format.leastPlace + (d : Int) ≤ F
  · have e1 : (F - k.format.leastPlace).toNat = (F - (k.format.leastPlace + (d : Int))).toNat + d := by omega
    rw [e1, Nat.pow_add] at hv
    have e2 : (k.format.leastPlace + (d : Int) - F).toNat = 0 := by omega
    rw [e2, Nat.pow_zero, Nat.mul_one]
    exact Nat.le_of_mul_le_mul_right hv (Nat.two_pow_pos d)
  · have e2 : (F - (k.format.leastPlace + (d : Int))).toNat = 0 := by omega
    rw [e2, Nat.pow_zero]
    exact Nat.mul_pos hm (Nat.two_pow_pos _)

theorem big {n : Nat} (h : n ≤ 100000) : n ≤ 2 ^ 1000 := by
  have h2 : 100000 ≤ 2 ^ 1000 := by decide +kernel
  exact Nat.le_trans h h2

theorem int_ge (n F : Nat) (hF : F ≤ 1000) (h : 2 ^ F ≤ n) (hn : n ≤ 2 ^ 1000) : Ge .f64 (floatOfInt .f64 n) F := by
  have hlp : FloatKind.f64.format.leastPlace + FloatKind.f64.format.fractionBits ≤ (F : Int) := by
    have h1 : FloatKind.f64.format.fractionBits = 52 := rfl
    have h2 : FloatKind.f64.format.leastPlace = -1074 := by decide
    rw [h1, h2]; omega
  have hr := int_le .f64 n 1000 hn
  have hinf : rung .f64 (floatOfInt .f64 n) < FloatKind.f64.format.infRung := Nat.lt_of_le_of_lt hr (topRung_lt64 _ (by omega))
  refine read_ge .f64 _ F hlp hinf ?_
  unfold floatOfInt FloatKind.nearest FloatKind.encode Format.write
  show topRung _ _ ≤ rung .f64 (FloatKind.f64.format.nearest _ _ _)
  rw [nearest_word]
  have h1 := rndRung_inf FloatKind.f64.format (decide ((n : Int) < 0)) (n : Int).natAbs 0
  have h2 := FloatKind.f64.format.infRung_lt
  rw [(word_rung .f64 _ _ (by omega)).1]
  refine rndRung_ge _ _ _ _ _ hlp (Nat.le_of_lt (topRung_lt64 _ (by omega))) ⟨by have := Nat.two_pow_pos F; omega, ?_⟩
  have e1 : ((F : Int) - 0).toNat = F := by omega
  have e2 : (0 - (F : Int)).toNat = 0 := by omega
  rw [e1, e2, Nat.pow_zero, Nat.mul_one]
  simpa using h

/-! ### The series and the turns, on bits. -/
def one : Nat := 4607182418800017408
def fm (x y : Nat) : Nat := (floatBits .mul .f64 x y).getD 0
def fs (x y : Nat) : Nat := (floatBits .sub .f64 x y).getD 0
def fa (x y : Nat) : Nat := (floatBits .add .f64 x y).getD 0
def fd (x y : Nat) : Nat := (floatBits .quo .f64 x y).getD 0
def fi (n : Nat) : Nat := floatOfInt .f64 n

/-- A round of a series, its divisor given. -/
def step (y d t : Nat) : Nat := fs one (fm (fd y (fi d)) t)
def cosT (y : Nat) : Nat → Nat
  | 0 => one
  | i + 1 => step y ((2 * (9 - i) - 1) * 2 * (9 - i)) (cosT y i)
def sinT (y : Nat) : Nat → Nat
  | 0 => one
  | i + 1 => step y (2 * (9 - i) * (2 * (9 - i) + 1)) (sinT y i)

def base (n k : Nat) : Nat × Nat :=
  let x := fd (fm 4618760256179416344 (fi k)) (fi n)
  let y := fm x x
  (cosT y 9, fm (sinT y 9) x)

def half : Nat := 4604544271217802189

/-- A bounded number. -/
structure Num (b : Nat) (E : Int) : Prop where
  fin : rung .f64 b < FloatKind.f64.format.infRung
  le : Le .f64 b E

theorem Num.of (b : Nat) (E : Int) (hE : E ≤ 1022) (h : Le .f64 b E) : Num b E := ⟨Nat.lt_of_le_of_lt h (topRung_lt64 E hE), h⟩

theorem fm_ok {x y : Nat} {E F : Int} (hx : Num x E) (hy : Num y F) (h1 : -60 ≤ E) (h2 : -60 ≤ F) (h3 : E + F ≤ 1022) : floatBits .mul .f64 x y = some (fm x y) ∧ Num (fm x y) (E + F) := by
  obtain ⟨r, hr, hl⟩ := mul_le .f64 x y E F (by omega) (by omega) (by omega) hx.fin hy.fin hx.le hy.le
  unfold fm; rw [hr]; exact ⟨rfl, .of _ _ (by omega) hl⟩
theorem fs_ok {x y : Nat} {E : Int} (hx : Num x E) (hy : Num y E) (h1 : -60 ≤ E) (h3 : E ≤ 1021) : floatBits .sub .f64 x y = some (fs x y) ∧ Num (fs x y) (E + 1) := by
  obtain ⟨r, hr, hl⟩ := sub_le .f64 x y E (by omega) hx.fin hy.fin hx.le hy.le
  unfold fs; rw [hr]; exact ⟨rfl, .of _ _ (by omega) hl⟩
theorem fa_ok {x y : Nat} {E : Int} (hx : Num x E) (hy : Num y E) (h1 : -60 ≤ E) (h3 : E ≤ 1021) : floatBits .add .f64 x y = some (fa x y) ∧ Num (fa x y) (E + 1) := by
  obtain ⟨r, hr, hl⟩ := add_le .f64 x y E (by omega) hx.fin hy.fin hx.le hy.le
  unfold fa; rw [hr]; exact ⟨rfl, .of _ _ (by omega) hl⟩
theorem fd_ok {x y : Nat} {E F : Int} (hx : Num x E) (hy : Ge .f64 y F) (h1 : -60 ≤ E) (h2 : -60 ≤ E - F) (h3 : E - F ≤ 1022) : floatBits .quo .f64 x y = some (fd x y) ∧ Num (fd x y) (E - F) := by
  obtain ⟨r, hr, hl⟩ := div_le .f64 x y E F (by omega) (by omega) hx.fin hx.le hy
  unfold fd; rw [hr]; exact ⟨rfl, .of _ _ (by omega) hl⟩

theorem Num.mono {b : Nat} {E F : Int} (h : Num b E) (hEF : E ≤ F) : Num b F := by
  refine ⟨h.fin, Nat.le_trans h.le ?_⟩
  unfold topRung
  exact Nat.mul_le_mul_right _ (by omega)

theorem one_num : Num one 0 := .of _ _ (by omega) (by unfold Le; decide +kernel)

/-- A round of a series is valid and bounded. -/
structure StepOk (y d t : Nat) (E : Int) : Prop where
  q : floatBits .quo .f64 y (fi d) = some (fd y (fi d))
  p : floatBits .mul .f64 (fd y (fi d)) t = some (fm (fd y (fi d)) t)
  s : floatBits .sub .f64 one (fm (fd y (fi d)) t) = some (step y d t)
  num : Num (step y d t) (E + 2)

theorem step_ok {y d t : Nat} {E : Int} (hy : Num y 2) (hd : 2 ≤ d) (hd' : d ≤ 1000) (ht : Num t E) (h0 : 0 ≤ E) (h1 : E ≤ 100) : StepOk y d t E := by
  have hg : Ge .f64 (fi d) ((1 : Nat) : Int) := int_ge d 1 (by omega) hd (big (by omega))
  obtain ⟨q1, q2⟩ := fd_ok hy hg (by omega) (by omega) (by omega)
  obtain ⟨p1, p2⟩ := fm_ok q2 ht (by omega) (by omega) (by omega)
  obtain ⟨s1, s2⟩ := fs_ok (one_num.mono (show (0 : Int) ≤ E + 1 by omega)) (p2.mono (show 2 - ((1 : Nat) : Int) + E ≤ E + 1 by omega)) (by omega) (by omega)
  exact ⟨q1, p1, s1, s2.mono (by omega)⟩

theorem cos_num {y : Nat} (hy : Num y 2) : ∀ i : Nat, i ≤ 9 → Num (cosT y i) (2 * i)
  | 0, _ => one_num
  | i + 1, h => by
    have hd : ∀ j, j ≤ 8 → 2 ≤ (2 * (9 - j) - 1) * 2 * (9 - j) ∧ (2 * (9 - j) - 1) * 2 * (9 - j) ≤ 1000 := by decide
    have := step_ok hy (hd i (by omega)).1 (hd i (by omega)).2 (cos_num hy i (by omega)) (by omega) (by omega)
    exact this.num.mono (by omega)
theorem sin_num {y : Nat} (hy : Num y 2) : ∀ i : Nat, i ≤ 9 → Num (sinT y i) (2 * i)
  | 0, _ => one_num
  | i + 1, h => by
    have hd : ∀ j, j ≤ 8 → 2 ≤ 2 * (9 - j) * (2 * (9 - j) + 1) ∧ 2 * (9 - j) * (2 * (9 - j) + 1) ≤ 1000 := by decide
    have := step_ok hy (hd i (by omega)).1 (hd i (by omega)).2 (sin_num hy i (by omega)) (by omega) (by omega)
    exact this.num.mono (by omega)

theorem cos_step {y : Nat} (hy : Num y 2) (i : Nat) (h : i ≤ 8) : StepOk y ((2 * (9 - i) - 1) * 2 * (9 - i)) (cosT y i) (2 * i) := by
  have hd : ∀ j, j ≤ 8 → 2 ≤ (2 * (9 - j) - 1) * 2 * (9 - j) ∧ (2 * (9 - j) - 1) * 2 * (9 - j) ≤ 1000 := by decide
  exact step_ok hy (hd i (by omega)).1 (hd i (by omega)).2 (cos_num hy i (by omega)) (by omega) (by omega)
theorem sin_step {y : Nat} (hy : Num y 2) (i : Nat) (h : i ≤ 8) : StepOk y (2 * (9 - i) * (2 * (9 - i) + 1)) (sinT y i) (2 * i) := by
  have hd : ∀ j, j ≤ 8 → 2 ≤ 2 * (9 - j) * (2 * (9 - j) + 1) ∧ 2 * (9 - j) * (2 * (9 - j) + 1) ≤ 1000 := by decide
  exact step_ok hy (hd i (by omega)).1 (hd i (by omega)).2 (sin_num hy i (by omega)) (by omega) (by omega)

/-- The turn's own numbers are valid and bounded. -/
structure BaseOk (n k : Nat) : Prop where
  p : floatBits .mul .f64 4618760256179416344 (fi k) = some (fm 4618760256179416344 (fi k))
  x : floatBits .quo .f64 (fm 4618760256179416344 (fi k)) (fi n) = some (fd (fm 4618760256179416344 (fi k)) (fi n))
  xnum : Num (fd (fm 4618760256179416344 (fi k)) (fi n)) 1

theorem base_ok {n k : Nat} (hk : 0 < k) (h : 8 * k ≤ n) (hn : n ≤ 100000) : BaseOk n k := by
  have hl := log2_bounds (show k ≠ 0 by omega)
  have ha : k.log2 ≤ 20 := by
    have : 2 ^ k.log2 ≤ 2 ^ 20 := by omega
    exact (Nat.pow_le_pow_iff_right (a := 2) (by omega)).1 this
  have hkn : Num (fi k) ((k.log2 + 1 : Nat) : Int) := .of _ _ (by omega) (int_le .f64 k (k.log2 + 1) (Nat.le_of_lt hl.2))
  have hpi : Num 4618760256179416344 3 := .of _ _ (by omega) (by unfold Le; decide +kernel)
  obtain ⟨p1, p2⟩ := fm_ok hpi hkn (by omega) (by omega) (by omega)
  have h8 : 2 ^ (k.log2 + 3) ≤ n := by
    have e : 2 ^ (k.log2 + 3) = 8 * 2 ^ k.log2 := by rw [Nat.pow_add]; omega
    omega
  have hg : Ge .f64 (fi n) ((k.log2 + 3 : Nat) : Int) := int_ge n (k.log2 + 3) (by omega) h8 (big hn)
  obtain ⟨q1, q2⟩ := fd_ok p2 hg (by omega) (by omega) (by omega)
  exact ⟨p1, q1, q2.mono (by omega)⟩

end Go.Proofs.Ytaingnnflldlhaa.Fl
