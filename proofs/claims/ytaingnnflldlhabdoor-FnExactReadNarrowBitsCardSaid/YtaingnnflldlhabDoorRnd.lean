/- Rounding keeps a bound that is a power of two: what is at most 2^E in size is at most 2^E when it is written; so products, sums and quotients of bounded numbers are bounded numbers, and no NaN comes of them. No program in sight, no condition. -/
import Derived.Test.YtaingnnflldlhabDoorOrd
namespace Go.Proofs.YtaingnnflldlhabDoor.Fl
open Ieee

/-- 'm * 2 ^ e' is at most '2 ^ E'. -/
def leP (m : Nat) (e E : Int) : Prop := m = 0 ∨ (e ≤ E ∧ m ≤ 2 ^ (E - e).toNat)

theorem leP_mono {m : Nat} {e E E' : Int} (h : leP m e E) (hE : E ≤ E') : leP m e E' := by
  rcases h with h | ⟨h1, h2⟩
  · exact .inl h
  · exact .inr ⟨by omega, Nat.le_trans h2 (Nat.pow_le_pow_right (by omega) (by omega))⟩

/-- Cutting to the nearest keeps a whole bound. -/
theorem cut_le (neg : Bool) (n drop K : Nat) (h : n ≤ K * 2 ^ drop) : Toward.even.cut neg n drop ≤ K := by
  unfold Toward.cut
  dsimp only
  by_cases hd : drop ≤ n.log2 + 2
  · rw [Nat.min_eq_left hd, Nat.one_shiftLeft]
    have hp := Nat.two_pow_pos drop
    have hdm := Nat.div_add_mod n (2 ^ drop)
    have hm := Nat.mod_lt n hp
    generalize 2 ^ drop = g at *
    generalize n / g = q at *
    generalize n % g = t at *
    have hq : q ≤ K := by
      have h1 : g * q ≤ g * K := by rw [Nat.mul_comm g K]; omega
      exact Nat.le_of_mul_le_mul_left h1 hp
    by_cases e : q = K
    · subst e
      have : t = 0 := by rw [Nat.mul_comm] at h; omega
      subst this
      have : (decide (g < 2 * 0) || (g == 2 * 0 && q % 2 == 1)) = false := by simp; omega
      simp only [this]; simp
    · have : (decide (g < 2 * t) || (g == 2 * t && q % 2 == 1)).toNat ≤ 1 := Bool.toNat_le _
      omega
  · rw [Nat.min_eq_right (by omega), Nat.one_shiftLeft]
    have hlt : n < 2 ^ (n.log2 + 1) := Nat.lt_log2_self
    have e : 2 ^ (n.log2 + 2) = 2 * 2 ^ (n.log2 + 1) := by rw [Nat.pow_succ 2 (n.log2 + 1)]; omega
    rw [e]
    generalize 2 ^ (n.log2 + 1) = g at *
    rw [Nat.div_eq_of_lt (by omega), Nat.mod_eq_of_lt (by omega)]
    have : (decide (2 * g < 2 * n) || (2 * g == 2 * n && 0 % 2 == 1)) = false := by simp; omega
    simp only [this]; simp

/-- The rung of '2 ^ E'. -/
def topRung (f : Format) (E : Int) : Nat := (E - f.fractionBits - f.leastPlace + 1).toNat * f.binade

/-- The rung of a rounded number. -/
def rndRung (f : Format) (neg : Bool) (mag : Nat) (place : Int) : Nat :=
  if mag = 0 then 0 else
  let last := max (place + mag.log2 - f.fractionBits) f.leastPlace
  min ((last - f.leastPlace).toNat * f.binade + Toward.even.cut neg (mag <<< (place - last).toNat) (last - place).toNat) f.infRung

theorem nearest_word (f : Format) (neg : Bool) (mag : Nat) (place : Int) : f.nearest neg mag place = f.word neg (rndRung f neg mag place) := by
  unfold Format.nearest rndRung
  by_cases h : mag = 0
  · rw [if_pos h, if_pos h]
  · rw [if_neg h, if_neg h]

theorem rndRung_inf (f : Format) (neg : Bool) (mag : Nat) (place : Int) : rndRung f neg mag place ≤ f.infRung := by
  unfold rndRung
  dsimp only
  split
  · exact Nat.zero_le _
  · exact Nat.min_le_right _ _

theorem log2_bounds {n : Nat} (h : n ≠ 0) : 2 ^ n.log2 ≤ n ∧ n < 2 ^ (n.log2 + 1) := ⟨Nat.log2_self_le h, Nat.lt_log2_self⟩

theorem rndRung_le (f : Format) (neg : Bool) (mag : Nat) (place E : Int) (hE : f.leastPlace + f.fractionBits + 1 ≤ E) (h : leP mag place E) : rndRung f neg mag place ≤ topRung f E := by
  unfold rndRung
  dsimp only
  split
  · exact Nat.zero_le _
  rename_i h0
  obtain ⟨hp, hm⟩ : place ≤ E ∧ mag ≤ 2 ^ (E - place).toNat := by
    rcases h with h | h
    · exact absurd h h0
    · exact h
  have hl := log2_bounds h0
  refine Nat.le_trans (Nat.min_le_left _ _) ?_
  have hlj : mag.log2 ≤ (E - place).toNat := by
    have h1 : 2 ^ mag.log2 ≤ 2 ^ (E - place).toNat := Nat.le_trans hl.1 hm
    exact (Nat.pow_le_pow_iff_right (by omega)).1 h1
  unfold topRung
  have hbin : f.binade = 2 ^ f.fractionBits := rfl
  by_cases c : mag.log2 = (E - place).toNat
  · -- the number is the bound itself
    have hlast : max (place + (mag.log2 : Int) - f.fractionBits) f.leastPlace = E - f.fractionBits := by omega
    rw [hlast]
    have hk : Toward.even.cut neg (mag <<< (place - (E - f.fractionBits)).toNat) ((E - f.fractionBits) - place).toNat ≤ f.binade := by
      apply cut_le
      rw [Nat.shiftLeft_eq, hbin]
      refine Nat.le_trans (Nat.mul_le_mul_right _ hm) ?_
      rw [← Nat.pow_add, ← Nat.pow_add]
      exact Nat.pow_le_pow_right (by omega) (by omega)
    have e : (E - f.fractionBits - f.leastPlace + 1).toNat = (E - f.fractionBits - f.leastPlace).toNat + 1 := by omega
    rw [e, Nat.add_mul, Nat.one_mul]
    omega
  · have hlt : mag.log2 < (E - place).toNat := by omega
    have hk : Toward.even.cut neg (mag <<< (place - max (place + (mag.log2 : Int) - f.fractionBits) f.leastPlace).toNat) (max (place + (mag.log2 : Int) - f.fractionBits) f.leastPlace - place).toNat ≤ 2 * f.binade := by
      apply cut_le
      rw [Nat.shiftLeft_eq, hbin]
      have h1 : mag ≤ 2 ^ (mag.log2 + 1) := Nat.le_of_lt hl.2
      refine Nat.le_trans (Nat.mul_le_mul_right _ h1) ?_
      rw [show 2 * 2 ^ f.fractionBits = 2 ^ (f.fractionBits + 1) by rw [Nat.pow_succ]; omega, ← Nat.pow_add, ← Nat.pow_add]
      exact Nat.pow_le_pow_right (by omega) (by omega)
    generalize Toward.even.cut _ _ _ = kept at *
    have h2 : ((max (place + (mag.log2 : Int) - f.fractionBits) f.leastPlace) - f.leastPlace).toNat + 2 ≤ (E - f.fractionBits - f.leastPlace + 1).toNat := by omega
    have h3 := Nat.mul_le_mul_right f.binade h2
    rw [Nat.add_mul] at h3
    omega

theorem word_rung (k : FloatKind) (s : Bool) (r : Nat) (h : r < k.format.signWeight) : rung k (k.format.word s r) = r ∧ sgn k (k.format.word s r) = s := by
  unfold rung sgn Format.word
  have hp : 0 < k.format.signWeight := Nat.two_pow_pos _
  cases s
  · simp only [Bool.false_eq_true, if_false]
    rw [Nat.mod_eq_of_lt h, Nat.div_eq_of_lt h]; exact ⟨rfl, rfl⟩
  · simp only [if_true]
    rw [Nat.add_mod_left, Nat.mod_eq_of_lt h, Nat.add_div_left _ hp, Nat.div_eq_of_lt h]
    exact ⟨rfl, rfl⟩

/-- The word is a number of at most '2 ^ E' in size. -/
def Le (k : FloatKind) (b : Nat) (E : Int) : Prop := rung k b ≤ topRung k.format E

theorem topRung_lt (k : FloatKind) (E : Int) (h : E ≤ 126) : topRung k.format E < k.format.infRung := by
  cases k
  · have e : (E - FloatKind.f32.format.fractionBits - FloatKind.f32.format.leastPlace + 1).toNat ≤ 253 := by
      have h1 : FloatKind.f32.format.fractionBits = 23 := rfl
      have h2 : FloatKind.f32.format.leastPlace = -149 := by decide
      rw [h1, h2]; omega
    unfold topRung
    have h3 := Nat.mul_le_mul_right FloatKind.f32.format.binade e
    have h4 : 253 * FloatKind.f32.format.binade < FloatKind.f32.format.infRung := by decide +kernel
    omega
  · have e : (E - FloatKind.f64.format.fractionBits - FloatKind.f64.format.leastPlace + 1).toNat ≤ 1149 := by
      have h1 : FloatKind.f64.format.fractionBits = 52 := rfl
      have h2 : FloatKind.f64.format.leastPlace = -1074 := by decide
      rw [h1, h2]; omega
    unfold topRung
    have h3 := Nat.mul_le_mul_right FloatKind.f64.format.binade e
    have h4 : 1149 * FloatKind.f64.format.binade < FloatKind.f64.format.infRung := by decide +kernel
    omega

theorem topRung_lt64 (E : Int) (h : E ≤ 1022) : topRung FloatKind.f64.format E < FloatKind.f64.format.infRung := by
  have e : (E - FloatKind.f64.format.fractionBits - FloatKind.f64.format.leastPlace + 1).toNat ≤ 2045 := by
    have h1 : FloatKind.f64.format.fractionBits = 52 := rfl
    have h2 : FloatKind.f64.format.leastPlace = -1074 := by decide
    rw [h1, h2]; omega
  unfold topRung
  have h3 := Nat.mul_le_mul_right FloatKind.f64.format.binade e
  have h4 : 2045 * FloatKind.f64.format.binade < FloatKind.f64.format.infRung := by decide +kernel
  omega

theorem least_ok (k : FloatKind) (E : Int) (h : -125 ≤ E) : k.format.leastPlace + k.format.fractionBits + 1 ≤ E := by
  cases k
  · have h1 : FloatKind.f32.format.fractionBits = 23 := rfl
    have h2 : FloatKind.f32.format.leastPlace = -149 := by decide
    rw [h1, h2]; omega
  · have h1 : FloatKind.f64.format.fractionBits = 52 := rfl
    have h2 : FloatKind.f64.format.leastPlace = -1074 := by decide
    rw [h1, h2]; omega

/-- What is written of a bounded number. -/
theorem encode_le (k : FloatKind) (s : Bool) (m : Nat) (e E : Int) (hE : -125 ≤ E) (h : leP m e E) : Le k (k.encode (.number s m e)) E := by
  unfold Le FloatKind.encode Format.write
  show rung k (k.format.nearest s m e) ≤ _
  rw [nearest_word]
  have h1 := rndRung_inf k.format s m e
  have h2 := k.format.infRung_lt
  rw [(word_rung k s _ (by omega)).1]
  exact rndRung_le _ _ _ _ _ (least_ok k E hE) h

theorem encode_sgn (k : FloatKind) (s : Bool) (m : Nat) (e : Int) : sgn k (k.encode (.number s m e)) = s := by
  unfold FloatKind.encode Format.write
  show sgn k (k.format.nearest s m e) = _
  rw [nearest_word]
  have h1 := rndRung_inf k.format s m e
  have h2 := k.format.infRung_lt
  exact (word_rung k s _ (by omega)).2

theorem encode_num (k : FloatKind) (s : Bool) (m : Nat) (e : Int) : nan k (k.encode (.number s m e)) = false := by
  unfold FloatKind.encode Format.write
  show nan k (k.format.nearest s m e) = _
  rw [nearest_word]
  have h1 := rndRung_inf k.format s m e
  have h2 := k.format.infRung_lt
  unfold nan
  rw [(word_rung k s _ (by omega)).1]
  simp; omega

/-- A bounded word reads as a bounded number. -/
theorem read_le (k : FloatKind) (b : Nat) (E : Int) (hE : -125 ≤ E) (hi : rung k b < k.format.infRung) (h : Le k b E) : ∃ m e, k.format.read b = .number (sgn k b) m e ∧ leP m e E := by
  obtain ⟨m, d, e, v, _, _⟩ := read_number k b hi
  refine ⟨m, _, e, ?_⟩
  have ho := least_ok k E hE
  have hv := vmag_le k.format h
  have hb := binade_pos k.format
  have htop : vmag k.format (topRung k.format E) = 2 ^ (E - k.format.leastPlace).toNat := by
    unfold vmag topRung
    have h1 : 1 ≤ (E - k.format.fractionBits - k.format.leastPlace + 1).toNat := by omega
    rw [if_neg (by have := Nat.mul_le_mul_right k.format.binade h1; omega), Nat.mul_mod_left, Nat.mul_div_cancel _ hb, Nat.add_zero, show k.format.binade = 2 ^ k.format.fractionBits from rfl, ← Nat.pow_add]
    congr 1; omega
  rw [← v, htop] at hv
  by_cases hm : m = 0
  · exact .inl hm
  · right
    have h1 : 2 ^ d ≤ 2 ^ (E - k.format.leastPlace).toNat := by
      refine Nat.le_trans ?_ hv
      exact Nat.le_mul_of_pos_left _ (by omega)
    have h2 : d ≤ (E - k.format.leastPlace).toNat := (Nat.pow_le_pow_iff_right (by omega)).1 h1
    refine ⟨by omega, ?_⟩
    have h3 : (E - k.format.leastPlace).toNat = (E - (k.format.leastPlace + (d : Int))).toNat + d := by omega
    rw [h3, Nat.pow_add] at hv
    exact Nat.le_of_mul_le_mul_right hv (Nat.two_pow_pos d)

theorem leP_mul {m n : Nat} {i j E F : Int} (h1 : leP m i E) (h2 : leP n j F) : leP (m * n) (i + j) (E + F) := by
  rcases h1 with h1 | ⟨a1, a2⟩
  · left; rw [h1, Nat.zero_mul]
  rcases h2 with h2 | ⟨b1, b2⟩
  · left; rw [h2, Nat.mul_zero]
  right
  refine ⟨by omega, ?_⟩
  rw [show (E + F - (i + j)).toNat = (E - i).toNat + (F - j).toNat by omega, Nat.pow_add]
  exact Nat.mul_le_mul a2 b2

theorem shift_le {m : Nat} {i base E : Int} (h : leP m i E) (hb : base ≤ i) (hE : base ≤ E) : m <<< (i - base).toNat ≤ 2 ^ (E - base).toNat := by
  rw [Nat.shiftLeft_eq]
  rcases h with h | ⟨a1, a2⟩
  · rw [h, Nat.zero_mul]; exact Nat.zero_le _
  · refine Nat.le_trans (Nat.mul_le_mul_right _ a2) ?_
    rw [← Nat.pow_add]
    exact Nat.pow_le_pow_right (by omega) (by omega)

theorem signed_abs (s : Bool) (m n : Nat) : (signed s m n).natAbs = m <<< n := by
  unfold signed
  cases s
  · exact Int.natAbs_natCast _
  · simp only [if_true]; rw [Int.natAbs_neg]; exact Int.natAbs_natCast _

/-- The sum of two bounded numbers. -/
theorem sum_le (s t : Bool) (m n : Nat) (i j E : Int) (h1 : leP m i E) (h2 : leP n j E) :
    ∃ u v base, Datum.sum (.number s m i) (.number t n j) = some (.number u v base) ∧ leP v base (E + 1) := by
  refine ⟨_, _, _, rfl, ?_⟩
  by_cases hE : min i j ≤ E
  · right
    refine ⟨by omega, ?_⟩
    have a := shift_le h1 (base := min i j) (by omega) hE
    have b := shift_le h2 (base := min i j) (by omega) hE
    have c : (signed s m (i - min i j).toNat + signed t n (j - min i j).toNat).natAbs ≤ 2 ^ (E - min i j).toNat + 2 ^ (E - min i j).toNat := by
      refine Nat.le_trans (Int.natAbs_add_le _ _) ?_
      rw [signed_abs, signed_abs]
      omega
    refine Nat.le_trans c ?_
    rw [show (E + 1 - min i j).toNat = (E - min i j).toNat + 1 by omega, Nat.pow_succ]
    omega
  · left
    have hm : m = 0 := by
      rcases h1 with h | h
      · exact h
      · omega
    have hn : n = 0 := by
      rcases h2 with h | h
      · exact h
      · omega
    subst hm hn
    simp [signed]

/-- Sums, differences and products of bounded words are valid and bounded. -/
theorem add_le (k : FloatKind) (x y : Nat) (E : Int) (hE : -125 ≤ E) (hx : rung k x < k.format.infRung) (hy : rung k y < k.format.infRung) (lx : Le k x E) (ly : Le k y E) :
    ∃ r, floatBits .add k x y = some r ∧ Le k r (E + 1) := by
  obtain ⟨m, i, e1, p1⟩ := read_le k x E hE hx lx
  obtain ⟨n, j, e2, p2⟩ := read_le k y E hE hy ly
  obtain ⟨u, v, base, e3, p3⟩ := sum_le (sgn k x) (sgn k y) m n i j E p1 p2
  refine ⟨k.encode (.number u v base), ?_, encode_le k u v base _ (by omega) p3⟩
  unfold floatBits Format.add
  rw [e1, e2, e3]; rfl

theorem sub_le (k : FloatKind) (x y : Nat) (E : Int) (hE : -125 ≤ E) (hx : rung k x < k.format.infRung) (hy : rung k y < k.format.infRung) (lx : Le k x E) (ly : Le k y E) :
    ∃ r, floatBits .sub k x y = some r ∧ Le k r (E + 1) := by
  obtain ⟨m, i, e1, p1⟩ := read_le k x E hE hx lx
  obtain ⟨n, j, e2, p2⟩ := read_le k y E hE hy ly
  obtain ⟨u, v, base, e3, p3⟩ := sum_le (sgn k x) (!sgn k y) m n i j E p1 p2
  refine ⟨k.encode (.number u v base), ?_, encode_le k u v base _ (by omega) p3⟩
  unfold floatBits Format.sub
  rw [e1, e2]
  simp only [Datum.opposite]
  rw [e3]; rfl

theorem mul_le (k : FloatKind) (x y : Nat) (E F : Int) (hE : -125 ≤ E) (hF : -125 ≤ F) (hEF : -125 ≤ E + F) (hx : rung k x < k.format.infRung) (hy : rung k y < k.format.infRung) (lx : Le k x E) (ly : Le k y F) :
    ∃ r, floatBits .mul k x y = some r ∧ Le k r (E + F) := by
  obtain ⟨m, i, e1, p1⟩ := read_le k x E hE hx lx
  obtain ⟨n, j, e2, p2⟩ := read_le k y F hF hy ly
  refine ⟨k.encode (.number (sgn k x ^^ sgn k y) (m * n) (i + j)), ?_, encode_le k _ _ _ _ hEF (leP_mul p1 p2)⟩
  unfold floatBits Format.mul
  rw [e1, e2]; rfl

/-- 'm * 2 ^ e' is at least '2 ^ F', and not zero. -/
def geP (m : Nat) (e F : Int) : Prop := 0 < m ∧ 2 ^ (F - e).toNat ≤ m * 2 ^ (e - F).toNat

/-- The quotient of a bounded number by one that is not too small. -/
theorem quot_le (digits : Nat) (s t : Bool) (m n : Nat) (i j E F : Int) (h1 : leP m i E) (h2 : geP n j F) :
    ∃ v place, Datum.quotient digits (.number s m i) (.number t n j) = some (.number (s ^^ t) v place) ∧ leP v place (E - F) := by
  obtain ⟨hn, h2⟩ := h2
  refine ⟨_, _, by simp only [Datum.quotient]; rw [if_neg (by omega)], ?_⟩
  by_cases hm : m = 0
  · left; subst hm; simp
  obtain ⟨a1, a2⟩ : i ≤ E ∧ m ≤ 2 ^ (E - i).toNat := by
    rcases h1 with h | h
    · exact absurd h hm
    · exact h
  have hmore : i - j - ((digits + n.log2 - m.log2 : Nat) : Int) ≤ E - F := by
    have l1 := log2_bounds hm
    have l2 := log2_bounds (show n ≠ 0 by omega)
    have k1 : m.log2 ≤ (E - i).toNat := (Nat.pow_le_pow_iff_right (a := 2) (by omega)).1 (Nat.le_trans l1.1 a2)
    have k2 : (F - j).toNat < n.log2 + 1 + (j - F).toNat := by
      refine (Nat.pow_lt_pow_iff_right (a := 2) (by omega)).1 (Nat.lt_of_le_of_lt h2 ?_)
      rw [Nat.pow_add 2 (n.log2 + 1)]
      exact Nat.mul_lt_mul_of_pos_right l2.2 (Nat.two_pow_pos _)
    omega
  generalize digits + n.log2 - m.log2 = more at *
  right
  refine ⟨by omega, ?_⟩
  rw [Nat.shiftLeft_eq]
  -- the bound on the whole part
  have hdm := Nat.div_add_mod (m * 2 ^ more) n
  have hml := Nat.mod_lt (m * 2 ^ more) hn
  have key : m * 2 ^ more ≤ n * 2 ^ (E - F - (i - j - more)).toNat := by
    by_cases hc : j ≤ F
    · have e0 : (j - F).toNat = 0 := by omega
      rw [e0, Nat.pow_zero, Nat.mul_one] at h2
      refine Nat.le_trans (Nat.mul_le_mul_right _ a2) ?_
      refine Nat.le_trans ?_ (Nat.mul_le_mul_right _ h2)
      rw [← Nat.pow_add, ← Nat.pow_add]
      exact Nat.pow_le_pow_right (by omega) (by omega)
    · have e0 : (F - j).toNat = 0 := by omega
      rw [e0, Nat.pow_zero] at h2
      have hn1 : 1 ≤ n := hn
      refine Nat.le_trans (Nat.mul_le_mul_right _ a2) ?_
      refine Nat.le_trans ?_ (Nat.mul_le_mul_right _ hn1)
      rw [← Nat.pow_add, Nat.one_mul]
      exact Nat.pow_le_pow_right (by omega) (by omega)
  have hx : (E - F - (i - j - more - 1)).toNat = (E - F - (i - j - more)).toNat + 1 := by omega
  rw [hx, Nat.pow_succ]
  generalize 2 ^ (E - F - (i - j - more)).toNat = K at *
  generalize m * 2 ^ more = D at *
  generalize D / n = q at *
  generalize D % n = r at *
  have hq : q ≤ K := by
    have : n * q ≤ n * K := by omega
    exact Nat.le_of_mul_le_mul_left this hn
  by_cases e : q = K
  · subst e
    have : r = 0 := by omega
    subst this
    simp; omega
  · have : (r != 0).toNat ≤ 1 := Bool.toNat_le _
    omega

/-- A word that is at least '2 ^ F' in size. -/
def Ge (k : FloatKind) (b : Nat) (F : Int) : Prop := ∃ m e, k.format.read b = .number (sgn k b) m e ∧ geP m e F

/-- Quotients of a bounded word by one that is not too small are valid and bounded. -/
theorem div_le (k : FloatKind) (x y : Nat) (E F : Int) (hE : -125 ≤ E) (hEF : -125 ≤ E - F) (hx : rung k x < k.format.infRung) (lx : Le k x E) (gy : Ge k y F) :
    ∃ r, floatBits .quo k x y = some r ∧ Le k r (E - F) := by
  obtain ⟨m, i, e1, p1⟩ := read_le k x E hE hx lx
  obtain ⟨n, j, e2, p2⟩ := gy
  obtain ⟨v, place, e3, p3⟩ := quot_le (k.format.fractionBits + 2) (sgn k x) (sgn k y) m n i j E F p1 p2
  refine ⟨k.encode (.number (sgn k x ^^ sgn k y) v place), ?_, encode_le k _ _ _ _ hEF p3⟩
  unfold floatBits Format.div
  rw [e1, e2, e3]; rfl

/-- A float64 of a float32 that is a number is a number; and back, if it is not too great. -/
theorem widen_num (a : Nat) (h : nan .f32 a = false) : ∃ r, floatToFloatBits .f32 a .f64 = some r ∧ nan .f64 r = false := by
  have ha : rung .f32 a ≤ FloatKind.f32.format.infRung := by simpa [nan] using h
  unfold floatToFloatBits
  rw [if_neg (by decide)]
  by_cases hi : rung .f32 a = FloatKind.f32.format.infRung
  · have e : FloatKind.f32.decode a = .infinity (sgn .f32 a) := read_inf .f32 a hi
    rw [e]
    refine ⟨_, rfl, ?_⟩
    cases sgn .f32 a <;> decide +kernel
  · have hlt : rung .f32 a < FloatKind.f32.format.infRung := by omega
    have hle : Le .f32 a 128 := by
      have : FloatKind.f32.format.infRung ≤ topRung FloatKind.f32.format 128 := by decide +kernel
      exact Nat.le_of_lt (Nat.lt_of_lt_of_le hlt this)
    obtain ⟨m, e, e1, p1⟩ := read_le .f32 a 128 (by omega) hlt hle
    have e2 : FloatKind.f32.decode a = .number (sgn .f32 a) m e := e1
    rw [e2]
    dsimp only
    have l := encode_le .f64 (sgn .f32 a) m e 128 (by omega) p1
    have l2 : rung .f64 (FloatKind.f64.encode (.number (sgn .f32 a) m e)) < FloatKind.f64.format.infRung := Nat.lt_of_le_of_lt l (topRung_lt64 128 (by omega))
    obtain ⟨m', d, e3, _⟩ := read_number .f64 _ l2
    have e4 : (FloatKind.f64.decode (FloatKind.f64.encode (.number (sgn .f32 a) m e))).isInfinity = false := by
      show Datum.isInfinity (FloatKind.f64.format.read _) = false
      rw [e3]; rfl
    rw [e4]
    exact ⟨_, rfl, encode_num .f64 _ _ _⟩

theorem narrow_le (a : Nat) (E : Int) (hE : -125 ≤ E) (hE' : E ≤ 126) (ha : rung .f64 a < FloatKind.f64.format.infRung) (la : Le .f64 a E) :
    ∃ r, floatToFloatBits .f64 a .f32 = some r ∧ Le .f32 r E := by
  unfold floatToFloatBits
  rw [if_neg (by decide)]
  obtain ⟨m, e, e1, p1⟩ := read_le .f64 a E hE ha la
  have e2 : FloatKind.f64.decode a = .number (sgn .f64 a) m e := e1
  rw [e2]
  dsimp only
  have l := encode_le .f32 (sgn .f64 a) m e E hE p1
  have l2 : rung .f32 (FloatKind.f32.encode (.number (sgn .f64 a) m e)) < FloatKind.f32.format.infRung := Nat.lt_of_le_of_lt l (topRung_lt .f32 E hE')
  obtain ⟨m', d, e3, _⟩ := read_number .f32 _ l2
  have e4 : (FloatKind.f32.decode (FloatKind.f32.encode (.number (sgn .f64 a) m e))).isInfinity = false := by
    show Datum.isInfinity (FloatKind.f32.format.read _) = false
    rw [e3]; rfl
  rw [e4]
  exact ⟨_, rfl, l⟩

/-- The float of a whole number. -/
theorem int_le (k : FloatKind) (n E : Nat) (h : n ≤ 2 ^ E) : Le k (floatOfInt k n) E := by
  unfold floatOfInt FloatKind.nearest
  exact encode_le k _ _ _ _ (by omega) (.inr ⟨by omega, by simpa using h⟩)

end Go.Proofs.YtaingnnflldlhabDoor.Fl
