/- A float32 that is no NaN, widened to float64 and narrowed again, is the same word. No program in sight, no condition. -/
import Derived.Test.YtaingnnflldlhabDoorConv
namespace Go.Proofs.YtaingnnflldlhabDoor.Fl
open Ieee

theorem cut_err (neg : Bool) (n drop : Nat) : 2 * (Toward.even.cut neg n drop * 2 ^ drop) ≤ 2 * n + 2 ^ drop ∧ 2 * n ≤ 2 * (Toward.even.cut neg n drop * 2 ^ drop) + 2 ^ drop := by
  unfold Toward.cut
  dsimp only
  by_cases hd : drop ≤ n.log2 + 2
  · rw [Nat.min_eq_left hd, Nat.one_shiftLeft]
    have hp := Nat.two_pow_pos drop
    have hdm := Nat.div_add_mod n (2 ^ drop)
    have hm := Nat.mod_lt n hp
    generalize 2 ^ drop = g at *
    generalize n / g = q at *
    generalize n % g = t at *
    have e1 : (q + 1) * g = g * q + g := by rw [Nat.add_mul, Nat.one_mul, Nat.mul_comm]
    have e0 : (q + 0) * g = g * q := by rw [Nat.add_zero, Nat.mul_comm]
    by_cases c1 : g < 2 * t
    · have : (decide (g < 2 * t) || (g == 2 * t && q % 2 == 1)).toNat = 1 := by simp [c1]
      rw [this, e1]; omega
    · by_cases c2 : g = 2 * t
      · by_cases c3 : q % 2 = 1
        · have : (decide (g < 2 * t) || (g == 2 * t && q % 2 == 1)).toNat = 1 := by simp [c2, c3]
          rw [this, e1]; omega
        · have : (decide (g < 2 * t) || (g == 2 * t && q % 2 == 1)).toNat = 0 := by simp [c2, c3]
          rw [this, e0]; omega
      · have : (decide (g < 2 * t) || (g == 2 * t && q % 2 == 1)).toNat = 0 := by simp [c1, c2]
        rw [this, e0]; omega
  · rw [Nat.min_eq_right (by omega), Nat.one_shiftLeft]
    have hlt : n < 2 ^ (n.log2 + 1) := Nat.lt_log2_self
    have e : 2 ^ (n.log2 + 2) = 2 * 2 ^ (n.log2 + 1) := by rw [Nat.pow_succ 2 (n.log2 + 1)]; omega
    have e2 : 2 ^ (n.log2 + 2) ≤ 2 ^ drop := Nat.pow_le_pow_right (by omega) (by omega)
    rw [e] at e2 ⊢
    generalize 2 ^ (n.log2 + 1) = g at *
    rw [Nat.div_eq_of_lt (by omega), Nat.mod_eq_of_lt (by omega)]
    have : (decide (2 * g < 2 * n) || (2 * g == 2 * n && 0 % 2 == 1)).toNat = 0 := by simp; omega
    rw [this]
    omega

theorem vmag_kept (f : Format) (q kept : Nat) (h1 : q = 0 ∨ f.binade ≤ kept) (h2 : kept ≤ 2 * f.binade) : vmag f (q * f.binade + kept) = kept * 2 ^ q := by
  have hb := binade_pos f
  unfold vmag
  by_cases h : q * f.binade + kept < f.binade
  · rw [if_pos h]
    have : q = 0 := by
      rcases h1 with h1 | h1
      · exact h1
      · omega
    subst this; simp
  · rw [if_neg h]
    have h3 : f.binade ≤ kept := by
      rcases h1 with h1 | h1
      · subst h1; omega
      · exact h1
    by_cases h4 : kept = 2 * f.binade
    · have e : q * f.binade + kept = f.binade * (q + 2) := by rw [h4, Nat.mul_add, Nat.mul_comm]; omega
      rw [e, Nat.mul_mod_right, Nat.mul_div_cancel_left _ hb, h4, show q + 2 - 1 = q + 1 by omega, Nat.pow_succ, Nat.add_zero, Nat.mul_comm 2 f.binade, Nat.mul_assoc, Nat.mul_comm 2]
    · have e : q * f.binade + kept = f.binade * (q + 1) + (kept - f.binade) := by rw [Nat.mul_add, Nat.mul_comm q]; omega
      rw [e, Nat.mul_add_mod, Nat.mul_add_div hb, Nat.mod_eq_of_lt (by omega), Nat.div_eq_of_lt (by omega)]
      rw [show f.binade + (kept - f.binade) = kept by omega, show q + 1 + 0 - 1 = q by omega]

theorem cut_exact (neg : Bool) (K d : Nat) : Toward.even.cut neg (K * 2 ^ d) d = K := by
  have h1 := cut_le neg (K * 2 ^ d) d K (Nat.le_refl _)
  have h2 := (cut_err neg (K * 2 ^ d) d).2
  have hp := Nat.two_pow_pos d
  generalize Toward.even.cut neg (K * 2 ^ d) d = c at *
  rcases Nat.lt_or_ge c K with h | h
  · have h3 : (c + 1) * 2 ^ d ≤ K * 2 ^ d := Nat.mul_le_mul_right _ h
    rw [Nat.add_mul, Nat.one_mul] at h3
    omega
  · omega

/-- A rung's digits and place. -/
theorem vmag_split (f : Format) (r : Nat) : ∃ q K, r = q * f.binade + K ∧ K < 2 * f.binade ∧ (q = 0 ∨ f.binade ≤ K) ∧ vmag f r = K * 2 ^ q := by
  have hb := binade_pos f
  by_cases h : r < f.binade
  · exact ⟨0, r, by simp, by omega, .inl rfl, by unfold vmag; rw [if_pos h]; simp⟩
  · have hd := Nat.div_add_mod r f.binade
    have hm := Nat.mod_lt r hb
    have hq : 1 ≤ r / f.binade := (Nat.le_div_iff_mul_le hb).2 (by omega)
    refine ⟨r / f.binade - 1, f.binade + r % f.binade, ?_, by omega, .inr (by omega), by unfold vmag; rw [if_neg h]⟩
    have e : f.binade * (r / f.binade) = (r / f.binade - 1) * f.binade + f.binade := by
      rw [Nat.mul_comm]
      generalize r / f.binade = q at *
      obtain ⟨p, rfl⟩ : ∃ p, q = p + 1 := ⟨q - 1, by omega⟩
      rw [Nat.add_mul, Nat.one_mul, Nat.add_sub_cancel]
    omega

/-- What the format holds is rounded to itself. -/
theorem rnd_exact (f : Format) (neg : Bool) (mag : Nat) (place : Int) (r : Nat) (hr : r < f.infRung) (U : Int) (hU1 : U ≤ place) (hU2 : U ≤ f.leastPlace)
    (h : mag * 2 ^ (place - U).toNat = vmag f r * 2 ^ (f.leastPlace - U).toNat) : rndRung f neg mag place = r := by
  unfold rndRung
  dsimp only
  by_cases h0 : mag = 0
  · rw [if_pos h0]
    subst h0
    rcases Nat.eq_zero_or_pos r with e | e
    · exact e.symm
    · have h1 := vmag_lt f e
      rw [vmag_zero] at h1
      have h2 := Nat.mul_pos h1 (Nat.two_pow_pos (f.leastPlace - U).toNat)
      omega
  · rw [if_neg h0]
    obtain ⟨q, K, e, hK, hq, hv⟩ := vmag_split f r
    have hl := log2_bounds h0
    have hbin : f.binade = 2 ^ f.fractionBits := rfl
    rw [hv, Nat.mul_assoc, ← Nat.pow_add] at h
    have hlast : max (place + (mag.log2 : Int) - f.fractionBits) f.leastPlace = f.leastPlace + q := by
      have g1 : 2 ^ (mag.log2 + (place - U).toNat) ≤ K * 2 ^ (q + (f.leastPlace - U).toNat) := by
        rw [Nat.pow_add, ← h]; exact Nat.mul_le_mul_right _ hl.1
      have g2 : K * 2 ^ (q + (f.leastPlace - U).toNat) < 2 ^ (mag.log2 + 1 + (place - U).toNat) := by
        rw [Nat.pow_add 2 (mag.log2 + 1), ← h]; exact Nat.mul_lt_mul_of_pos_right hl.2 (Nat.two_pow_pos _)
      by_cases c : f.binade ≤ K
      · have g3 : 2 ^ (f.fractionBits + (q + (f.leastPlace - U).toNat)) ≤ K * 2 ^ (q + (f.leastPlace - U).toNat) := by
          rw [Nat.pow_add, ← hbin]; exact Nat.mul_le_mul_right _ c
        have g4 : K * 2 ^ (q + (f.leastPlace - U).toNat) < 2 ^ (f.fractionBits + 1 + (q + (f.leastPlace - U).toNat)) := by
          rw [Nat.pow_add 2 (f.fractionBits + 1), Nat.pow_succ, ← hbin, Nat.mul_comm f.binade 2]; exact Nat.mul_lt_mul_of_pos_right hK (Nat.two_pow_pos _)
        have i1 := (Nat.pow_lt_pow_iff_right (a := 2) (by omega)).1 (Nat.lt_of_le_of_lt g1 g4)
        have i2 := (Nat.pow_lt_pow_iff_right (a := 2) (by omega)).1 (Nat.lt_of_le_of_lt g3 g2)
        omega
      · have hq0 : q = 0 := by
          rcases hq with h | h
          · exact h
          · exact absurd h c
        have g4 : K * 2 ^ (q + (f.leastPlace - U).toNat) < 2 ^ (f.fractionBits + (q + (f.leastPlace - U).toNat)) := by
          rw [Nat.pow_add 2 f.fractionBits, ← hbin]; exact Nat.mul_lt_mul_of_pos_right (by omega) (Nat.two_pow_pos _)
        have i1 := (Nat.pow_lt_pow_iff_right (a := 2) (by omega)).1 (Nat.lt_of_le_of_lt g1 g4)
        omega
    rw [hlast]
    have hcut : Toward.even.cut neg (mag <<< (place - (f.leastPlace + q)).toNat) ((f.leastPlace + q) - place).toNat = K := by
      rw [Nat.shiftLeft_eq]
      by_cases c : place ≤ f.leastPlace + q
      · have e1 : (place - (f.leastPlace + q)).toNat = 0 := by omega
        have e2 : q + (f.leastPlace - U).toNat = ((f.leastPlace + q) - place).toNat + (place - U).toNat := by omega
        rw [e2, Nat.pow_add, ← Nat.mul_assoc] at h
        have h2 := Nat.eq_of_mul_eq_mul_right (Nat.two_pow_pos _) h
        rw [e1, Nat.pow_zero, Nat.mul_one, h2, cut_exact]
      · have e1 : ((f.leastPlace + q) - place).toNat = 0 := by omega
        have e2 : (place - U).toNat = (place - (f.leastPlace + q)).toNat + (q + (f.leastPlace - U).toNat) := by omega
        rw [e2, Nat.pow_add, ← Nat.mul_assoc] at h
        have h2 := Nat.eq_of_mul_eq_mul_right (Nat.two_pow_pos _) h
        rw [e1, h2]
        have := cut_exact neg K 0
        rw [Nat.pow_zero, Nat.mul_one] at this
        exact this
    rw [hcut, show (f.leastPlace + (q : Int) - f.leastPlace).toNat = q by omega, ← e]
    exact Nat.min_eq_left (by omega)

theorem encode_exact (k : FloatKind) (s : Bool) (mag : Nat) (place : Int) (r : Nat) (hr : r < k.format.infRung) (U : Int) (hU1 : U ≤ place) (hU2 : U ≤ k.format.leastPlace)
    (h : mag * 2 ^ (place - U).toNat = vmag k.format r * 2 ^ (k.format.leastPlace - U).toNat) : k.encode (.number s mag place) = k.format.word s r := by
  unfold FloatKind.encode Format.write
  show k.format.nearest s mag place = _
  rw [nearest_word, rnd_exact k.format s mag place r hr U hU1 hU2 h]

theorem word_self32 (a : Nat) (ha : a < 4294967296) : FloatKind.f32.format.word (sgn .f32 a) (rung .f32 a) = a := by
  have h := bits_of32 a ha
  unfold Format.word
  rw [weight32]
  exact h.symm

theorem lp32 : FloatKind.f32.format.leastPlace = -149 := by decide
theorem lp64 : FloatKind.f64.format.leastPlace = -1074 := by decide
theorem bin32 : FloatKind.f32.format.binade = 8388608 := by decide
theorem bin64 : FloatKind.f64.format.binade = 4503599627370496 := by decide
theorem inf32r : FloatKind.f32.format.infRung = 2139095040 := by decide +kernel
theorem inf64r : FloatKind.f64.format.infRung = 9218868437227405312 := by decide +kernel

/-- The rung of float64 that has the value of a rung of float32. -/
theorem wide_rung (r : Nat) (hr : r < 2139095040) (G : Nat) (hG : G = 925) : ∃ R, R < FloatKind.f64.format.infRung ∧ vmag FloatKind.f64.format R = vmag FloatKind.f32.format r * 2 ^ G := by
  obtain ⟨q, K, e, hK, hq, hv⟩ := vmag_split FloatKind.f32.format r
  rw [bin32] at e hK
  rw [hv]
  by_cases h0 : K = 0
  · subst h0
    exact ⟨0, by decide +kernel, by rw [vmag_zero, Nat.zero_mul, Nat.zero_mul]⟩
  · have hl := log2_bounds h0
    have hL : K.log2 ≤ 23 := by
      have h1 : 2 ^ K.log2 < 2 ^ 24 := Nat.lt_of_le_of_lt hl.1 (by omega)
      have := (Nat.pow_lt_pow_iff_right (a := 2) (by omega)).1 h1
      omega
    generalize K.log2 = L at *
    have h52 : 2 ^ L * 2 ^ (52 - L) = 4503599627370496 := by rw [← Nat.pow_add, show L + (52 - L) = 52 by omega]
    have k1 : 4503599627370496 ≤ K * 2 ^ (52 - L) := by rw [← h52]; exact Nat.mul_le_mul_right _ hl.1
    have k2 : K * 2 ^ (52 - L) < 9007199254740992 := by
      have h3 : K * 2 ^ (52 - L) < 2 ^ (L + 1) * 2 ^ (52 - L) := Nat.mul_lt_mul_of_pos_right hl.2 (Nat.two_pow_pos _)
      rw [Nat.pow_succ, Nat.mul_comm (2 ^ L) 2, Nat.mul_assoc, h52] at h3
      exact h3
    have hq2 : q ≤ 254 := by omega
    refine ⟨(q + L + 873) * FloatKind.f64.format.binade + K * 2 ^ (52 - L), ?_, ?_⟩
    · rw [bin64, inf64r]
      omega
    · rw [vmag_kept _ _ _ (.inr (by rw [bin64]; exact k1)) (by rw [bin64]; omega), Nat.mul_assoc, Nat.mul_assoc, ← Nat.pow_add, ← Nat.pow_add]
      exact congrArg (fun e => K * 2 ^ e) (by omega)

theorem back (a : Nat) (ha : a < 4294967296) (h : nan .f32 a = false) : ∃ r, floatToFloatBits .f32 a .f64 = some r ∧ nan .f64 r = false ∧ floatToFloatBits .f64 r .f32 = some a := by
  have ha' : rung .f32 a ≤ FloatKind.f32.format.infRung := by simpa [nan] using h
  rw [inf32r] at ha'
  have hself := word_self32 a ha
  by_cases hi : rung .f32 a = FloatKind.f32.format.infRung
  · have e : FloatKind.f32.decode a = .infinity (sgn .f32 a) := read_inf .f32 a hi
    rw [hi] at hself
    generalize sgn .f32 a = s at *
    refine ⟨FloatKind.f64.encode (.infinity s), ?_, ?_, ?_⟩
    · unfold floatToFloatBits
      rw [if_neg (by decide), e]
    · cases s <;> decide +kernel
    · have e2 : FloatKind.f64.decode (FloatKind.f64.encode (.infinity s)) = .infinity s := by cases s <;> decide +kernel
      unfold floatToFloatBits
      rw [if_neg (by decide), e2]
      exact congrArg some hself
  · have hlt : rung .f32 a < FloatKind.f32.format.infRung := by rw [inf32r] at hi ⊢; omega
    obtain ⟨m, d, e1, v1, _, _⟩ := read_number .f32 a hlt
    obtain ⟨G, hG⟩ : ∃ G : Nat, G = 925 := ⟨_, rfl⟩
    obtain ⟨R, hR, hv⟩ := wide_rung (rung .f32 a) (by rw [inf32r] at hlt; exact hlt) G hG
    have e1' : FloatKind.f32.decode a = .number (sgn .f32 a) m (FloatKind.f32.format.leastPlace + (d : Nat)) := e1
    rw [lp32] at e1'
    have w1 : FloatKind.f64.encode (.number (sgn .f32 a) m (-149 + (d : Nat))) = FloatKind.f64.format.word (sgn .f32 a) R := by
      refine encode_exact .f64 _ _ _ R hR (-1074) (by omega) (by rw [lp64]; omega) ?_
      rw [lp64, hv, ← v1, show ((-149 : Int) + (d : Nat) - -1074).toNat = d + G by omega, show ((-1074 : Int) - -1074).toNat = 0 by omega, Nat.pow_zero, Nat.mul_one, Nat.pow_add, Nat.mul_assoc]
    have hsw : R < FloatKind.f64.format.signWeight := by rw [weight64]; rw [inf64r] at hR; omega
    obtain ⟨g1, g2⟩ := word_rung .f64 (sgn .f32 a) R hsw
    obtain ⟨m', d', e2, v2, _, _⟩ := read_number .f64 (FloatKind.f64.format.word (sgn .f32 a) R) (by rw [g1]; exact hR)
    rw [g1, hv] at v2
    rw [g2, lp64] at e2
    have e2' : FloatKind.f64.decode (FloatKind.f64.format.word (sgn .f32 a) R) = .number (sgn .f32 a) m' (-1074 + (d' : Nat)) := e2
    have w2 : FloatKind.f32.encode (.number (sgn .f32 a) m' (-1074 + (d' : Nat))) = a := by
      rw [encode_exact .f32 _ _ _ (rung .f32 a) hlt (-1074) (by omega) (by rw [lp32]; omega) ?_]
      · exact hself
      · rw [lp32, show ((-149 : Int) - -1074).toNat = G by omega, ← v2]
        exact congrArg (fun e => m' * 2 ^ e) (by omega)
    refine ⟨FloatKind.f64.format.word (sgn .f32 a) R, ?_, ?_, ?_⟩
    · unfold floatToFloatBits
      rw [if_neg (by decide), e1']
      dsimp only
      rw [w1, e2']
      rfl
    · unfold nan
      rw [g1]
      simp
      omega
    · unfold floatToFloatBits
      rw [if_neg (by decide), e2']
      dsimp only
      rw [w2, e1']
      rfl

end Go.Proofs.YtaingnnflldlhabDoor.Fl
