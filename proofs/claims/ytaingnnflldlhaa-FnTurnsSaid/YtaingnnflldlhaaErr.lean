/- How far rounding moves a number of float64. No program in sight, no condition. -/
import Derived.Test.YtaingnnflldlhaaFast
namespace Go.Proofs.Ytaingnnflldlhaa.Fl
open Ieee

theorem cut_err (neg : Bool) (n drop : Nat) : 2 * (Toward.even.cut neg n drop * 2 ^ drop) ≤ 2 * n + 2 ^ drop ∧ 2 * n ≤ 2 * (Toward.even.cut neg n drop * 2 ^ drop) + 2 ^ drop := by
  unfold Toward.cut
  dsimp only
  by_cases hd : drop ≤ n.log2 + 2
  · rw [Nat.min_eq_left hd, Nat.one_shiftLeft]
    have hp := Nat.two_pow_pos drop
    have hdm := Nat.div_add_mod n (2 ^ drop)
    have hm := Nat.mod_lt n hp
    generalize 2 ^ drop = g at *
    generalize n / g = q at *
    generalize n % g = t at *
    have e1 : (q + 1) * g = g * q + g := by rw [Nat.add_mul, Nat.one_mul, Nat.mul_comm]
    have e0 : (q + 0) * g = g * q := by rw [Nat.add_zero, Nat.mul_comm]
    by_cases c1 : g < 2 * t
    · have : (decide (g < 2 * t) || (g == 2 * t && q % 2 == 1)).toNat = 1 := by simp [c1]
      rw [this, e1]; omega
    · by_cases c2 : g = 2 * t
      · by_cases c3 : q % 2 = 1
        · have : (decide (g < 2 * t) || (g == 2 * t && q % 2 == 1)).toNat = 1 := by simp [c2, c3]
          rw [this, e1]; omega
        · have : (decide (g < 2 * t) || (g == 2 * t && q % 2 == 1)).toNat = 0 := by simp [c2, c3]
          rw [this, e0]; omega
      · have : (decide (g < 2 * t) || (g == 2 * t && q % 2 == 1)).toNat = 0 := by simp [c1, c2]
        rw [this, e0]; omega
  · rw [Nat.min_eq_right (by omega), Nat.one_shiftLeft]
    have hlt : n < 2 ^ (n.log2 + 1) := Nat.lt_log2_self
    have e : 2 ^ (n.log2 + 2) = 2 * 2 ^ (n.log2 + 1) := by rw [Nat.pow_succ 2 (n.log2 + 1)]; omega
    have e2 : 2 ^ (n.log2 + 2) ≤ 2 ^ drop := Nat.pow_le_pow_right (by omega) (by omega)
    rw [e] at e2 ⊢
    generalize 2 ^ (n.log2 + 1) = g at *
    rw [Nat.div_eq_of_lt (by omega), Nat.mod_eq_of_lt (by omega)]
    have : (decide (2 * g < 2 * n) || (2 * g == 2 * n && 0 % 2 == 1)).toNat = 0 := by simp; omega
    rw [this]
    omega

theorem vmag_kept (f : Format) (q kept : Nat) (h1 : q = 0 ∨ f.binade ≤ kept) (h2 : kept ≤ 2 * f.binade) : vmag f (q * f.binade + kept) = kept * 2 ^ q := by
  have hb := binade_pos f
  unfold vmag
  by_cases h : q * f.binade + kept < f.binade
  · rw [if_pos h]
    have : q = 0 := by
      rcases h1 with h1 | h1
      · exact h1
      · omega
    subst this; simp
  · rw [if_neg h]
    have h3 : f.binade ≤ kept := by
      rcases h1 with h1 | h1
      · subst h1; omega
      · exact h1
    by_cases h4 : kept = 2 * f.binade
    · have e : q * f.binade + kept = f.binade * (q + 2) := by rw [h4, Nat.mul_add, Nat.mul_comm]; omega
      rw [e, Nat.mul_mod_right, Nat.mul_div_cancel_left _ hb, h4, show q + 2 - 1 = q + 1 by omega, Nat.pow_succ, Nat.add_zero, Nat.mul_comm 2 f.binade, Nat.mul_assoc, Nat.mul_comm 2]
    · have e : q * f.binade + kept = f.binade * (q + 1) + (kept - f.binade) := by rw [Nat.mul_add, Nat.mul_comm q]; omega
      rw [e, Nat.mul_add_mod, Nat.mul_add_div hb, Nat.mod_eq_of_lt (by omega), Nat.div_eq_of_lt (by omega)]
      rw [show f.binade + (kept - f.binade) = kept by omega, show q + 1 + 0 - 1 = q by omega]

theorem rnd_err (f : Format) (neg : Bool) (mag : Nat) (place F U : Int) (hF : f.leastPlace + f.fractionBits + 1 ≤ F) (ht : topRung f F < f.infRung) (h : leP mag place F) (h1 : U ≤ place) (h2 : U ≤ f.leastPlace) :
    2 * (vmag f (rndRung f neg mag place) * 2 ^ (f.leastPlace - U).toNat) ≤ 2 * (mag * 2 ^ (place - U).toNat) + 2 ^ (F - f.fractionBits - U).toNat ∧
    2 * (mag * 2 ^ (place - U).toNat) ≤ 2 * (vmag f (rndRung f neg mag place) * 2 ^ (f.leastPlace - U).toNat) + 2 ^ (F - f.fractionBits - U).toNat := by
  have hr := rndRung_le f neg mag place F hF h
  revert hr
  unfold rndRung
  dsimp only
  by_cases h0 : mag = 0
  · intro _
    rw [if_pos h0, h0, vmag_zero]; simp
  rw [if_neg h0]
  intro hr
  obtain ⟨hp, hm⟩ : place ≤ F ∧ mag ≤ 2 ^ (F - place).toNat := by
    rcases h with h | h
    · exact absurd h h0
    · exact h
  have hl := log2_bounds h0
  have hlj : mag.log2 ≤ (F - place).toNat := by
    have h1 : 2 ^ mag.log2 ≤ 2 ^ (F - place).toNat := Nat.le_trans hl.1 hm
    exact (Nat.pow_le_pow_iff_right (by omega)).1 h1
  have hlast1 : f.leastPlace ≤ max (place + (mag.log2 : Int) - f.fractionBits) f.leastPlace := by omega
  have hlast2 : max (place + (mag.log2 : Int) - f.fractionBits) f.leastPlace ≤ F - f.fractionBits := by omega
  have hlast3 : place + (mag.log2 : Int) - f.fractionBits ≤ max (place + (mag.log2 : Int) - f.fractionBits) f.leastPlace := by omega
  have hlast4 : max (place + (mag.log2 : Int) - f.fractionBits) f.leastPlace = f.leastPlace ∨ max (place + (mag.log2 : Int) - f.fractionBits) f.leastPlace = place + (mag.log2 : Int) - f.fractionBits := by omega
  generalize max (place + (mag.log2 : Int) - f.fractionBits) f.leastPlace = last at *
  have hbin : f.binade = 2 ^ f.fractionBits := rfl
  have c1 := cut_err neg (mag <<< (place - last).toNat) (last - place).toNat
  have c2 : Toward.even.cut neg (mag <<< (place - last).toNat) (last - place).toNat ≤ 2 * f.binade := by
    apply cut_le
    rw [Nat.shiftLeft_eq, hbin]
    have h1 : mag ≤ 2 ^ (mag.log2 + 1) := Nat.le_of_lt hl.2
    refine Nat.le_trans (Nat.mul_le_mul_right _ h1) ?_
    rw [show 2 * 2 ^ f.fractionBits = 2 ^ (f.fractionBits + 1) by rw [Nat.pow_succ]; omega, ← Nat.pow_add, ← Nat.pow_add]
    exact Nat.pow_le_pow_right (by omega) (by omega)
  have c3 : (last - f.leastPlace).toNat = 0 ∨ f.binade ≤ Toward.even.cut neg (mag <<< (place - last).toNat) (last - place).toNat := by
    rcases hlast4 with h4 | h4
    · left; omega
    · right
      apply cut_ge
      rw [Nat.shiftLeft_eq, hbin]
      refine Nat.le_trans ?_ (Nat.mul_le_mul_right _ hl.1)
      rw [← Nat.pow_add, ← Nat.pow_add]
      exact Nat.pow_le_pow_right (by omega) (by omega)
  rw [Nat.shiftLeft_eq] at c1 c2 c3 hr ⊢
  generalize Toward.even.cut neg (mag * 2 ^ (place - last).toNat) (last - place).toNat = kept at *
  have hmin : min ((last - f.leastPlace).toNat * f.binade + kept) f.infRung = (last - f.leastPlace).toNat * f.binade + kept := by omega
  rw [hmin, vmag_kept f _ kept c3 c2]
  have e1 : kept * 2 ^ (last - f.leastPlace).toNat * 2 ^ (f.leastPlace - U).toNat = kept * 2 ^ (last - place).toNat * 2 ^ (min last place - U).toNat := by
    rw [Nat.mul_assoc, Nat.mul_assoc, ← Nat.pow_add, ← Nat.pow_add]; congr 2; omega
  have e2 : mag * 2 ^ (place - U).toNat = mag * 2 ^ (place - last).toNat * 2 ^ (min last place - U).toNat := by
    rw [Nat.mul_assoc, ← Nat.pow_add]; congr 2; omega
  have e3 : 2 ^ (last - place).toNat * 2 ^ (min last place - U).toNat ≤ 2 ^ (F - f.fractionBits - U).toNat := by
    rw [← Nat.pow_add]; exact Nat.pow_le_pow_right (by omega) (by omega)
  rw [e1, e2]
  generalize 2 ^ (min last place - U).toNat = g at *
  generalize 2 ^ (last - place).toNat = w at *
  generalize mag * 2 ^ (place - last).toNat = M at *
  have d1 := Nat.mul_le_mul_right g c1.1
  have d2 := Nat.mul_le_mul_right g c1.2
  rw [Nat.add_mul, Nat.mul_assoc 2 (kept * w) g, Nat.mul_assoc 2 M g] at d1 d2
  constructor <;> omega

/-- What is written of a bounded number is near it. -/
theorem enc_err (s : Bool) (m : Nat) (e F U : Int) (hF : -1000 ≤ F) (hF' : F ≤ 1022) (h : leP m e F) (h1 : U ≤ e) (h2 : U ≤ -1074) :
    2 * (ival .f64 (FloatKind.f64.encode (.number s m e)) * ((2 ^ (-1074 - U).toNat : Nat) : Int)) ≤ 2 * (if s then -((m * 2 ^ (e - U).toNat : Nat) : Int) else ((m * 2 ^ (e - U).toNat : Nat) : Int)) + ((2 ^ (F - 52 - U).toNat : Nat) : Int) ∧
    2 * (if s then -((m * 2 ^ (e - U).toNat : Nat) : Int) else ((m * 2 ^ (e - U).toNat : Nat) : Int)) ≤ 2 * (ival .f64 (FloatKind.f64.encode (.number s m e)) * ((2 ^ (-1074 - U).toNat : Nat) : Int)) + ((2 ^ (F - 52 - U).toNat : Nat) : Int) := by
  have r := rnd_err FloatKind.f64.format s m e F U (by rw [lp64, frac64]; omega) (topRung_lt64 F hF') h h1 (by rw [lp64]; exact h2)
  rw [lp64, frac64] at r
  have hv : ival .f64 (FloatKind.f64.encode (.number s m e)) = if s then -((vmag FloatKind.f64.format (rndRung FloatKind.f64.format s m e) : Nat) : Int) else ((vmag FloatKind.f64.format (rndRung FloatKind.f64.format s m e) : Nat) : Int) := by
    unfold ival
    rw [encode_sgn]
    rw [show FloatKind.f64.encode (.number s m e) = FloatKind.f64.format.nearest s m e from rfl, nearest_word]
    have h1 := rndRung_inf FloatKind.f64.format s m e
    have h2 := FloatKind.f64.format.infRung_lt
    rw [(word_rung .f64 s _ (by omega)).1]
  rw [hv]
  generalize vmag FloatKind.f64.format (rndRung FloatKind.f64.format s m e) = v at *
  rw [show ((52 : Nat) : Int) = 52 from rfl] at r
  generalize 2 ^ (-1074 - U).toNat = g at *
  generalize 2 ^ (F - 52 - U).toNat = w at *
  generalize m * 2 ^ (e - U).toNat = M at *
  cases s
  · simp only [Bool.false_eq_true, if_false]
    rw [← Int.natCast_mul]
    omega
  · simp only [if_true]
    rw [Int.neg_mul, ← Int.natCast_mul]
    omega

/-- Near: twice the distance is at most the bound. -/
def Near (a b : Int) (w : Nat) : Prop := 2 * a ≤ 2 * b + w ∧ 2 * b ≤ 2 * a + w

theorem near_scale {a b : Int} {w g : Nat} (hg : 0 < g) (h : Near (a * (g : Int)) (b * (g : Int)) (w * g)) : Near a b w := by
  obtain ⟨h1, h2⟩ := h
  have hp : (0 : Int) < (g : Int) := by omega
  rw [Int.natCast_mul] at h1 h2
  constructor
  · refine Int.le_of_mul_le_mul_right ?_ hp
    rw [Int.add_mul, Int.mul_assoc, Int.mul_assoc]; exact h1
  · refine Int.le_of_mul_le_mul_right ?_ hp
    rw [Int.add_mul, Int.mul_assoc, Int.mul_assoc]; exact h2

/-- A product. -/
theorem fm_err {x y : Nat} {E F : Int} (hx : Num x E) (hy : Num y F) (h1 : -60 ≤ E) (h2 : -60 ≤ F) (h3 : E + F ≤ 1022) :
    Near (ival .f64 (fm x y) * ((2 ^ 1074 : Nat) : Int)) (ival .f64 x * ival .f64 y) (2 ^ (E + F + 2096).toNat) := by
  obtain ⟨m, i, e1, p1⟩ := read_le .f64 x E (by omega) hx.fin hx.le
  obtain ⟨n, j, e2, p2⟩ := read_le .f64 y F (by omega) hy.fin hy.le
  obtain ⟨m', d, e1', v1, _, _⟩ := read_number .f64 x hx.fin
  obtain ⟨n', c, e2', v2, _, _⟩ := read_number .f64 y hy.fin
  rw [e1'] at e1
  rw [e2'] at e2
  injection e1 with _ a1 a2
  injection e2 with _ b1 b2
  subst a1 a2 b1 b2
  have hr : fm x y = FloatKind.f64.encode (.number (sgn .f64 x ^^ sgn .f64 y) (m' * n') (FloatKind.f64.format.leastPlace + (d : Nat) + (FloatKind.f64.format.leastPlace + (c : Nat)))) := by
    unfold fm floatBits Format.mul
    rw [e1', e2']; rfl
  have q := enc_err (sgn .f64 x ^^ sgn .f64 y) (m' * n') (FloatKind.f64.format.leastPlace + (d : Nat) + (FloatKind.f64.format.leastPlace + (c : Nat))) (E + F) (-2148) (by omega) h3 (leP_mul p1 p2) (by rw [lp64]; omega) (by omega)
  rw [← hr] at q
  have ev : m' * n' * 2 ^ (FloatKind.f64.format.leastPlace + (d : Nat) + (FloatKind.f64.format.leastPlace + (c : Nat)) - (-2148)).toNat = vmag FloatKind.f64.format (rung .f64 x) * vmag FloatKind.f64.format (rung .f64 y) := by
    rw [← v1, ← v2, Nat.mul_mul_mul_comm, ← Nat.pow_add, lp64]
    congr 2; omega
  have et : (if (sgn .f64 x ^^ sgn .f64 y) = true then -((m' * n' * 2 ^ (FloatKind.f64.format.leastPlace + (d : Nat) + (FloatKind.f64.format.leastPlace + (c : Nat)) - (-2148)).toNat : Nat) : Int) else ((m' * n' * 2 ^ (FloatKind.f64.format.leastPlace + (d : Nat) + (FloatKind.f64.format.leastPlace + (c : Nat)) - (-2148)).toNat : Nat) : Int)) = ival .f64 x * ival .f64 y := by
    rw [ev]
    unfold ival
    rw [Int.natCast_mul]
    cases sgn .f64 x <;> cases sgn .f64 y <;> simp [Int.neg_mul, Int.mul_neg]
  rw [et, show (-1074 - -2148 : Int).toNat = 1074 from rfl, show (E + F - 52 - -2148).toNat = (E + F + 2096).toNat by congr 1; omega] at q
  exact q

theorem signed_ival (x : Nat) (m d t : Nat) (h : t ≤ d) (v : m * 2 ^ d = vmag FloatKind.f64.format (rung .f64 x)) : signed (sgn .f64 x) m (d - t) * ((2 ^ t : Nat) : Int) = ival .f64 x := by
  have hv : vmag FloatKind.f64.format (rung .f64 x) = m * 2 ^ (d - t) * 2 ^ t := by rw [← v, Nat.mul_assoc, ← Nat.pow_add, Nat.sub_add_cancel h]
  rw [signed_eq]
  unfold ival
  rw [hv]
  cases sgn .f64 x <;> simp [Int.neg_mul]

theorem signed_not (s : Bool) (m n : Nat) : signed (!s) m n = -signed s m n := by
  unfold signed
  cases s <;> simp

theorem sum_err (s t : Bool) (m n : Nat) (d c : Nat) (A B : Int) (hA : ∀ l, l ≤ d → signed s m (d - l) * ((2 ^ l : Nat) : Int) = A) (hB : ∀ l, l ≤ c → signed t n (c - l) * ((2 ^ l : Nat) : Int) = B) (E : Int) (hE : -60 ≤ E) (hE' : E ≤ 1021)
    (p1 : leP m (-1074 + (d : Nat)) E) (p2 : leP n (-1074 + (c : Nat)) E) :
    ∃ z, Datum.sum (.number s m (-1074 + (d : Nat))) (.number t n (-1074 + (c : Nat))) = some z ∧ Near (ival .f64 (FloatKind.f64.encode z)) (A + B) (2 ^ (E + 1023).toNat) := by
  obtain ⟨u, v, base, e3, p3⟩ := sum_le s t m n _ _ E p1 p2
  refine ⟨_, e3, ?_⟩
  have e4 := e3
  simp only [Datum.sum] at e4
  have hmin : min (-1074 + (d : Int)) (-1074 + (c : Int)) = -1074 + ((min d c : Nat) : Int) := by omega
  rw [hmin, show (-1074 + (d : Int) - (-1074 + ((min d c : Nat) : Int))).toNat = d - min d c by omega, show (-1074 + (c : Int) - (-1074 + ((min d c : Nat) : Int))).toNat = c - min d c by omega] at e4
  have a := hA (min d c) (by omega)
  have b := hB (min d c) (by omega)
  injection e4 with e4
  injection e4 with e5 e6 e7
  generalize signed s m (d - min d c) = S at *
  generalize signed t n (c - min d c) = T at *
  subst e7
  have q := enc_err u v (-1074 + ((min d c : Nat) : Int)) (E + 1) (-1074) (by omega) (by omega) p3 (by omega) (by omega)
  rw [show (-1074 + ((min d c : Nat) : Int) - -1074).toNat = min d c by omega, show (-1074 - -1074 : Int).toNat = 0 from rfl, show (E + 1 - 52 - -1074).toNat = (E + 1023).toNat by congr 1; omega] at q
  have et : (if u = true then -((v * 2 ^ min d c : Nat) : Int) else ((v * 2 ^ min d c : Nat) : Int)) = A + B := by
    rw [← a, ← b, ← Int.add_mul, Int.natCast_mul]
    by_cases hz : S + T = 0
    · have hv : v = 0 := by rw [← e6, hz]; rfl
      rw [hz, hv]; cases u <;> simp
    · rw [if_neg hz] at e5
      by_cases hn : S + T < 0
      · have hu : u = true := by rw [← e5]; simp [hn]
        rw [hu, if_pos rfl, ← Int.neg_mul]
        congr 1; omega
      · have hu : u = false := by rw [← e5]; simp; omega
        rw [hu, if_neg (by decide)]
        congr 1; omega
  rw [et, Nat.pow_zero] at q
  unfold Near
  simp only [Int.natCast_one, Int.mul_one] at q
  exact q

/-- A sum. -/
theorem fa_err {x y : Nat} {E : Int} (hx : Num x E) (hy : Num y E) (h1 : -60 ≤ E) (h3 : E ≤ 1021) :
    Near (ival .f64 (fa x y)) (ival .f64 x + ival .f64 y) (2 ^ (E + 1023).toNat) := by
  obtain ⟨m, i, e1, p1⟩ := read_le .f64 x E (by omega) hx.fin hx.le
  obtain ⟨n, j, e2, p2⟩ := read_le .f64 y E (by omega) hy.fin hy.le
  obtain ⟨m', d, e1', v1, _, _⟩ := read_number .f64 x hx.fin
  obtain ⟨n', c, e2', v2, _, _⟩ := read_number .f64 y hy.fin
  rw [e1'] at e1
  rw [e2'] at e2
  injection e1 with _ a1 a2
  injection e2 with _ b1 b2
  subst a1 a2 b1 b2
  rw [lp64] at e1' e2' p1 p2
  obtain ⟨z, hz, hq⟩ := sum_err (sgn .f64 x) (sgn .f64 y) m' n' d c _ _ (fun l hl => signed_ival x m' d l hl v1) (fun l hl => signed_ival y n' c l hl v2) E h1 h3 p1 p2
  have hr : fa x y = FloatKind.f64.encode z := by
    unfold fa floatBits Format.add
    rw [e1', e2', hz]; rfl
  rw [hr]; exact hq

/-- A difference. -/
theorem fs_err {x y : Nat} {E : Int} (hx : Num x E) (hy : Num y E) (h1 : -60 ≤ E) (h3 : E ≤ 1021) :
    Near (ival .f64 (fs x y)) (ival .f64 x - ival .f64 y) (2 ^ (E + 1023).toNat) := by
  obtain ⟨m, i, e1, p1⟩ := read_le .f64 x E (by omega) hx.fin hx.le
  obtain ⟨n, j, e2, p2⟩ := read_le .f64 y E (by omega) hy.fin hy.le
  obtain ⟨m', d, e1', v1, _, _⟩ := read_number .f64 x hx.fin
  obtain ⟨n', c, e2', v2, _, _⟩ := read_number .f64 y hy.fin
  rw [e1'] at e1
  rw [e2'] at e2
  injection e1 with _ a1 a2
  injection e2 with _ b1 b2
  subst a1 a2 b1 b2
  rw [lp64] at e1' e2' p1 p2
  obtain ⟨z, hz, hq⟩ := sum_err (sgn .f64 x) (!sgn .f64 y) m' n' d c _ (-ival .f64 y) (fun l hl => signed_ival x m' d l hl v1) (fun l hl => by rw [signed_not, Int.neg_mul, signed_ival y n' c l hl v2]) E h1 h3 p1 p2
  have hr : fs x y = FloatKind.f64.encode z := by
    unfold fs floatBits Format.sub
    rw [e1', e2']
    simp only [Datum.opposite]
    rw [hz]; rfl
  rw [hr]; exact hq

end Go.Proofs.Ytaingnnflldlhaa.Fl
