/- The turns depend on the fraction alone, and are mirrored and opposite: the plain function's symmetries. No program in sight. -/
import Derived.Test.YtaingnnflldlhaaTurnDef
namespace Go.Proofs.Ytaingnnflldlhaa.Fl

theorem Red.cop {n k g N K : Nat} (r : Red n k g N K) : N.gcd K = 1 := by
  have h : g * N.gcd K = g * 1 := by rw [← Nat.gcd_mul_left, ← r.nn, ← r.kk, r.gg, Nat.mul_one]
  exact Nat.eq_of_mul_eq_mul_left r.pos h

/-- One fraction has one reduced form. -/
theorem red_unique {n k g N K n' k' g' N' K' : Nat} (r : Red n k g N K) (r' : Red n' k' g' N' K') (hn : 1 ≤ n) (hn' : 1 ≤ n') (h : n * k' = n' * k) : N = N' ∧ K = K' := by
  have c := r.cop
  have c' := r'.cop
  have hN := r.N_pos hn
  have hN' := r'.N_pos hn'
  have e : N * K' = N' * K := by
    have h1 : (g * g') * (N * K') = (g * g') * (N' * K) := by
      have a1 : (g * g') * (N * K') = n * k' := by rw [r.nn, r'.kk, Nat.mul_mul_mul_comm]
      have a2 : (g * g') * (N' * K) = n' * k := by rw [r'.nn, r.kk, Nat.mul_comm g g', Nat.mul_mul_mul_comm]
      rw [a1, a2, h]
    exact Nat.eq_of_mul_eq_mul_left (Nat.mul_pos r.pos r'.pos) h1
  have d1 : N ∣ N' := by
    have h2 : N ∣ N' * K := ⟨K', e.symm⟩
    exact (Nat.Coprime.dvd_of_dvd_mul_right (show Nat.Coprime N K from c) h2)
  have d2 : N' ∣ N := by
    have h2 : N' ∣ N * K' := ⟨K, e⟩
    exact (Nat.Coprime.dvd_of_dvd_mul_right (show Nat.Coprime N' K' from c') h2)
  have eN : N = N' := Nat.dvd_antisymm d1 d2
  refine ⟨eN, ?_⟩
  rw [eN] at e
  exact (Nat.eq_of_mul_eq_mul_left (by omega) e).symm

theorem tA_frac {n k n' k' : Nat} (hn : 1 ≤ n) (hn' : 1 ≤ n') (h : n * k' = n' * k) : tA n k = tA n' k' := by
  obtain ⟨g, N, K, r⟩ := red n k hn
  obtain ⟨g', N', K', r'⟩ := red n' k' hn'
  obtain ⟨e1, e2⟩ := red_unique r r' hn hn' h
  unfold tA
  rw [r.gg, r.NN, r.KK, r'.gg, r'.NN, r'.KK, e1, e2]
theorem tB_frac {n k n' k' : Nat} (hn : 1 ≤ n) (hn' : 1 ≤ n') (h : n * k' = n' * k) : tB n k = tB n' k' := by
  obtain ⟨g, N, K, r⟩ := red n k hn
  obtain ⟨g', N', K', r'⟩ := red n' k' hn'
  obtain ⟨e1, e2⟩ := red_unique r r' hn hn' h
  unfold tB
  rw [r.gg, r.NN, r.KK, r'.gg, r'.NN, r'.KK, e1, e2, tA_frac hn hn' h]
theorem tC_frac {n k n' k' : Nat} (hn : 1 ≤ n) (hn' : 1 ≤ n') (h : n * k' = n' * k) : tC n k = tC n' k' := by
  obtain ⟨g, N, K, r⟩ := red n k hn
  obtain ⟨g', N', K', r'⟩ := red n' k' hn'
  obtain ⟨e1, e2⟩ := red_unique r r' hn hn' h
  unfold tC
  rw [r.gg, r.NN, r.KK, r'.gg, r'.NN, r'.KK, e1, e2, tB_frac hn hn' h]
theorem tD_frac {n k n' k' : Nat} (hn : 1 ≤ n) (hn' : 1 ≤ n') (h : n * k' = n' * k) : tD n k = tD n' k' := by
  obtain ⟨g, N, K, r⟩ := red n k hn
  obtain ⟨g', N', K', r'⟩ := red n' k' hn'
  obtain ⟨e1, e2⟩ := red_unique r r' hn hn' h
  unfold tD
  rw [r.gg, r.NN, r.KK, r'.gg, r'.NN, r'.KK, e1, e2, tC_frac hn hn' h]

theorem Red.cmp {n k g N K a : Nat} (r : Red n k g N K) : n < a * k ↔ N < a * K := by
  have h1 : n < a * k ↔ g * N < g * (a * K) := by rw [← r.nn, Nat.mul_left_comm, ← r.kk]
  rw [h1]
  exact ⟨fun h => Nat.lt_of_mul_lt_mul_left h, fun h => Nat.mul_lt_mul_of_pos_left h r.pos⟩

/-- What the plain functions are, without taking out the common divisor. -/
theorem tB_eq {n k : Nat} (hn : 1 ≤ n) (h4 : 4 * k ≤ n) : tB n k = if n < 8 * k then ((tA (4 * n) (n - 4 * k)).2, (tA (4 * n) (n - 4 * k)).1) else tA n k := by
  obtain ⟨g, N, K, r⟩ := red n k hn
  have hN := r.N_pos hn
  have a := r.le h4
  have e : tA (4 * N) (N - 4 * K) = tA (4 * n) (n - 4 * k) := by
    refine tA_frac (by omega) (by omega) ?_
    have h1 : n - 4 * k = g * (N - 4 * K) := by rw [Nat.mul_sub, ← r.nn, Nat.mul_left_comm, ← r.kk]
    rw [h1]
    rw [r.nn, Nat.mul_assoc, Nat.mul_left_comm N g, Nat.mul_left_comm 4 g N, Nat.mul_assoc g, Nat.mul_assoc 4 N]
    rw [Nat.mul_left_comm 4 g]
  unfold tB
  rw [r.gg, r.NN, r.KK, e]
  by_cases c : n < 8 * k
  · rw [if_pos c, if_pos (r.cmp.1 c)]
  · rw [if_neg c, if_neg (fun h => c (r.cmp.2 h))]
theorem tC_eq {n k : Nat} (hn : 1 ≤ n) (h2 : 2 * k ≤ n) : tC n k = if n < 4 * k then (Op.negFloat .f64 (tB (2 * n) (n - 2 * k)).1, (tB (2 * n) (n - 2 * k)).2) else tB n k := by
  obtain ⟨g, N, K, r⟩ := red n k hn
  have hN := r.N_pos hn
  have a := r.le h2
  have e : tB (2 * N) (N - 2 * K) = tB (2 * n) (n - 2 * k) := by
    refine tB_frac (by omega) (by omega) ?_
    have h1 : n - 2 * k = g * (N - 2 * K) := by rw [Nat.mul_sub, ← r.nn, Nat.mul_left_comm, ← r.kk]
    rw [h1]
    rw [r.nn, Nat.mul_assoc, Nat.mul_left_comm N g, Nat.mul_left_comm 2 g N, Nat.mul_assoc g, Nat.mul_assoc 2 N]
    rw [Nat.mul_left_comm 2 g]
  unfold tC
  rw [r.gg, r.NN, r.KK, e]
  by_cases c : n < 4 * k
  · rw [if_pos c, if_pos (r.cmp.1 c)]
  · rw [if_neg c, if_neg (fun h => c (r.cmp.2 h))]
theorem tD_eq {n k : Nat} (hn : 1 ≤ n) (h1 : k ≤ n) : tD n k = if n < 2 * k then ((tC n (n - k)).1, Op.negFloat .f64 (tC n (n - k)).2) else tC n k := by
  obtain ⟨g, N, K, r⟩ := red n k hn
  have hN := r.N_pos hn
  have a := r.le (a := 1) (by omega)
  have e : tC N (N - K) = tC n (n - k) := by
    refine tC_frac (by omega) (by omega) ?_
    have h1 : n - k = g * (N - K) := by rw [Nat.mul_sub, ← r.nn, ← r.kk]
    rw [h1]
    rw [r.nn, Nat.mul_left_comm, Nat.mul_assoc]
  unfold tD
  rw [r.gg, r.NN, r.KK, e]
  by_cases c : n < 2 * k
  · rw [if_pos c, if_pos (r.cmp.1 c)]
  · rw [if_neg c, if_neg (fun h => c (r.cmp.2 h))]

theorem neg_neg (b : Nat) : Op.negFloat .f64 (Op.negFloat .f64 b) = b := by
  unfold Op.negFloat
  rw [Nat.xor_assoc, Nat.xor_self, Nat.xor_zero]

/-- About a quarter: the mirrored turn. -/
theorem tC_mirror {n k : Nat} (hn : 1 ≤ n) (h2 : 2 * k ≤ n) (hne : 4 * k ≠ n) : tC (2 * n) (n - 2 * k) = (Op.negFloat .f64 (tC n k).1, (tC n k).2) := by
  by_cases c : n < 4 * k
  · rw [tC_eq hn h2, if_pos c, neg_neg, tC_eq (n := 2 * n) (k := n - 2 * k) (by omega) (by omega), if_neg (by omega)]
  · rw [tC_eq hn h2, if_neg c, tC_eq (n := 2 * n) (k := n - 2 * k) (by omega) (by omega), if_pos (by omega)]
    have e : tB (2 * (2 * n)) (2 * n - 2 * (n - 2 * k)) = tB n k := by
      refine tB_frac (by omega) hn ?_
      have h1 : 2 * n - 2 * (n - 2 * k) = 4 * k := by omega
      rw [h1, show 2 * (2 * n) = 4 * n by omega, Nat.mul_assoc, Nat.mul_left_comm]
    rw [e]

/-- Two words are equal as numbers: alike, or both zeros. -/
def Alike (a b : Nat) : Prop := a = b ∨ (rung .f64 a = 0 ∧ rung .f64 b = 0)

theorem half_turn : tD 2 1 = (Op.negFloat .f64 one, 0) := by decide +kernel
theorem quarter_turn : tC 4 1 = (0, one) := by decide +kernel
theorem no_turn {n : Nat} (hn : 1 ≤ n) : tD n 0 = (one, 0) := by
  rw [tD_frac (n' := 1) (k' := 0) hn (by omega) (by omega)]; decide +kernel

/-- The turn back is the conjugate. -/
theorem tD_conj {n k : Nat} (hn : 1 ≤ n) (hk : k < n) : (tD n ((n - k) % n)).1 = (tD n k).1 ∧ Alike (tD n ((n - k) % n)).2 (Op.negFloat .f64 (tD n k).2) := by
  by_cases h0 : k = 0
  · subst h0
    rw [Nat.sub_zero, Nat.mod_self, no_turn hn]
    exact ⟨rfl, .inr ⟨by decide +kernel, by decide +kernel⟩⟩
  · rw [Nat.mod_eq_of_lt (by omega)]
    rcases Nat.lt_trichotomy n (2 * k) with c | c | c
    · rw [tD_eq hn (show k ≤ n by omega), if_pos c, tD_eq hn (show n - k ≤ n by omega), if_neg (by omega)]
      exact ⟨rfl, .inl (neg_neg _).symm⟩
    · have e1 : tD n (n - k) = tD 2 1 := tD_frac hn (by omega) (by omega)
      have e2 : tD n k = tD 2 1 := tD_frac hn (by omega) (by omega)
      rw [e1, e2, half_turn]
      exact ⟨rfl, .inr ⟨by decide +kernel, by decide +kernel⟩⟩
    · rw [tD_eq hn (show k ≤ n by omega), if_neg (by omega), tD_eq hn (show n - k ≤ n by omega), if_pos (by omega), show n - (n - k) = k by omega]
      exact ⟨rfl, .inl rfl⟩

theorem alike_refl (a : Nat) : Alike a a := .inl rfl

theorem mirror_alike {n k : Nat} (hn : 1 ≤ n) (h2 : 2 * k ≤ n) : Alike (tC (2 * n) (n - 2 * k)).1 (Op.negFloat .f64 (tC n k).1) ∧ Alike (tC (2 * n) (n - 2 * k)).2 (tC n k).2 := by
  by_cases h : 4 * k = n
  · have e1 : tC (2 * n) (n - 2 * k) = tC 4 1 := tC_frac (by omega) (by omega) (by omega)
    have e2 : tC n k = tC 4 1 := tC_frac hn (by omega) (by omega)
    rw [e1, e2, quarter_turn]
    exact ⟨.inr ⟨by decide +kernel, by decide +kernel⟩, .inl rfl⟩
  · rw [tC_mirror hn h2 h]
    exact ⟨.inl rfl, .inl rfl⟩

theorem rung_neg {b : Nat} (hb : b < 18446744073709551616) : rung .f64 (Op.negFloat .f64 b) = rung .f64 b := by
  have hr := rung_lt64 b
  have e := neg_bits .f64 b hb
  rw [weight64] at e
  rw [e]
  have hx : ∀ x, rung .f64 x = x % 9223372036854775808 := fun x => by unfold rung; rw [weight64]
  rw [hx]
  split
  · exact Nat.mod_eq_of_lt hr
  · rw [Nat.add_mod_left]; exact Nat.mod_eq_of_lt hr

theorem Alike.neg {a b : Nat} (ha : a < 18446744073709551616) (hb : b < 18446744073709551616) (h : Alike a b) : Alike (Op.negFloat .f64 a) (Op.negFloat .f64 b) := by
  rcases h with h | ⟨h1, h2⟩
  · exact .inl (by rw [h])
  · exact .inr ⟨by rw [rung_neg ha]; exact h1, by rw [rung_neg hb]; exact h2⟩

/-- The opposite turn is the negated one (every word of a turn being a word of 64 bits). -/
theorem tD_opposite {n k : Nat} (hn : 1 ≤ n) (hk : k < n) (hw : ∀ m j, 1 ≤ m → m ≤ 4 * n → 2 * j ≤ m → (tC m j).1 < 18446744073709551616 ∧ (tC m j).2 < 18446744073709551616) :
    Alike (tD (2 * n) ((2 * k + n) % (2 * n))).1 (Op.negFloat .f64 (tD n k).1) ∧ Alike (tD (2 * n) ((2 * k + n) % (2 * n))).2 (Op.negFloat .f64 (tD n k).2) := by
  by_cases h0 : k = 0
  · subst h0
    rw [Nat.mod_eq_of_lt (by omega), no_turn hn, tD_frac (n := 2 * n) (k := 2 * 0 + n) (n' := 2) (k' := 1) (by omega) (by omega) (by omega), half_turn]
    exact ⟨.inl rfl, .inr ⟨by decide +kernel, by decide +kernel⟩⟩
  rcases Nat.lt_trichotomy n (2 * k) with c | c | c
  · -- above a half
    have e : (2 * k + n) % (2 * n) = 2 * k - n := by
      rw [show 2 * k + n = (2 * k - n) + 2 * n by omega, Nat.add_mod_right, Nat.mod_eq_of_lt (by omega)]
    have e1 : tC (2 * n) (n - 2 * (n - k)) = tC (2 * n) (2 * k - n) := by rw [show n - 2 * (n - k) = 2 * k - n by omega]
    obtain ⟨m1, m2⟩ := mirror_alike hn (show 2 * (n - k) ≤ n by omega)
    rw [e1] at m1 m2
    rw [e, tD_eq (n := 2 * n) (k := 2 * k - n) (by omega) (by omega), if_neg (by omega), tD_eq hn (show k ≤ n by omega), if_pos c]
    refine ⟨m1, ?_⟩
    show Alike _ (Op.negFloat .f64 (Op.negFloat .f64 _))
    rw [neg_neg]; exact m2
  · have e : (2 * k + n) % (2 * n) = 0 := by rw [show 2 * k + n = 2 * n by omega, Nat.mod_self]
    rw [e, no_turn (by omega), tD_frac (n := n) (k := k) (n' := 2) (k' := 1) hn (by omega) (by omega), half_turn]
    exact ⟨.inl (neg_neg _).symm, .inr ⟨by decide +kernel, by decide +kernel⟩⟩
  · have e : (2 * k + n) % (2 * n) = 2 * k + n := Nat.mod_eq_of_lt (by omega)
    obtain ⟨m1, m2⟩ := mirror_alike hn (show 2 * k ≤ n by omega)
    rw [e, tD_eq (n := 2 * n) (k := 2 * k + n) (by omega) (by omega), if_pos (by omega), tD_eq hn (show k ≤ n by omega), if_neg (by omega), show 2 * n - (2 * k + n) = n - 2 * k by omega]
    refine ⟨m1, ?_⟩
    exact Alike.neg (hw _ _ (by omega) (by omega) (by omega)).2 (hw _ _ hn (by omega) (by omega)).2 m2

end Go.Proofs.Ytaingnnflldlhaa.Fl
