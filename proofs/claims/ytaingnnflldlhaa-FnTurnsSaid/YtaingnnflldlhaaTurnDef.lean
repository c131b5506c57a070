/- The turn as a plain function, octant by octant. No program in sight. -/
import Derived.Test.YtaingnnflldlhaaTurn
namespace Go.Proofs.Ytaingnnflldlhaa.Fl

/-- The turn k of n: in the first octant, the first quarter, the first half, the whole. -/
def tA (n k : Nat) : Nat × Nat := if k / n.gcd k = 0 then (one, 0) else if 8 * (k / n.gcd k) = n / n.gcd k then (half, half) else base (n / n.gcd k) (k / n.gcd k)
def tB (n k : Nat) : Nat × Nat := if n / n.gcd k < 8 * (k / n.gcd k) then ((tA (4 * (n / n.gcd k)) (n / n.gcd k - 4 * (k / n.gcd k))).2, (tA (4 * (n / n.gcd k)) (n / n.gcd k - 4 * (k / n.gcd k))).1) else tA n k
def tC (n k : Nat) : Nat × Nat := if n / n.gcd k < 4 * (k / n.gcd k) then (Op.negFloat .f64 (tB (2 * (n / n.gcd k)) (n / n.gcd k - 2 * (k / n.gcd k))).1, (tB (2 * (n / n.gcd k)) (n / n.gcd k - 2 * (k / n.gcd k))).2) else tB n k
def tD (n k : Nat) : Nat × Nat := if n / n.gcd k < 2 * (k / n.gcd k) then ((tC (n / n.gcd k) (n / n.gcd k - k / n.gcd k)).1, Op.negFloat .f64 (tC (n / n.gcd k) (n / n.gcd k - k / n.gcd k)).2) else tC n k

theorem base_eq (n k : Nat) : base n k = (cosT (fm (fd (fm 4618760256179416344 (fi k)) (fi n)) (fd (fm 4618760256179416344 (fi k)) (fi n))) 9, fm (sinT (fm (fd (fm 4618760256179416344 (fi k)) (fi n)) (fd (fm 4618760256179416344 (fi k)) (fi n))) 9) (fd (fm 4618760256179416344 (fi k)) (fi n))) := rfl

/-- What is taken out of both numbers. -/
structure Red (n k g N K : Nat) : Prop where
  gg : n.gcd k = g
  pos : 0 < g
  nn : n = g * N
  kk : k = g * K
  NN : n / g = N
  KK : k / g = K
  eN : (n : Int) / (g : Int) = (N : Int)
  eK : (k : Int) / (g : Int) = (K : Int)

theorem red (n k : Nat) (hn : 1 ≤ n) : ∃ g N K, Red n k g N K := by
  have hg : 0 < n.gcd k := Nat.gcd_pos_of_pos_left k hn
  refine ⟨n.gcd k, n / n.gcd k, k / n.gcd k, rfl, hg, (Nat.mul_div_cancel' (Nat.gcd_dvd_left n k)).symm, (Nat.mul_div_cancel' (Nat.gcd_dvd_right n k)).symm, rfl, rfl, ?_, ?_⟩
  · exact (Int.natCast_ediv n (n.gcd k)).symm
  · exact (Int.natCast_ediv k (n.gcd k)).symm

theorem Red.le {n k g N K a : Nat} (r : Red n k g N K) (h : a * k ≤ n) : a * K ≤ N := by
  have h2 : g * (a * K) ≤ g * N := by
    rw [← r.nn, Nat.mul_left_comm, ← r.kk]; exact h
  exact Nat.le_of_mul_le_mul_left h2 r.pos
theorem Red.lt {n k g N K a : Nat} (r : Red n k g N K) (h : a * k < n) : a * K < N := by
  have h2 : g * (a * K) < g * N := by
    rw [← r.nn, Nat.mul_left_comm, ← r.kk]; exact h
  exact Nat.lt_of_mul_lt_mul_left h2
theorem Red.N_le {n k g N K : Nat} (r : Red n k g N K) : N ≤ n := by rw [← r.NN]; exact Nat.div_le_self n g
theorem Red.N_pos {n k g N K : Nat} (r : Red n k g N K) (hn : 1 ≤ n) : 1 ≤ N := by
  rcases Nat.eq_zero_or_pos N with h | h
  · have := r.nn; rw [h, Nat.mul_zero] at this; omega
  · exact h

end Go.Proofs.Ytaingnnflldlhaa.Fl
