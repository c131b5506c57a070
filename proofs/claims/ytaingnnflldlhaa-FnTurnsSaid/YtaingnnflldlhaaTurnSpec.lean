/- The walk of the reference's turn: octant by octant, to the plain function's words. -/
import Derived.Test.YtaingnnflldlhaaTurnDef
import Derived.Test.YtaingnnflldlhaaSeries
namespace Go.Proofs.Ytaingnnflldlhaa.TurnW
open Go.RowKit Fl

def TurnSame (z : Nat × Nat) (w : World) (e : Ending) (w' : World) : Prop := e = .returned (.complex .f64 z.1 z.2) ∧ w = w'

/-! ### spec -/
theorem spec_zero (n k g N K : Nat) (r : Red n k g N K) (hn : n ≤ 1000000) (hk : k ≤ 1000000) (h0 : K = 0) (w : World) : Calls Try.prog 76 #[.int .i64 n, .int .i64 k] w (TurnSame (one, 0) w) := by
  have Hg := Lib.hid (gcd_spec n k hn hk)
  rw [r.gg] at Hg
  have eN := r.eN
  have eK := r.eK
  have hp := r.pos
  have hp' : (0 : Int) < (g : Int) := by omega
  have hg0 : ((g : Int) == 0) = false := by simp; omega
  clear r
  have eK0 : (k : Int) / (g : Int) = 0 := by rw [eK, h0]; rfl
  clear eK h0
  go_enter Try.func76, Try.ntmps76
  go_wp2_with fail
  refine (Hg.out _).mono ?_; rintro e w' ⟨rfl, rfl⟩
  go_wp2
  go_ret
  exact ⟨rfl, rfl⟩

theorem spec_eighth (n k g N K : Nat) (r : Red n k g N K) (hn : n ≤ 1000000) (hk : k ≤ 1000000) (h0 : 0 < K) (h8 : 8 * K = N) (hN : N ≤ 1000000) (w : World) : Calls Try.prog 76 #[.int .i64 n, .int .i64 k] w (TurnSame (half, half) w) := by
  have Hg := Lib.hid (gcd_spec n k hn hk)
  rw [r.gg] at Hg
  have eN := r.eN
  have eK := r.eK
  have hp := r.pos
  have hp' : (0 : Int) < (g : Int) := by omega
  have hg0 : ((g : Int) == 0) = false := by simp; omega
  clear r
  have c0 : ((K : Int) == 0) = false := by simp; omega
  have c2 : 2 * (K : Int) ≤ (N : Int) := by omega
  have c4 : 4 * (K : Int) ≤ (N : Int) := by omega
  have c8 : 8 * (K : Int) ≤ (N : Int) := by omega
  have c9 : (8 * (K : Int) == (N : Int)) = true := by simp; omega
  clear h0 h8
  go_enter Try.func76, Try.ntmps76
  go_wp2_with fail
  refine (Hg.out _).mono ?_; rintro e w' ⟨rfl, rfl⟩
  go_wp2_with (go_at_call 80; refine (sqrt_any _).mono ?_; rintro e w' ⟨rfl, rfl⟩)
  go_ret
  exact ⟨rfl, rfl⟩

theorem spec_second (n k g N K : Nat) (r : Red n k g N K) (hn : n ≤ 1000000) (hk : k ≤ 1000000) (h0 : 0 < K) (h8 : N < 8 * K) (h4 : 4 * K ≤ N) (hN : N ≤ 100000) (z : Nat × Nat)
    (Hc : ∀ w, Calls Try.prog 76 #[.int .i64 (4 * (N : Int)), .int .i64 ((N : Int) - 4 * (K : Int))] w (TurnSame z w)) (w : World) : Calls Try.prog 76 #[.int .i64 n, .int .i64 k] w (TurnSame (z.2, z.1) w) := by
  have Hg := Lib.hid (gcd_spec n k hn hk)
  rw [r.gg] at Hg
  have eN := r.eN
  have eK := r.eK
  have hp := r.pos
  have hp' : (0 : Int) < (g : Int) := by omega
  have hg0 : ((g : Int) == 0) = false := by simp; omega
  clear r
  have c0 : ((K : Int) == 0) = false := by simp; omega
  have c2 : 2 * (K : Int) ≤ (N : Int) := by omega
  have c4 : 4 * (K : Int) ≤ (N : Int) := by omega
  have c8 : (N : Int) < 8 * (K : Int) := by omega
  have HC := Lib.hid Hc
  clear h0 h8 h4 Hc
  obtain ⟨z1, z2⟩ := z
  go_enter Try.func76, Try.ntmps76
  go_wp2_with fail
  refine (Hg.out _).mono ?_; rintro e w' ⟨rfl, rfl⟩
  go_wp2_with fail
  refine (HC.out _).mono ?_; rintro e w' ⟨rfl, rfl⟩
  go_wp2
  go_ret
  exact ⟨rfl, rfl⟩

theorem spec_quarter (n k g N K : Nat) (r : Red n k g N K) (hn : n ≤ 1000000) (hk : k ≤ 1000000) (h0 : 0 < K) (h4 : N < 4 * K) (h2 : 2 * K ≤ N) (hN : N ≤ 100000) (z : Nat × Nat)
    (Hc : ∀ w, Calls Try.prog 76 #[.int .i64 (2 * (N : Int)), .int .i64 ((N : Int) - 2 * (K : Int))] w (TurnSame z w)) (w : World) : Calls Try.prog 76 #[.int .i64 n, .int .i64 k] w (TurnSame (Op.negFloat .f64 z.1, z.2) w) := by
  have Hg := Lib.hid (gcd_spec n k hn hk)
  rw [r.gg] at Hg
  have eN := r.eN
  have eK := r.eK
  have hp := r.pos
  have hp' : (0 : Int) < (g : Int) := by omega
  have hg0 : ((g : Int) == 0) = false := by simp; omega
  clear r
  have c0 : ((K : Int) == 0) = false := by simp; omega
  have c2 : 2 * (K : Int) ≤ (N : Int) := by omega
  have c4 : (N : Int) < 4 * (K : Int) := by omega
  have HC := Lib.hid Hc
  clear h0 h4 h2 Hc
  obtain ⟨z1, z2⟩ := z
  go_enter Try.func76, Try.ntmps76
  go_wp2_with fail
  refine (Hg.out _).mono ?_; rintro e w' ⟨rfl, rfl⟩
  go_wp2_with fail
  refine (HC.out _).mono ?_; rintro e w' ⟨rfl, rfl⟩
  go_wp2
  go_ret
  exact ⟨rfl, rfl⟩

theorem spec_back (n k g N K : Nat) (r : Red n k g N K) (hn : n ≤ 1000000) (hk : k ≤ 1000000) (h0 : 0 < K) (h2 : N < 2 * K) (h1 : K ≤ N) (hN : N ≤ 100000) (z : Nat × Nat)
    (Hc : ∀ w, Calls Try.prog 76 #[.int .i64 (N : Int), .int .i64 ((N : Int) - (K : Int))] w (TurnSame z w)) (w : World) : Calls Try.prog 76 #[.int .i64 n, .int .i64 k] w (TurnSame (z.1, Op.negFloat .f64 z.2) w) := by
  have Hg := Lib.hid (gcd_spec n k hn hk)
  rw [r.gg] at Hg
  have eN := r.eN
  have eK := r.eK
  have hp := r.pos
  have hp' : (0 : Int) < (g : Int) := by omega
  have hg0 : ((g : Int) == 0) = false := by simp; omega
  clear r
  have c0 : ((K : Int) == 0) = false := by simp; omega
  have c1 : (K : Int) ≤ (N : Int) := by omega
  have c2 : (N : Int) < 2 * (K : Int) := by omega
  have HC := Lib.hid Hc
  clear h0 h2 h1 Hc
  obtain ⟨z1, z2⟩ := z
  go_enter Try.func76, Try.ntmps76
  go_wp2_with fail
  refine (Hg.out _).mono ?_; rintro e w' ⟨rfl, rfl⟩
  go_wp2_with fail
  refine (HC.out _).mono ?_; rintro e w' ⟨rfl, rfl⟩
  go_wp2_with (go_at_call 51; refine (conj_spec _ _ _).mono ?_; rintro e w' ⟨rfl, rfl⟩)
  go_ret
  exact ⟨rfl, rfl⟩

theorem spec_base (n k g N K : Nat) (r : Red n k g N K) (hn : n ≤ 1000000) (hk : k ≤ 1000000) (h0 : 0 < K) (h8 : 8 * K < N) (hN : N ≤ 100000) (w : World) : Calls Try.prog 76 #[.int .i64 n, .int .i64 k] w (TurnSame (base N K) w) := by
  obtain ⟨bp, bx, bnum⟩ := base_ok h0 (show 8 * K ≤ N by omega) hN
  rw [base_eq]
  unfold fi at *
  generalize fm 4618760256179416344 (floatOfInt .f64 (K : Int)) = P at *
  generalize fd P (floatOfInt .f64 (N : Int)) = X at *
  obtain ⟨py, ny⟩ := fm_ok bnum bnum (by omega) (by omega) (by omega)
  obtain ⟨ps, _⟩ := fm_ok (sin_num ny 9 (by omega)) bnum (by omega) (by omega) (by omega)
  have hp1 := fun w => run_float_arith (P := Try.prog) w .mul 37 .f64 _ _ _ bp
  have hp2 := fun w => run_float_arith (P := Try.prog) w .mul 37 .f64 _ _ _ py
  have HE := Lib.hid (fun w => cosine ny w)
  have HO := Lib.hid (fun w => sine ny _ ps w)
  have hq := fun w => run_float_arith (P := Try.prog) w .quo 37 .f64 _ _ _ bx
  clear bp bx bnum py ny ps
  generalize cosT (fm X X) 9 = C at *
  generalize fm (sinT (fm X X) 9) X = S at *
  generalize fm X X = Y at *
  have Hg := Lib.hid (gcd_spec n k hn hk)
  rw [r.gg] at Hg
  have eN := r.eN
  have eK := r.eK
  have hp := r.pos
  have hp' : (0 : Int) < (g : Int) := by omega
  have hg0 : ((g : Int) == 0) = false := by simp; omega
  clear r
  have c0 : ((K : Int) == 0) = false := by simp; omega
  have c2 : 2 * (K : Int) ≤ (N : Int) := by omega
  have c4 : 4 * (K : Int) ≤ (N : Int) := by omega
  have c8 : 8 * (K : Int) ≤ (N : Int) := by omega
  have c9 : (8 * (K : Int) == (N : Int)) = false := by simp; omega
  clear h0 h8
  go_enter Try.func76, Try.ntmps76
  go_wp2_with fail
  refine (Hg.out _).mono ?_; rintro e w' ⟨rfl, rfl⟩
  go_wp2_with fail
  refine (HE.out _).mono ?_; rintro e w' ⟨rfl, rfl⟩
  go_wp2_with fail
  refine (HO.out _).mono ?_; rintro e w' ⟨rfl, rfl⟩
  go_wp2
  go_ret
  exact ⟨rfl, rfl⟩

/-! The contracts, zone by zone. -/
theorem spec_A (n k : Nat) (hn1 : 1 ≤ n) (hn : n ≤ 100000) (h : 8 * k ≤ n) (w : World) : Calls Try.prog 76 #[.int .i64 n, .int .i64 k] w (TurnSame (tA n k) w) := by
  obtain ⟨g, N, K, r⟩ := red n k hn1
  have a := r.le h
  have b := r.N_le
  unfold tA
  rw [r.gg, r.NN, r.KK]
  by_cases h0 : K = 0
  · rw [if_pos h0]; exact spec_zero n k g N K r (by omega) (by omega) h0 w
  · rw [if_neg h0]
    by_cases h8 : 8 * K = N
    · rw [if_pos h8]; exact spec_eighth n k g N K r (by omega) (by omega) (by omega) h8 (by omega) w
    · rw [if_neg h8]; exact spec_base n k g N K r (by omega) (by omega) (by omega) (by omega) (by omega) w

theorem spec_B (n k : Nat) (hn1 : 1 ≤ n) (hn : n ≤ 20000) (h : 4 * k ≤ n) (w : World) : Calls Try.prog 76 #[.int .i64 n, .int .i64 k] w (TurnSame (tB n k) w) := by
  obtain ⟨g, N, K, r⟩ := red n k hn1
  have a := r.le h
  have b := r.N_le
  have c := r.N_pos hn1
  unfold tB
  rw [r.gg, r.NN, r.KK]
  by_cases h8 : N < 8 * K
  · rw [if_pos h8]
    refine spec_second n k g N K r (by omega) (by omega) (by omega) h8 a (by omega) (tA (4 * N) (N - 4 * K)) (fun w => ?_) w
    have := spec_A (4 * N) (N - 4 * K) (by omega) (by omega) (by omega) w
    rw [show ((4 * N : Nat) : Int) = 4 * (N : Int) by omega, show ((N - 4 * K : Nat) : Int) = (N : Int) - 4 * (K : Int) by omega] at this
    exact this
  · rw [if_neg h8]
    refine spec_A n k hn1 (by omega) ?_ w
    have := Nat.mul_le_mul_left g (show 8 * K ≤ N by omega)
    rw [← r.nn, Nat.mul_left_comm, ← r.kk] at this; exact this

theorem spec_C (n k : Nat) (hn1 : 1 ≤ n) (hn : n ≤ 10000) (h : 2 * k ≤ n) (w : World) : Calls Try.prog 76 #[.int .i64 n, .int .i64 k] w (TurnSame (tC n k) w) := by
  obtain ⟨g, N, K, r⟩ := red n k hn1
  have a := r.le h
  have b := r.N_le
  have c := r.N_pos hn1
  unfold tC
  rw [r.gg, r.NN, r.KK]
  by_cases h4 : N < 4 * K
  · rw [if_pos h4]
    refine spec_quarter n k g N K r (by omega) (by omega) (by omega) h4 a (by omega) (tB (2 * N) (N - 2 * K)) (fun w => ?_) w
    have := spec_B (2 * N) (N - 2 * K) (by omega) (by omega) (by omega) w
    rw [show ((2 * N : Nat) : Int) = 2 * (N : Int) by omega, show ((N - 2 * K : Nat) : Int) = (N : Int) - 2 * (K : Int) by omega] at this
    exact this
  · rw [if_neg h4]
    refine spec_B n k hn1 (by omega) ?_ w
    have := Nat.mul_le_mul_left g (show 4 * K ≤ N by omega)
    rw [← r.nn, Nat.mul_left_comm, ← r.kk] at this; exact this

theorem spec_D (n k : Nat) (hn1 : 1 ≤ n) (hn : n ≤ 10000) (h : k ≤ n) (w : World) : Calls Try.prog 76 #[.int .i64 n, .int .i64 k] w (TurnSame (tD n k) w) := by
  obtain ⟨g, N, K, r⟩ := red n k hn1
  have a := r.le (a := 1) (by omega)
  have b := r.N_le
  have c := r.N_pos hn1
  unfold tD
  rw [r.gg, r.NN, r.KK]
  by_cases h2 : N < 2 * K
  · rw [if_pos h2]
    refine spec_back n k g N K r (by omega) (by omega) (by omega) h2 (by omega) (by omega) (tC N (N - K)) (fun w => ?_) w
    have := spec_C N (N - K) (by omega) (by omega) (by omega) w
    rw [show ((N - K : Nat) : Int) = (N : Int) - (K : Int) by omega] at this
    exact this
  · rw [if_neg h2]
    refine spec_C n k hn1 hn ?_ w
    have := Nat.mul_le_mul_left g (show 2 * K ≤ N by omega)
    rw [← r.nn, Nat.mul_left_comm, ← r.kk] at this; exact this
end Go.Proofs.Ytaingnnflldlhaa.TurnW
