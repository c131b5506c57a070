/- The walks for TurnOf and NarrowTurnOf: both programs give the same words and codes, whatever the numbers. No condition. -/
import Derived.Test.YtaingnnflldlhaaTurnImpl
import Derived.Test.YtaingnnflldlhaaTurnSpec
import Derived.Test.YtaingnnflldlhaaSame
import Derived.Test.YtaingnnflldlhaaConv
namespace Go.Proofs.Ytaingnnflldlhaa.Fl
open Ieee

/-- A word of a bounded number. -/
structure Ok (b : Nat) : Prop where
  lt : b < 18446744073709551616
  num : Num b 19

theorem lt_of_bits {op : BinOp} {x y r : Nat} (h : floatBits op .f64 x y = some r) : r < 18446744073709551616 := wf64 (floatBits_wf h)

theorem Ok.neg {b : Nat} (h : Ok b) : Ok (Op.negFloat .f64 b) := by
  have hr := rung_lt64 b
  have e := neg_bits .f64 b h.lt
  rw [weight64] at e
  have e2 : rung .f64 (Op.negFloat .f64 b) = rung .f64 b := by
    rw [e]
    have hd : rung .f64 b = b % 9223372036854775808 := by unfold rung; rw [weight64]
    have hx : ∀ x, rung .f64 x = x % 9223372036854775808 := fun x => by unfold rung; rw [weight64]
    rw [hx]
    split
    · exact Nat.mod_eq_of_lt hr
    · rw [Nat.add_mod_left]; exact Nat.mod_eq_of_lt hr
  refine ⟨?_, ?_, ?_⟩
  · rw [e]; split <;> omega
  · rw [e2]; exact h.num.fin
  · show rung .f64 _ ≤ _
    rw [e2]; exact h.num.le

theorem Ok.notNan {b : Nat} (h : Ok b) : nan .f64 b = false := by
  have := h.num.fin
  unfold nan
  simp; omega

theorem ok_one : Ok one := ⟨by decide, .of _ _ (by omega) (by unfold Le; decide +kernel)⟩
theorem ok_zero : Ok 0 := ⟨by decide, .of _ _ (by omega) (by unfold Le; decide +kernel)⟩
theorem ok_half : Ok half := ⟨by decide, .of _ _ (by omega) (by unfold Le; decide +kernel)⟩

theorem ok_base {n k : Nat} (hk : 0 < k) (h : 8 * k ≤ n) (hn : n ≤ 100000) : Ok (base n k).1 ∧ Ok (base n k).2 := by
  obtain ⟨_, _, bnum⟩ := base_ok hk h hn
  rw [base_eq]
  generalize fd (fm 4618760256179416344 (fi k)) (fi n) = X at *
  obtain ⟨_, ny⟩ := fm_ok bnum bnum (by omega) (by omega) (by omega)
  obtain ⟨ps, ns⟩ := fm_ok (sin_num ny 9 (by omega)) bnum (by omega) (by omega) (by omega)
  exact ⟨⟨lt_of_bits (cos_step ny 8 (by omega)).s, (cos_num ny 9 (by omega)).mono (by omega)⟩, lt_of_bits ps, ns.mono (by omega)⟩

theorem ok_tA {n k : Nat} (hn1 : 1 ≤ n) (hn : n ≤ 100000) (h : 8 * k ≤ n) : Ok (tA n k).1 ∧ Ok (tA n k).2 := by
  obtain ⟨g, N, K, r⟩ := red n k hn1
  have a := r.le h
  have b := r.N_le
  unfold tA
  rw [r.gg, r.NN, r.KK]
  by_cases h0 : K = 0
  · rw [if_pos h0]; exact ⟨ok_one, ok_zero⟩
  · rw [if_neg h0]
    by_cases h8 : 8 * K = N
    · rw [if_pos h8]; exact ⟨ok_half, ok_half⟩
    · rw [if_neg h8]; exact ok_base (by omega) a (by omega)

theorem ok_tB {n k : Nat} (hn1 : 1 ≤ n) (hn : n ≤ 20000) (h : 4 * k ≤ n) : Ok (tB n k).1 ∧ Ok (tB n k).2 := by
  obtain ⟨g, N, K, r⟩ := red n k hn1
  have a := r.le h
  have b := r.N_le
  have c := r.N_pos hn1
  unfold tB
  rw [r.gg, r.NN, r.KK]
  by_cases h8 : N < 8 * K
  · rw [if_pos h8]
    have := ok_tA (n := 4 * N) (k := N - 4 * K) (by omega) (by omega) (by omega)
    exact ⟨this.2, this.1⟩
  · rw [if_neg h8]
    refine ok_tA hn1 (by omega) ?_
    have := Nat.mul_le_mul_left g (show 8 * K ≤ N by omega)
    rw [← r.nn, Nat.mul_left_comm, ← r.kk] at this; exact this

theorem ok_tC {n k : Nat} (hn1 : 1 ≤ n) (hn : n ≤ 10000) (h : 2 * k ≤ n) : Ok (tC n k).1 ∧ Ok (tC n k).2 := by
  obtain ⟨g, N, K, r⟩ := red n k hn1
  have a := r.le h
  have b := r.N_le
  have c := r.N_pos hn1
  unfold tC
  rw [r.gg, r.NN, r.KK]
  by_cases h8 : N < 4 * K
  · rw [if_pos h8]
    have := ok_tB (n := 2 * N) (k := N - 2 * K) (by omega) (by omega) (by omega)
    exact ⟨this.1.neg, this.2⟩
  · rw [if_neg h8]
    refine ok_tB hn1 (by omega) ?_
    have := Nat.mul_le_mul_left g (show 4 * K ≤ N by omega)
    rw [← r.nn, Nat.mul_left_comm, ← r.kk] at this; exact this

theorem ok_tD {n k : Nat} (hn1 : 1 ≤ n) (hn : n ≤ 10000) (h : k ≤ n) : Ok (tD n k).1 ∧ Ok (tD n k).2 := by
  obtain ⟨g, N, K, r⟩ := red n k hn1
  have a := r.le (a := 1) (by omega)
  have b := r.N_le
  have c := r.N_pos hn1
  unfold tD
  rw [r.gg, r.NN, r.KK]
  by_cases h8 : N < 2 * K
  · rw [if_pos h8]
    have := ok_tC (n := N) (k := N - K) (by omega) (by omega) (by omega)
    exact ⟨this.1, this.2.neg⟩
  · rw [if_neg h8]
    refine ok_tC hn1 hn ?_
    have := Nat.mul_le_mul_left g (show 2 * K ≤ N by omega)
    rw [← r.nn, Nat.mul_left_comm, ← r.kk] at this; exact this

end Go.Proofs.Ytaingnnflldlhaa.Fl
namespace Go.Proofs.Ytaingnnflldlhaa.TurnW
open Go.RowKit Fl

def Valid (n k : Int) : Prop := 1 ≤ n ∧ n ≤ 1024 ∧ 0 ≤ k ∧ k ≤ n - 1
instance (n k : Int) : Decidable (Valid n k) := by unfold Valid; infer_instance
def tcode (n k : Int) : Int := if Valid n k then 0 else 2
/-- What both programs give for a turn. -/
def tval (n k : Int) : Nat × Nat := if Valid n k then tD n.toNat k.toNat else (0, 0)

theorem ok_tval (n k : Int) : Ok (tval n k).1 ∧ Ok (tval n k).2 := by
  unfold tval
  split
  · rename_i h
    obtain ⟨h1, h2, h3, h4⟩ := h
    exact ok_tD (by omega) (by omega) (by omega)
  · exact ⟨ok_zero, ok_zero⟩

theorem code_impl (n k : Int) (w : World) : Calls Try.prog 46 #[.int .i64 n, .int .i64 k] w fun e w' => e = .returned (.int .i64 (tcode n k)) ∧ w = w' := by
  by_cases h1 : 1 ≤ n
  · by_cases h2 : n ≤ 1024
    · by_cases h3 : 0 ≤ k
      · by_cases h4 : k ≤ n - 1
        · rw [show tcode n k = 0 from if_pos ⟨h1, h2, h3, h4⟩]
          go_enter Try.func46, Try.ntmps46
          go_wp2
          go_ret
          exact ⟨rfl, rfl⟩
        · rw [show tcode n k = 2 from if_neg (fun h => h4 h.2.2.2)]
          have h4' : decide (k ≤ n - 1) = false := by simpa using h4
          clear h4
          go_enter Try.func46, Try.ntmps46
          go_wp2
          go_ret
          exact ⟨rfl, rfl⟩
      · rw [show tcode n k = 2 from if_neg (fun h => h3 h.2.2.1)]
        have h3' : decide (0 ≤ k) = false := by simpa using h3
        clear h3
        go_enter Try.func46, Try.ntmps46
        go_wp2
        go_ret
        exact ⟨rfl, rfl⟩
    · rw [show tcode n k = 2 from if_neg (fun h => h2 h.2.1)]
      have h2' : decide (n ≤ 1024) = false := by simpa using h2
      clear h2
      go_enter Try.func46, Try.ntmps46
      go_wp2
      go_ret
      exact ⟨rfl, rfl⟩
  · rw [show tcode n k = 2 from if_neg (fun h => h1 h.1)]
    have h1' : decide (1 ≤ n) = false := by simpa using h1
    clear h1
    go_enter Try.func46, Try.ntmps46
    go_wp2
    go_ret
    exact ⟨rfl, rfl⟩

theorem code_spec (n k : Int) (w : World) : Calls Try.prog 75 #[.int .i64 n, .int .i64 k] w fun e w' => e = .returned (.int .i64 (tcode n k)) ∧ w = w' := by
  by_cases h1 : 1 ≤ n
  · by_cases h2 : n ≤ 1024
    · by_cases h3 : 0 ≤ k
      · by_cases h4 : k ≤ n - 1
        · rw [show tcode n k = 0 from if_pos ⟨h1, h2, h3, h4⟩]
          go_enter Try.func75, Try.ntmps75
          go_wp2
          go_ret
          exact ⟨rfl, rfl⟩
        · rw [show tcode n k = 2 from if_neg (fun h => h4 h.2.2.2)]
          have h4' : decide (k ≤ n - 1) = false := by simpa using h4
          clear h4
          go_enter Try.func75, Try.ntmps75
          go_wp2
          go_ret
          exact ⟨rfl, rfl⟩
      · rw [show tcode n k = 2 from if_neg (fun h => h3 h.2.2.1)]
        have h3' : decide (0 ≤ k) = false := by simpa using h3
        clear h3
        go_enter Try.func75, Try.ntmps75
        go_wp2
        go_ret
        exact ⟨rfl, rfl⟩
    · rw [show tcode n k = 2 from if_neg (fun h => h2 h.2.1)]
      have h2' : decide (n ≤ 1024) = false := by simpa using h2
      clear h2
      go_enter Try.func75, Try.ntmps75
      go_wp2
      go_ret
      exact ⟨rfl, rfl⟩
  · rw [show tcode n k = 2 from if_neg (fun h => h1 h.1)]
    have h1' : decide (1 ≤ n) = false := by simpa using h1
    clear h1
    go_enter Try.func75, Try.ntmps75
    go_wp2
    go_ret
    exact ⟨rfl, rfl⟩

theorem turnOf_impl (n k : Int) (w : World) : Calls Try.prog 15 #[.int .i64 n, .int .i64 k] w fun e w' => e = .returned (.tuple #[.complex .f64 (tval n k).1 (tval n k).2, .int .i64 (tcode n k)]) ∧ ∃ m, w' = w.drewN m := by
  have Hc := Lib.hid (code_impl n k)
  by_cases h : Valid n k
  · have e1 : tcode n k = 0 := if_pos h
    have e2 : tval n k = tD n.toNat k.toNat := if_pos h
    obtain ⟨h1, h2, h3, h4⟩ := h
    have Ht := Lib.hid (impl_D n.toNat k.toNat (by omega) (by omega) (by omega))
    rw [show ((n.toNat : Nat) : Int) = n by omega, show ((k.toNat : Nat) : Int) = k by omega] at Ht
    rw [e1] at Hc
    rw [e1, e2]
    generalize tD n.toNat k.toNat = z at *
    clear e1 e2 h1 h2 h3 h4
    obtain ⟨z1, z2⟩ := z
    go_enter Try.func15, Try.ntmps15
    go_wp2_with fail
    refine (Hc.out _).mono ?_; rintro e w' ⟨rfl, rfl⟩
    go_wp2_with fail
    refine (Ht.out _).mono ?_; rintro e w' ⟨rfl, m, rfl⟩
    go_wp2
    go_ret2
    exact ⟨rfl, _, rfl⟩
  · have e1 : tcode n k = 2 := if_neg h
    have e2 : tval n k = (0, 0) := if_neg h
    rw [e1] at Hc
    rw [e1, e2]
    clear e1 e2 h
    go_enter Try.func15, Try.ntmps15
    go_wp2_with fail
    refine (Hc.out _).mono ?_; rintro e w' ⟨rfl, rfl⟩
    go_wp2
    go_ret2
    exact ⟨rfl, 0, rfl⟩

theorem turnOf_spec (n k : Int) (w : World) : Calls Try.prog 39 #[.int .i64 n, .int .i64 k] w fun e w' => e = .returned (.tuple #[.complex .f64 (tval n k).1 (tval n k).2, .int .i64 (tcode n k)]) ∧ w = w' := by
  have Hc := Lib.hid (code_spec n k)
  by_cases h : Valid n k
  · have e1 : tcode n k = 0 := if_pos h
    have e2 : tval n k = tD n.toNat k.toNat := if_pos h
    obtain ⟨h1, h2, h3, h4⟩ := h
    have Ht := Lib.hid (spec_D n.toNat k.toNat (by omega) (by omega) (by omega))
    rw [show ((n.toNat : Nat) : Int) = n by omega, show ((k.toNat : Nat) : Int) = k by omega] at Ht
    rw [e1] at Hc
    rw [e1, e2]
    generalize tD n.toNat k.toNat = z at *
    clear e1 e2 h1 h2 h3 h4
    obtain ⟨z1, z2⟩ := z
    go_enter Try.func39, Try.ntmps39
    go_wp2_with fail
    refine (Hc.out _).mono ?_; rintro e w' ⟨rfl, rfl⟩
    go_wp2_with fail
    refine (Ht.out _).mono ?_; rintro e w' ⟨rfl, rfl⟩
    go_wp2
    go_ret2
    exact ⟨rfl, rfl⟩
  · have e1 : tcode n k = 2 := if_neg h
    have e2 : tval n k = (0, 0) := if_neg h
    rw [e1] at Hc
    rw [e1, e2]
    clear e1 e2 h
    go_enter Try.func39, Try.ntmps39
    go_wp2_with fail
    refine (Hc.out _).mono ?_; rintro e w' ⟨rfl, rfl⟩
    go_wp2
    go_ret2
    exact ⟨rfl, rfl⟩

theorem same_complex (a b : Nat) (ha : nan .f64 a = false) (hb : nan .f64 b = false) (w : World) : Calls Try.prog 40 #[.complex .f64 a b, .complex .f64 a b] w fun e w' => e = .returned (.bool true) ∧ w = w' := by
  have H1 := Lib.hid (Same.same_eq a ha)
  have H2 := Lib.hid (Same.same_eq b hb)
  clear ha hb
  go_enter Try.func40, Try.ntmps40
  go_wp2_with fail
  refine (H1.out _).mono ?_; rintro e w' ⟨rfl, rfl⟩
  go_wp2_with fail
  refine (H2.out _).mono ?_; rintro e w' ⟨rfl, rfl⟩
  go_wp2
  go_ret
  exact ⟨rfl, rfl⟩

theorem law_turnOf (n k : Int) (w : World) : Calls Try.prog 10 #[.int .i64 n, .int .i64 k] w fun e w' => e = .returned (.bool true) ∧ Below w.heap.size w w' := by
  have H1 := Lib.hid (turnOf_spec n k)
  have H2 := Lib.hid (turnOf_impl n k)
  obtain ⟨o1, o2⟩ := ok_tval n k
  have H3 := Lib.hid (same_complex _ _ o1.notNan o2.notNan)
  clear o1 o2
  generalize tval n k = z at *
  generalize tcode n k = c at *
  obtain ⟨z1, z2⟩ := z
  go_enter Try.func10, Try.ntmps10
  go_wp2_with fail
  refine (H1.out _).mono ?_; rintro e w' ⟨rfl, rfl⟩
  go_wp2_with fail
  refine (H2.out _).mono ?_; rintro e w' ⟨rfl, m, rfl⟩
  go_wp2_with fail
  refine (H3.out _).mono ?_; rintro e w' ⟨rfl, rfl⟩
  go_wp2
  go_ret
  exact ⟨rfl, below_drewN (Below.refl _ _) _⟩

end Go.Proofs.Ytaingnnflldlhaa.TurnW
