/- The law of the turns walked. No condition. -/
import Derived.Test.YtaingnnflldlhaaTurnsFact
namespace Go.Proofs.Ytaingnnflldlhaa.Small
open Go.RowKit Fl TurnW

/-- A number from the bytes, in bounds. -/
theorem at_row (a : Option Addr) (l c : Nat) (zs : List Int) (w : World) (h : IsRow .u8 w a l c zs) (i n : Nat) (hn : 1 ≤ n) : Calls Try.prog 14 #[.slice a l c, .int .i64 i, .int .i64 n] w fun e w' => (∃ r : Nat, e = .returned (.int .i64 r) ∧ r < n) ∧ w = w' := by
  rcases h with ⟨rfl, rfl, rfl, _⟩ | ⟨x, rfl, h1, _, h3, h4, h5⟩
  · refine (at_none i n (by omega) w).mono ?_
    rintro e w' ⟨rfl, rfl⟩
    exact ⟨⟨0, rfl, by omega⟩, rfl⟩
  · by_cases hi : l ≤ i
    · refine (at_past _ l c i n (by omega) w).mono ?_
      rintro e w' ⟨rfl, rfl⟩
      exact ⟨⟨0, rfl, by omega⟩, rfl⟩
    · have hc := h4 i (by omega)
      have hw := h5 (zs.getD i 0) (by rw [List.getD_eq_getElem?_getD, List.getElem?_eq_getElem (show i < zs.length by omega)]; exact List.getElem_mem _)
      have hz : 0 ≤ zs.getD i 0 ∧ zs.getD i 0 < 256 := by
        generalize zs.getD i 0 = z at *
        simp [Lit.wf] at hw
        have a1 : (0 : Int) ≤ z := hw.1
        have a2 : z ≤ (255 : Int) := hw.2
        omega
      generalize zs.getD i 0 = z at *
      refine (at_in x l c i n z (by omega) (by omega) hz.1 hz.2 w hc).mono ?_
      rintro e w' ⟨rfl, rfl⟩
      refine ⟨⟨(z % (n : Int)).toNat, ?_, ?_⟩, rfl⟩
      · have := Int.emod_nonneg z (show (n : Int) ≠ 0 by omega)
        rw [show (((z % (n : Int)).toNat : Nat) : Int) = z % (n : Int) by omega]
      · have h1 := Int.emod_nonneg z (show (n : Int) ≠ 0 by omega)
        have h2 := Int.emod_lt_of_pos z (show (0 : Int) < n by omega)
        omega

theorem nan_num {b : Nat} (h : nan .f32 b = false) : (FloatKind.f32.format.order b b == some .eq) = true := by rw [order_self, h]; rfl

set_option maxRecDepth 100000 in
set_option maxHeartbeats 4000000 in
theorem law_turns (a b : Option Addr) (l c l' c' : Nat) (zs zs' : List Int) (w : World) (ha : IsRow .u8 w a l c zs) (hb : IsRow .u8 w b l' c' zs') :
    Calls Try.prog 3 #[.slice a l c, .slice b l' c'] w fun e w' => e = .returned (.bool true) ∧ Below w.heap.size w w' := by
  have HL := Lib.hid (long a b l c l' c' w)
  have HA := Lib.hid (fun i n hn => at_row a l c zs w ha i n hn)
  have HB := Lib.hid (fun i n hn => at_row b l' c' zs' w hb i n hn)
  clear ha hb
  go_enter Try.func3, Try.ntmps3
  go_wp2_with fail
  refine (HL.out).mono ?_; rintro e w' ⟨⟨r, rfl⟩, rfl⟩
  cases r with
  | true =>
    go_wp2
    go_ret
    exact ⟨rfl, Below.refl _ _⟩
  | false =>
    go_wp2_with fail
    refine (HA.out 0 120 (by omega)).mono ?_; rintro e w' ⟨⟨r0, rfl, hr0⟩, rfl⟩
    go_wp2_with fail
    obtain ⟨N, hN⟩ : ∃ N : Nat, (1 : Int) + (r0 : Int) = (N : Int) := ⟨1 + r0, by omega⟩
    have h1 : 1 ≤ N := by omega
    have h2 : N ≤ 120 := by omega
    rw [hN]
    clear hN hr0 HL
    refine (HA.out 1 N h1).mono ?_; rintro e w' ⟨⟨K, rfl, hK⟩, rfl⟩
    go_wp2_with fail
    refine (HB.out 0 N h1).mono ?_; rintro e w' ⟨⟨J, rfl, hJ⟩, rfl⟩
    clear HA HB
    -- the contracts, the words behind letters
    have C1 := Lib.hid (call15 N K h1 (by omega) hK)
    have C2 := Lib.hid (call15 N J h1 (by omega) hJ)
    have C3 := Lib.hid (call15 N ((J + K) % N) h1 (by omega) (Nat.mod_lt _ (by omega)))
    have C4 := Lib.hid (call15 N ((N - K) % N) h1 (by omega) (Nat.mod_lt _ (by omega)))
    have C5 := Lib.hid (call15 (2 * N) (2 * K) (by omega) (by omega) (by omega))
    have C6 := Lib.hid (call15 (2 * N) ((2 * K + N) % (2 * N)) (by omega) (by omega) (Nat.mod_lt _ (by omega)))
    have C7 := Lib.hid (call16 N K h1 (by omega) hK)
    have C8 := Lib.hid (Cx.impl_list N h1 (by omega))
    rw [tD_frac (n := 2 * N) (k := 2 * K) (n' := N) (k' := K) (by omega) h1 (by rw [Nat.mul_assoc, Nat.mul_left_comm])] at C5
    have FW := words h1 h2 hK
    obtain ⟨p, q, s, d, pa, pb, pc, pe, pr, pi, dr, di, FS⟩ := sums h1 h2 hK hJ
    obtain ⟨o1, o2⟩ := ok_tD (n := N) (k := K) h1 (by omega) (by omega)
    have N1 := nw_ok o1
    have N2 := nw_ok o2
    clear o1 o2
    have m3 : ((J : Int) + (K : Int)).tmod (N : Int) = (((J + K) % N : Nat) : Int) := by
      rw [Int.tmod_eq_emod_of_nonneg (by omega), Int.natCast_emod, Int.natCast_add]
    have m4 : ((N : Int) - (K : Int)).tmod (N : Int) = (((N - K) % N : Nat) : Int) := by
      rw [Int.tmod_eq_emod_of_nonneg (by omega), Int.natCast_emod, Int.natCast_sub (by omega)]
    have m6 : (2 * (K : Int) + (N : Int)).tmod (2 * (N : Int)) = (((2 * K + N) % (2 * N) : Nat) : Int) := by
      rw [Int.tmod_eq_emod_of_nonneg (by omega), Int.natCast_emod]; simp
    have b3 : (J + K) % N < N := Nat.mod_lt _ (by omega)
    have b4 : (N - K) % N < N := Nat.mod_lt _ (by omega)
    have b6 : (2 * K + N) % (2 * N) < 2 * N := Nat.mod_lt _ (by omega)
    have e2N : (((2 * N : Nat)) : Int) = 2 * (N : Int) := by simp
    have e2K : (((2 * K : Nat)) : Int) = 2 * (K : Int) := by simp
    rw [e2N, e2K] at C5
    rw [e2N] at C6
    obtain ⟨⟨x1, x2⟩, hX⟩ : ∃ X, tD N K = X := ⟨_, rfl⟩
    obtain ⟨⟨y1, y2⟩, hY⟩ : ∃ X, tD N J = X := ⟨_, rfl⟩
    rw [hX] at C1 C5 C7 FW FS N1 N2
    rw [hY] at C2 FS
    generalize (J + K) % N = M3 at *
    generalize (N - K) % N = M4 at *
    generalize (2 * K + N) % (2 * N) = M6 at *
    generalize tD N M3 = Z at *
    generalize tD N M4 = W4 at *
    generalize tD (2 * N) M6 = O at *
    obtain ⟨z1, z2⟩ := Z
    obtain ⟨v1, v2⟩ := W4
    obtain ⟨u1, u2⟩ := O
    clear hY e2N e2K
    dsimp only at *
    have T1 := Lib.hid (narrow N1.1 N2.1)
    have f1 := nan_num N1.2
    have f2 := nan_num N2.2
    generalize nw x1 = n1 at *
    generalize nw x2 = n2 at *
    clear N1 N2
    have T2 := Lib.hid (same x1 x2 FW.nx1 FW.nx2)
    have f3 := FW.c1
    have f4 := FW.c2
    have f5 := FW.o1
    have f6 := FW.o2
    have T3 := Lib.hid (square FS.s1 FS.s2 FS.s3)
    have T4 := fun w => run_float_arith (P := Try.prog) w .sub 37 .f64 _ _ _ FS.s4
    have T5 := Lib.hid (size d)
    have f7 := FS.s5
    have T6 := Lib.hid (product FS.p1 FS.p2 FS.p3 FS.p4 FS.p5 FS.p6)
    have T7 := Lib.hid (apart FS.p7 FS.p8)
    have f8 := FS.p9
    have T8 := Lib.hid (conj x1 x2)
    unfold Leq at f7 f8
    clear FW FS
    generalize siz d = sd at *
    generalize aprt dr di = ap at *
    go_wp2_with fail
    refine (C1.out _).mono ?_; rintro e w' ⟨rfl, q1, rfl⟩
    go_wp2_with fail
    refine (C2.out _).mono ?_; rintro e w' ⟨rfl, q2, rfl⟩
    go_wp2_with fail
    refine (C3.out _).mono ?_; rintro e w' ⟨rfl, q3, rfl⟩
    go_wp2_with fail
    refine (C4.out _).mono ?_; rintro e w' ⟨rfl, q4, rfl⟩
    go_wp2_with fail
    refine (C5.out _).mono ?_; rintro e w' ⟨rfl, q5, rfl⟩
    go_wp2_with fail
    refine (C6.out _).mono ?_; rintro e w' ⟨rfl, q6, rfl⟩
    go_wp2_with fail
    refine (C7.out _).mono ?_; rintro e w' ⟨rfl, q7, rfl⟩
    go_wp2_with fail
    refine (C8.out _).mono ?_; rintro e w8 ⟨g, rfl, _, hg, hh, _, hb⟩
    have hc : w8.cell? ⟨g, K, none⟩ = some (.complex .f64 x1 x2) := by
      have := hh K hK
      rw [hX] at this; exact this
    have hend : Hid (Below w.heap.size w w8) := Lib.hid ((below_drewN (Below.refl w.heap.size w) _).trans hb)
    clear hh hb hX C1 C2 C3 C4 C5 C6 C7 C8
    go_wp2_with fail
    refine (T8.out _).mono ?_; rintro e w' ⟨rfl, rfl⟩
    go_wp2_with fail
    refine (T2.out _).mono ?_; rintro e w' ⟨rfl, rfl⟩
    go_wp2_with fail
    refine (T1.out _).mono ?_; rintro e w' ⟨rfl, rfl⟩
    go_wp2_with fail
    refine (T2.out _).mono ?_; rintro e w' ⟨rfl, rfl⟩
    go_wp2_with fail
    refine (T3.out _).mono ?_; rintro e w' ⟨rfl, rfl⟩
    go_wp2_with fail
    refine (T5.out _).mono ?_; rintro e w' ⟨rfl, rfl⟩
    go_wp2_with fail
    refine (T6.out _).mono ?_; rintro e w' ⟨rfl, rfl⟩
    go_wp2_with fail
    refine (T7.out _).mono ?_; rintro e w' ⟨rfl, rfl⟩
    go_wp2
    go_ret
    exact ⟨rfl, hend.out⟩

end Go.Proofs.Ytaingnnflldlhaa.Small
