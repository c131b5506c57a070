/- The walk for NarrowTurnOf: both programs give the same narrowed words and codes, whatever the numbers. No condition. -/
import Derived.Test.YtaingnnflldlhaaTurnLaw
namespace Go.Proofs.Ytaingnnflldlhaa.TurnW
open Go.RowKit Fl

/-- A turn narrowed. -/
def nw (b : Nat) : Nat := (floatToFloatBits .f64 b .f32).getD 0
theorem nw_ok {b : Nat} (h : Ok b) : floatToFloatBits .f64 b .f32 = some (nw b) ∧ nan .f32 (nw b) = false := by
  obtain ⟨r, hr, hl⟩ := narrow_le b 19 (by omega) (by omega) h.num.fin h.num.le
  unfold nw; rw [hr]
  refine ⟨rfl, ?_⟩
  have h2 := Nat.lt_of_le_of_lt hl (topRung_lt .f32 19 (by omega))
  unfold nan
  simp; omega
/-- A narrow word widened. -/
def wd (b : Nat) : Nat := (floatToFloatBits .f32 b .f64).getD 0
theorem wd_ok {b : Nat} (h : nan .f32 b = false) : floatToFloatBits .f32 b .f64 = some (wd b) ∧ nan .f64 (wd b) = false := by
  obtain ⟨r, hr, hn⟩ := widen_num b h
  unfold wd; rw [hr]; exact ⟨rfl, hn⟩

theorem cconv {s k : FloatKind} {a b x y : Nat} (h1 : floatToFloatBits s a k = some x) (h2 : floatToFloatBits s b k = some y) : cConvBits s a b k = some (x, y) := by
  unfold cConvBits; rw [h1, h2]; rfl

theorem narrow_impl {a b x y : Nat} (h1 : floatToFloatBits .f64 a .f32 = some x) (h2 : floatToFloatBits .f64 b .f32 = some y) (w : World) : Calls Try.prog 48 #[.complex .f64 a b] w fun e w' => e = .returned (.complex .f32 x y) ∧ w = w' := by
  have c1 := fun w => run_convert_float_float (P := Try.prog) w 37 45 .f64 .f32 _ _ (by rw [Try.underlying37]; rfl) Try.underlying45 h1
  have c2 := fun w => run_convert_float_float (P := Try.prog) w 37 45 .f64 .f32 _ _ (by rw [Try.underlying37]; rfl) Try.underlying45 h2
  clear h1 h2
  go_enter Try.func48, Try.ntmps48
  go_wp2
  go_ret
  exact ⟨rfl, rfl⟩
theorem narrow_spec {a b x y : Nat} (h1 : floatToFloatBits .f64 a .f32 = some x) (h2 : floatToFloatBits .f64 b .f32 = some y) (w : World) : Calls Try.prog 53 #[.complex .f64 a b] w fun e w' => e = .returned (.complex .f32 x y) ∧ w = w' := by
  have c1 := fun w => run_convert_complex (P := Try.prog) w 25 28 .f64 .f32 _ _ _ _ (by rw [Try.underlying25]; rfl) Try.underlying28 (cconv h1 h2)
  clear h1 h2
  go_enter Try.func53, Try.ntmps53
  go_wp2
  go_ret
  exact ⟨rfl, rfl⟩

def nval (n k : Int) : Nat × Nat := (nw (tval n k).1, nw (tval n k).2)

theorem nturnOf_impl (n k : Int) (w : World) : Calls Try.prog 16 #[.int .i64 n, .int .i64 k] w fun e w' => e = .returned (.tuple #[.complex .f32 (nval n k).1 (nval n k).2, .int .i64 (tcode n k)]) ∧ ∃ m, w' = w.drewN m := by
  have H1 := Lib.hid (turnOf_impl n k)
  obtain ⟨o1, o2⟩ := ok_tval n k
  have H2 := Lib.hid (narrow_impl (nw_ok o1).1 (nw_ok o2).1)
  unfold nval
  clear o1 o2
  generalize tval n k = z at *
  generalize tcode n k = c at *
  obtain ⟨z1, z2⟩ := z
  dsimp only at *
  generalize nw z1 = x1 at *
  generalize nw z2 = x2 at *
  go_enter Try.func16, Try.ntmps16
  go_wp2_with fail
  refine (H1.out _).mono ?_; rintro e w' ⟨rfl, m, rfl⟩
  go_wp2_with fail
  refine (H2.out _).mono ?_; rintro e w' ⟨rfl, rfl⟩
  go_wp2
  go_ret2
  exact ⟨rfl, _, rfl⟩

theorem nturnOf_spec (n k : Int) (w : World) : Calls Try.prog 41 #[.int .i64 n, .int .i64 k] w fun e w' => e = .returned (.tuple #[.complex .f32 (nval n k).1 (nval n k).2, .int .i64 (tcode n k)]) ∧ w = w' := by
  have Hc := Lib.hid (code_spec n k)
  by_cases h : Valid n k
  · have e1 : tcode n k = 0 := if_pos h
    have e2 : tval n k = tD n.toNat k.toNat := if_pos h
    obtain ⟨h1, h2, h3, h4⟩ := h
    have Ht := Lib.hid (spec_D n.toNat k.toNat (by omega) (by omega) (by omega))
    rw [show ((n.toNat : Nat) : Int) = n by omega, show ((k.toNat : Nat) : Int) = k by omega] at Ht
    rw [e1] at Hc
    unfold nval
    rw [e1, e2]
    obtain ⟨o1, o2⟩ := ok_tD (n := n.toNat) (k := k.toNat) (by omega) (by omega) (by omega)
    have H2 := Lib.hid (narrow_spec (nw_ok o1).1 (nw_ok o2).1)
    clear o1 o2
    generalize tD n.toNat k.toNat = z at *
    clear e1 e2 h1 h2 h3 h4
    obtain ⟨z1, z2⟩ := z
    dsimp only at *
    generalize nw z1 = x1 at *
    generalize nw z2 = x2 at *
    go_enter Try.func41, Try.ntmps41
    go_wp2_with fail
    refine (Hc.out _).mono ?_; rintro e w' ⟨rfl, rfl⟩
    go_wp2_with fail
    refine (Ht.out _).mono ?_; rintro e w' ⟨rfl, rfl⟩
    go_wp2_with fail
    refine (H2.out _).mono ?_; rintro e w' ⟨rfl, rfl⟩
    go_wp2
    go_ret2
    exact ⟨rfl, rfl⟩
  · have e1 : tcode n k = 2 := if_neg h
    have e2 : tval n k = (0, 0) := if_neg h
    have e3 : nw 0 = 0 := by decide +kernel
    rw [e1] at Hc
    unfold nval
    rw [e1, e2]
    dsimp only
    rw [e3]
    clear e1 e2 e3 h
    go_enter Try.func41, Try.ntmps41
    go_wp2_with fail
    refine (Hc.out _).mono ?_; rintro e w' ⟨rfl, rfl⟩
    go_wp2
    go_ret2
    exact ⟨rfl, rfl⟩

theorem law_nturnOf (n k : Int) (w : World) : Calls Try.prog 11 #[.int .i64 n, .int .i64 k] w fun e w' => e = .returned (.bool true) ∧ Below w.heap.size w w' := by
  have H1 := Lib.hid (nturnOf_spec n k)
  have H2 := Lib.hid (nturnOf_impl n k)
  obtain ⟨o1, o2⟩ := ok_tval n k
  have n1 := (nw_ok o1).2
  have n2 := (nw_ok o2).2
  have c1 := fun w => run_convert_complex (P := Try.prog) w 28 25 .f32 .f64 _ _ _ _ (by rw [Try.underlying28]; rfl) Try.underlying25 (cconv (wd_ok n1).1 (wd_ok n2).1)
  have H3 := Lib.hid (same_complex _ _ (wd_ok n1).2 (wd_ok n2).2)
  unfold nval at *
  clear o1 o2 n1 n2
  generalize tval n k = z at *
  generalize tcode n k = c at *
  obtain ⟨z1, z2⟩ := z
  dsimp only at *
  generalize nw z1 = x1 at *
  generalize nw z2 = x2 at *
  generalize wd x1 = y1 at *
  generalize wd x2 = y2 at *
  go_enter Try.func11, Try.ntmps11
  go_wp2_with fail
  refine (H1.out _).mono ?_; rintro e w' ⟨rfl, rfl⟩
  go_wp2_with fail
  refine (H2.out _).mono ?_; rintro e w' ⟨rfl, m, rfl⟩
  go_wp2_with fail
  refine (H3.out _).mono ?_; rintro e w' ⟨rfl, rfl⟩
  go_wp2
  go_ret
  exact ⟨rfl, below_drewN (Below.refl _ _) _⟩

end Go.Proofs.Ytaingnnflldlhaa.TurnW
