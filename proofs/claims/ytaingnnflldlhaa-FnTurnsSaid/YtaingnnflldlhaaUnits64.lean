/- The walks for UnitsApart and NarrowUnitsApart, from the parts' contracts: both programs give the same number and code, whatever the words. -/
import Derived.Test.YtaingnnflldlhaaUnits
namespace Go.Proofs.Ytaingnnflldlhaa.Units
open Go.RowKit Fl

theorem isnan_false (a : Nat) (h : (FloatKind.f64.format.order a a != some .eq) = false) (w : World) : Calls Try.prog 63 #[.float .f64 a] w fun e w' => e = .returned (.bool false) ∧ w = w' := by
  go_enter Try.func63, Try.ntmps63
  go_wp2
  go_ret
  exact ⟨rfl, rfl⟩

/-! ### f64 -/
theorem plc_eq64 (b : Nat) (h : nan .f64 b = false) : plc .f64 b = if (FloatKind.f64.format.order b 0 == some .lt) then -(rung .f64 b : Int) else rung .f64 b := by
  rw [lt_zero _ _ h]; unfold plc
  cases sgn .f64 b <;> by_cases h0 : rung .f64 b = 0 <;> simp [h0]

theorem plc_bd64 (b : Nat) : -9223372036854775807 ≤ plc .f64 b ∧ plc .f64 b ≤ 9223372036854775807 := by
  have := rung_lt64 b
  unfold plc; split <;> omega

def val64 (a b : Nat) : Int := if nan .f64 a || nan .f64 b then 0 else ua (plc .f64 a) (plc .f64 b)
def code64 (a b : Nat) : Int := if nan .f64 a || nan .f64 b then 2 else 0

theorem spec64 (a b : Nat) (ha : a < 18446744073709551616) (hb : b < 18446744073709551616) (w : World) :
    Calls Try.prog 28 #[.float .f64 a, .float .f64 b] w fun e w' => e = .returned (.tuple #[.int .i64 (val64 a b), .int .i64 (code64 a b)]) ∧ w = w' := by
  have na := self_neq .f64 a
  have nb := self_neq .f64 b
  unfold val64 code64
  cases ea : nan .f64 a with
  | true =>
    rw [ea] at na
    clear nb
    go_enter Try.func28, Try.ntmps28
    go_wp2
    go_ret2
    exact ⟨rfl, rfl⟩
  | false =>
    rw [ea] at na
    cases eb : nan .f64 b with
    | true =>
      rw [eb] at nb
      go_enter Try.func28, Try.ntmps28
      go_wp2
      go_ret2
      exact ⟨rfl, rfl⟩
    | false =>
      rw [eb] at nb
      have Ha := Lib.hid (place64 a ha ea)
      have Hb := Lib.hid (place64 b hb eb)
      have ba := plc_bd64 a
      have bb := plc_bd64 b
      generalize plc .f64 a = p at *
      generalize plc .f64 b = q at *
      have Hc := Lib.hid (apart_any p q (by omega) (by omega) (by omega) (by omega))
      clear ea eb ha hb ba bb
      have Na := Lib.hid (isnan_false a na)
      have Nb := Lib.hid (isnan_false b nb)
      clear na nb
      go_enter Try.func28, Try.ntmps28
      go_wp2_with fail
      refine (Na.out _).mono ?_; rintro e w' ⟨rfl, rfl⟩
      go_wp2_with fail
      refine (Nb.out _).mono ?_; rintro e w' ⟨rfl, rfl⟩
      go_wp2_with fail
      refine (Ha.out _).mono ?_; rintro e w' ⟨rfl, rfl⟩
      go_wp2_with fail
      refine (Hb.out _).mono ?_; rintro e w' ⟨rfl, rfl⟩
      go_wp2_with fail
      refine (Hc.out _).mono ?_; rintro e w' ⟨rfl, rfl⟩
      go_wp2
      go_ret2
      exact ⟨rfl, rfl⟩

set_option maxHeartbeats 1000000 in
theorem impl64 (a b : Nat) (ha : a < 18446744073709551616) (hb : b < 18446744073709551616) (w : World) :
    Calls Try.prog 29 #[.float .f64 a, .float .f64 b] w fun e w' => e = .returned (.tuple #[.int .i64 (val64 a b), .int .i64 (code64 a b)]) ∧ w = w' := by
  have na := self_neq .f64 a
  have nb := self_neq .f64 b
  unfold val64 code64
  cases ea : nan .f64 a with
  | true =>
    rw [ea] at na
    clear nb
    go_enter Try.func29, Try.ntmps29
    go_wp2
    go_ret2
    exact ⟨rfl, rfl⟩
  | false =>
    rw [ea] at na
    cases eb : nan .f64 b with
    | true =>
      rw [eb] at nb
      go_enter Try.func29, Try.ntmps29
      go_wp2
      go_ret2
      exact ⟨rfl, rfl⟩
    | false =>
      rw [eb] at nb
      have Ha := Lib.hid (rank64 a ha)
      have Hb := Lib.hid (rank64 b hb)
      have ra := rung_lt64 a
      have rb := rung_lt64 b
      rw [plc_eq64 a ea, plc_eq64 b eb]
      have r0 : (0 : Int) ≤ (rung .f64 a : Int) := by omega
      have s0 : (0 : Int) ≤ (rung .f64 b : Int) := by omega
      have r1 : (rung .f64 a : Int) ≤ 9223372036854775807 := by omega
      have s1 : (rung .f64 b : Int) ≤ 9223372036854775807 := by omega
      generalize (rung .f64 a : Int) = p at *
      generalize (rung .f64 b : Int) = q at *
      clear ea eb ha hb ra rb
      cases la : (FloatKind.f64.format.order a 0 == some .lt) <;> cases lb : (FloatKind.f64.format.order b 0 == some .lt)
      · have Hc := Lib.hid (sides_same p q false r0 s0 (by omega) (by omega))
        go_enter Try.func29, Try.ntmps29
        go_wp2_with fail
        refine (Ha.out _).mono ?_; rintro e w' ⟨rfl, rfl⟩
        go_wp2_with fail
        refine (Hb.out _).mono ?_; rintro e w' ⟨rfl, rfl⟩
        go_wp2_with fail
        refine (Hc.out _).mono ?_; rintro e w' ⟨rfl, rfl⟩
        go_wp2
        go_ret2
        exact ⟨rfl, rfl⟩
      · have Hc := Lib.hid (sides_other p q false true rfl r0 s0 (by omega) (by omega))
        have He : Hid (ua (p + q) 0 = ua p (-q)) := by show _ = _; unfold ua; split <;> split <;> split <;> omega
        go_enter Try.func29, Try.ntmps29
        go_wp2_with fail
        refine (Ha.out _).mono ?_; rintro e w' ⟨rfl, rfl⟩
        go_wp2_with fail
        refine (Hb.out _).mono ?_; rintro e w' ⟨rfl, rfl⟩
        go_wp2_with fail
        refine (Hc.out _).mono ?_; rintro e w' ⟨rfl, rfl⟩
        go_wp2
        go_ret2
        exact ⟨by rw [He.out]; rfl, rfl⟩
      · have Hc := Lib.hid (sides_other p q true false rfl r0 s0 (by omega) (by omega))
        have He : Hid (ua (p + q) 0 = ua (-p) q) := by show _ = _; unfold ua; split <;> split <;> split <;> omega
        go_enter Try.func29, Try.ntmps29
        go_wp2_with fail
        refine (Ha.out _).mono ?_; rintro e w' ⟨rfl, rfl⟩
        go_wp2_with fail
        refine (Hb.out _).mono ?_; rintro e w' ⟨rfl, rfl⟩
        go_wp2_with fail
        refine (Hc.out _).mono ?_; rintro e w' ⟨rfl, rfl⟩
        go_wp2
        go_ret2
        exact ⟨by rw [He.out]; rfl, rfl⟩
      · have Hc := Lib.hid (sides_same p q true r0 s0 (by omega) (by omega))
        have He : Hid (ua p q = ua (-p) (-q)) := by show _ = _; unfold ua; split <;> split <;> split <;> omega
        go_enter Try.func29, Try.ntmps29
        go_wp2_with fail
        refine (Ha.out _).mono ?_; rintro e w' ⟨rfl, rfl⟩
        go_wp2_with fail
        refine (Hb.out _).mono ?_; rintro e w' ⟨rfl, rfl⟩
        go_wp2_with fail
        refine (Hc.out _).mono ?_; rintro e w' ⟨rfl, rfl⟩
        go_wp2
        go_ret2
        exact ⟨by rw [He.out]; rfl, rfl⟩

theorem law64 (a b : Nat) (ha : a < 18446744073709551616) (hb : b < 18446744073709551616) (w : World) :
    Calls Try.prog 6 #[.float .f64 a, .float .f64 b] w fun e w' => e = .returned (.bool true) ∧ Below w.heap.size w w' := by
  have H1 := Lib.hid (spec64 a b ha hb)
  have H2 := Lib.hid (impl64 a b ha hb)
  generalize val64 a b = n at *
  generalize code64 a b = c at *
  clear ha hb
  go_enter Try.func6, Try.ntmps6
  go_wp2_with fail
  refine (H1.out _).mono ?_; rintro e w' ⟨rfl, rfl⟩
  go_wp2_with fail
  refine (H2.out _).mono ?_; rintro e w' ⟨rfl, rfl⟩
  go_wp2
  go_ret
  exact ⟨rfl, Below.refl _ _⟩
end Go.Proofs.Ytaingnnflldlhaa.Units
