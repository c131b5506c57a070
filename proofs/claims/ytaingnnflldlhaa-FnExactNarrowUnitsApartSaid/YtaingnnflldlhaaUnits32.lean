/- The walks for UnitsApart and NarrowUnitsApart, from the parts' contracts: both programs give the same number and code, whatever the words. -/
import Derived.Test.YtaingnnflldlhaaUnits
namespace Go.Proofs.Ytaingnnflldlhaa.Units
open Go.RowKit Fl

/-! ### f32 -/
theorem plc_eq32 (b : Nat) (h : nan .f32 b = false) : plc .f32 b = if (FloatKind.f32.format.order b 0 == some .lt) then -(rung .f32 b : Int) else rung .f32 b := by
  rw [lt_zero _ _ h]; unfold plc
  cases sgn .f32 b <;> by_cases h0 : rung .f32 b = 0 <;> simp [h0]

theorem plc_bd32 (b : Nat) : -2147483647 ≤ plc .f32 b ∧ plc .f32 b ≤ 2147483647 := by
  have := rung_lt32 b
  unfold plc; split <;> omega

def val32 (a b : Nat) : Int := if nan .f32 a || nan .f32 b then 0 else ua (plc .f32 a) (plc .f32 b)
def code32 (a b : Nat) : Int := if nan .f32 a || nan .f32 b then 2 else 0

theorem spec32 (a b : Nat) (ha : a < 4294967296) (hb : b < 4294967296) (w : World) :
    Calls Try.prog 26 #[.float .f32 a, .float .f32 b] w fun e w' => e = .returned (.tuple #[.int .i64 (val32 a b), .int .i64 (code32 a b)]) ∧ w = w' := by
  have na := self_neq .f32 a
  have nb := self_neq .f32 b
  unfold val32 code32
  cases ea : nan .f32 a with
  | true =>
    rw [ea] at na
    clear nb
    go_enter Try.func26, Try.ntmps26
    go_wp2
    go_ret2
    exact ⟨rfl, rfl⟩
  | false =>
    rw [ea] at na
    cases eb : nan .f32 b with
    | true =>
      rw [eb] at nb
      go_enter Try.func26, Try.ntmps26
      go_wp2
      go_ret2
      exact ⟨rfl, rfl⟩
    | false =>
      rw [eb] at nb
      have Ha := Lib.hid (place32 a ha ea)
      have Hb := Lib.hid (place32 b hb eb)
      have ba := plc_bd32 a
      have bb := plc_bd32 b
      generalize plc .f32 a = p at *
      generalize plc .f32 b = q at *
      have Hc := Lib.hid (apart_any p q (by omega) (by omega) (by omega) (by omega))
      clear ea eb ha hb ba bb
      go_enter Try.func26, Try.ntmps26
      go_wp2_with fail
      refine (Ha.out _).mono ?_; rintro e w' ⟨rfl, rfl⟩
      go_wp2_with fail
      refine (Hb.out _).mono ?_; rintro e w' ⟨rfl, rfl⟩
      go_wp2_with fail
      refine (Hc.out _).mono ?_; rintro e w' ⟨rfl, rfl⟩
      go_wp2
      go_ret2
      exact ⟨rfl, rfl⟩

set_option maxHeartbeats 1000000 in
theorem impl32 (a b : Nat) (ha : a < 4294967296) (hb : b < 4294967296) (w : World) :
    Calls Try.prog 27 #[.float .f32 a, .float .f32 b] w fun e w' => e = .returned (.tuple #[.int .i64 (val32 a b), .int .i64 (code32 a b)]) ∧ w = w' := by
  have na := self_neq .f32 a
  have nb := self_neq .f32 b
  unfold val32 code32
  cases ea : nan .f32 a with
  | true =>
    rw [ea] at na
    clear nb
    go_enter Try.func27, Try.ntmps27
    go_wp2
    go_ret2
    exact ⟨rfl, rfl⟩
  | false =>
    rw [ea] at na
    cases eb : nan .f32 b with
    | true =>
      rw [eb] at nb
      go_enter Try.func27, Try.ntmps27
      go_wp2
      go_ret2
      exact ⟨rfl, rfl⟩
    | false =>
      rw [eb] at nb
      have Ha := Lib.hid (rank32 a ha)
      have Hb := Lib.hid (rank32 b hb)
      have ra := rung_lt32 a
      have rb := rung_lt32 b
      rw [plc_eq32 a ea, plc_eq32 b eb]
      have r0 : (0 : Int) ≤ (rung .f32 a : Int) := by omega
      have s0 : (0 : Int) ≤ (rung .f32 b : Int) := by omega
      have r1 : (rung .f32 a : Int) ≤ 2147483647 := by omega
      have s1 : (rung .f32 b : Int) ≤ 2147483647 := by omega
      generalize (rung .f32 a : Int) = p at *
      generalize (rung .f32 b : Int) = q at *
      clear ea eb ha hb ra rb
      cases la : (FloatKind.f32.format.order a 0 == some .lt) <;> cases lb : (FloatKind.f32.format.order b 0 == some .lt)
      · have Hc := Lib.hid (sides_same p q false r0 s0 (by omega) (by omega))
        go_enter Try.func27, Try.ntmps27
        go_wp2_with fail
        refine (Ha.out _).mono ?_; rintro e w' ⟨rfl, rfl⟩
        go_wp2_with fail
        refine (Hb.out _).mono ?_; rintro e w' ⟨rfl, rfl⟩
        go_wp2_with fail
        refine (Hc.out _).mono ?_; rintro e w' ⟨rfl, rfl⟩
        go_wp2
        go_ret2
        exact ⟨rfl, rfl⟩
      · have Hc := Lib.hid (sides_other p q false true rfl r0 s0 (by omega) (by omega))
        have He : Hid (ua (p + q) 0 = ua p (-q)) := by show _ = _; unfold ua; split <;> split <;> split <;> omega
        go_enter Try.func27, Try.ntmps27
        go_wp2_with fail
        refine (Ha.out _).mono ?_; rintro e w' ⟨rfl, rfl⟩
        go_wp2_with fail
        refine (Hb.out _).mono ?_; rintro e w' ⟨rfl, rfl⟩
        go_wp2_with fail
        refine (Hc.out _).mono ?_; rintro e w' ⟨rfl, rfl⟩
        go_wp2
        go_ret2
        exact ⟨by rw [He.out]; rfl, rfl⟩
      · have Hc := Lib.hid (sides_other p q true false rfl r0 s0 (by omega) (by omega))
        have He : Hid (ua (p + q) 0 = ua (-p) q) := by show _ = _; unfold ua; split <;> split <;> split <;> omega
        go_enter Try.func27, Try.ntmps27
        go_wp2_with fail
        refine (Ha.out _).mono ?_; rintro e w' ⟨rfl, rfl⟩
        go_wp2_with fail
        refine (Hb.out _).mono ?_; rintro e w' ⟨rfl, rfl⟩
        go_wp2_with fail
        refine (Hc.out _).mono ?_; rintro e w' ⟨rfl, rfl⟩
        go_wp2
        go_ret2
        exact ⟨by rw [He.out]; rfl, rfl⟩
      · have Hc := Lib.hid (sides_same p q true r0 s0 (by omega) (by omega))
        have He : Hid (ua p q = ua (-p) (-q)) := by show _ = _; unfold ua; split <;> split <;> split <;> omega
        go_enter Try.func27, Try.ntmps27
        go_wp2_with fail
        refine (Ha.out _).mono ?_; rintro e w' ⟨rfl, rfl⟩
        go_wp2_with fail
        refine (Hb.out _).mono ?_; rintro e w' ⟨rfl, rfl⟩
        go_wp2_with fail
        refine (Hc.out _).mono ?_; rintro e w' ⟨rfl, rfl⟩
        go_wp2
        go_ret2
        exact ⟨by rw [He.out]; rfl, rfl⟩

theorem law32 (a b : Nat) (ha : a < 4294967296) (hb : b < 4294967296) (w : World) :
    Calls Try.prog 5 #[.float .f32 a, .float .f32 b] w fun e w' => e = .returned (.bool true) ∧ Below w.heap.size w w' := by
  have H1 := Lib.hid (spec32 a b ha hb)
  have H2 := Lib.hid (impl32 a b ha hb)
  generalize val32 a b = n at *
  generalize code32 a b = c at *
  clear ha hb
  go_enter Try.func5, Try.ntmps5
  go_wp2_with fail
  refine (H1.out _).mono ?_; rintro e w' ⟨rfl, rfl⟩
  go_wp2_with fail
  refine (H2.out _).mono ?_; rintro e w' ⟨rfl, rfl⟩
  go_wp2
  go_ret
  exact ⟨rfl, Below.refl _ _⟩
end Go.Proofs.Ytaingnnflldlhaa.Units
