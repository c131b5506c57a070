/- The walks of the small functions that the law of the turns calls. No condition. -/
import Derived.Test.YtaingnnflldlhaaTurnsLaw
import Derived.Test.YtaingnnflldlhaaTurnNarrow
import Derived.Test.YtaingnnflldlhaaUnits64
import Derived.Test.YtaingnnflldlhaaNext
import Derived.Test.YtaingnnflldlhaaProd
namespace Go.Proofs.Ytaingnnflldlhaa.Small
open Go.RowKit Fl

/-- The bytes of a slice lie in the heap. -/
def IsRow (k : IntKind) (w : World) (a : Option Addr) (len cap : Nat) (zs : List Int) : Prop :=
  (a = none ∧ len = 0 ∧ cap = 0 ∧ zs = []) ∨
  ∃ x, a = some x ∧ len ≤ cap ∧ cap ≤ maxLen ∧ zs.length = cap ∧ (∀ i, i < zs.length → w.cell? (x.add i) = some (.int k (zs.getD i 0))) ∧ ∀ n ∈ zs, (Lit.int k n).wf = true

theorem long (a b : Option Addr) (l c l' c' : Nat) (w : World) : Calls Try.prog 13 #[.slice a l c, .slice b l' c'] w fun e w' => (∃ r, e = .returned (.bool r)) ∧ w = w' := by
  by_cases h : (3000 : Int) < l
  · have h' : decide ((3000 : Int) < l) = true := decide_eq_true h
    clear h
    go_enter Try.func13, Try.ntmps13
    go_wp2
    go_ret
    exact ⟨⟨_, rfl⟩, rfl⟩
  · have h' : decide ((3000 : Int) < l) = false := decide_eq_false h
    clear h
    go_enter Try.func13, Try.ntmps13
    go_wp2
    go_ret
    exact ⟨⟨_, rfl⟩, rfl⟩

theorem at_none (i n : Int) (hi : 0 ≤ i) (w : World) : Calls Try.prog 14 #[.slice none 0 0, .int .i64 i, .int .i64 n] w fun e w' => e = .returned (.int .i64 0) ∧ w = w' := by
  have h' : decide ((0 : Int) ≤ i) = true := decide_eq_true hi
  clear hi
  go_enter Try.func14, Try.ntmps14
  go_wp2
  go_ret
  exact ⟨rfl, rfl⟩

theorem at_past (a : Option Addr) (l c : Nat) (i n : Int) (hi : (l : Int) ≤ i) (w : World) : Calls Try.prog 14 #[.slice a l c, .int .i64 i, .int .i64 n] w fun e w' => e = .returned (.int .i64 0) ∧ w = w' := by
  have h' : decide ((l : Int) ≤ i) = true := decide_eq_true hi
  clear hi
  go_enter Try.func14, Try.ntmps14
  go_wp2
  go_ret
  exact ⟨rfl, rfl⟩

theorem at_in (x : Addr) (l c : Nat) (i : Nat) (n z : Int) (hi : i < l) (hn : 1 ≤ n) (hz0 : 0 ≤ z) (hz : z < 256) (w : World) (hc : w.cell? (x.add i) = some (.int .u8 z)) :
    Calls Try.prog 14 #[.slice (some x) l c, .int .i64 i, .int .i64 n] w fun e w' => e = .returned (.int .i64 (z % n)) ∧ w = w' := by
  have h' : decide ((l : Int) ≤ i) = false := decide_eq_false (by omega)
  have h2 : decide (n < 1) = false := decide_eq_false (by omega)
  have hn0 : (n == 0) = false := by simp; omega
  have hm : z.tmod n = z % n := Int.tmod_eq_emod_of_nonneg hz0
  have hm1 : 0 ≤ z % n := Int.emod_nonneg z (by omega)
  have hm2 : z % n ≤ z := by
    have := Int.mul_ediv_add_emod z n
    have h3 : 0 ≤ n * (z / n) := Int.mul_nonneg (by omega) (Int.ediv_nonneg hz0 (by omega))
    omega
  go_enter Try.func14, Try.ntmps14
  go_wp2
  go_ret
  exact ⟨rfl, rfl⟩

theorem conj (a b : Nat) (w : World) : Calls Try.prog 18 #[.complex .f64 a b] w fun e w' => e = .returned (.complex .f64 a (Op.negFloat .f64 b)) ∧ w = w' := by
  go_enter Try.func18, Try.ntmps18
  go_wp2_with fail
  refine (TurnW.conj_spec _ _ _).mono ?_; rintro e w' ⟨rfl, rfl⟩
  go_wp2
  go_ret
  exact ⟨rfl, rfl⟩

theorem narrow {a b x y : Nat} (h1 : floatToFloatBits .f64 a .f32 = some x) (h2 : floatToFloatBits .f64 b .f32 = some y) (w : World) : Calls Try.prog 20 #[.complex .f64 a b] w fun e w' => e = .returned (.complex .f32 x y) ∧ w = w' := by
  have H := Lib.hid (TurnW.narrow_spec h1 h2)
  clear h1 h2
  go_enter Try.func20, Try.ntmps20
  go_wp2_with fail
  refine (H.out _).mono ?_; rintro e w' ⟨rfl, rfl⟩
  go_wp2
  go_ret
  exact ⟨rfl, rfl⟩

theorem square {a b p q r : Nat} (h1 : floatBits .mul .f64 a a = some p) (h2 : floatBits .mul .f64 b b = some q) (h3 : floatBits .add .f64 p q = some r) (w : World) : Calls Try.prog 22 #[.complex .f64 a b] w fun e w' => e = .returned (.float .f64 r) ∧ w = w' := by
  have c1 := fun w => run_float_arith (P := Try.prog) w .mul 37 .f64 _ _ _ h1
  have c2 := fun w => run_float_arith (P := Try.prog) w .mul 37 .f64 _ _ _ h2
  have c3 := fun w => run_float_arith (P := Try.prog) w .add 37 .f64 _ _ _ h3
  have H : ∀ w, Calls Try.prog 54 #[.complex .f64 a b] w fun e w' => e = .returned (.float .f64 r) ∧ w = w' := by
    intro w
    clear h1 h2 h3
    go_enter Try.func54, Try.ntmps54
    go_wp2
    go_ret
    exact ⟨rfl, rfl⟩
  have H := Lib.hid H
  clear h1 h2 h3 c1 c2 c3
  go_enter Try.func22, Try.ntmps22
  go_wp2_with fail
  refine (H.out _).mono ?_; rintro e w' ⟨rfl, rfl⟩
  go_wp2
  go_ret
  exact ⟨rfl, rfl⟩

theorem product {a b c d p q r s t u : Nat} (h1 : floatBits .mul .f64 a c = some p) (h2 : floatBits .mul .f64 b d = some q) (h3 : floatBits .sub .f64 p q = some r)
    (h4 : floatBits .mul .f64 a d = some s) (h5 : floatBits .mul .f64 b c = some t) (h6 : floatBits .add .f64 s t = some u) (w : World) : Calls Try.prog 24 #[.complex .f64 a b, .complex .f64 c d] w fun e w' => e = .returned (.complex .f64 r u) ∧ w = w' := by
  have c1 := fun w => run_float_arith (P := Try.prog) w .mul 37 .f64 _ _ _ h1
  have c2 := fun w => run_float_arith (P := Try.prog) w .mul 37 .f64 _ _ _ h2
  have c3 := fun w => run_float_arith (P := Try.prog) w .sub 37 .f64 _ _ _ h3
  have c4 := fun w => run_float_arith (P := Try.prog) w .mul 37 .f64 _ _ _ h4
  have c5 := fun w => run_float_arith (P := Try.prog) w .mul 37 .f64 _ _ _ h5
  have c6 := fun w => run_float_arith (P := Try.prog) w .add 37 .f64 _ _ _ h6
  have H : ∀ w, Calls Try.prog 55 #[.complex .f64 a b, .complex .f64 c d] w fun e w' => e = .returned (.complex .f64 r u) ∧ w = w' := by
    intro w
    clear h1 h2 h3 h4 h5 h6
    go_enter Try.func55, Try.ntmps55
    go_wp2
    go_ret
    exact ⟨rfl, rfl⟩
  have H := Lib.hid H
  clear h1 h2 h3 h4 h5 h6 c1 c2 c3 c4 c5 c6
  go_enter Try.func24, Try.ntmps24
  go_wp2_with fail
  refine (H.out _).mono ?_; rintro e w' ⟨rfl, rfl⟩
  go_wp2
  go_ret
  exact ⟨rfl, rfl⟩

/-- A number below a bound. -/
def Sm (a : Nat) (B : Int) : Prop := a < 18446744073709551616 ∧ rung .f64 a < FloatKind.f64.format.infRung ∧ ival .f64 a ≤ B ∧ -B ≤ ival .f64 a

/-- The size. -/
def siz (a : Nat) : Nat := if (FloatKind.f64.format.order a 0 == some .lt) = true then Op.negFloat .f64 a else a

theorem size (a : Nat) (w : World) : Calls Try.prog 21 #[.float .f64 a] w fun e w' => e = .returned (.float .f64 (siz a)) ∧ w = w' := by
  unfold siz
  cases h : (FloatKind.f64.format.order a 0 == some .lt) with
  | true =>
    rw [if_pos rfl]
    go_enter Try.func21, Try.ntmps21
    go_wp2
    go_ret
    exact ⟨rfl, rfl⟩
  | false =>
    rw [if_neg (by decide)]
    go_enter Try.func21, Try.ntmps21
    go_wp2
    go_ret
    exact ⟨rfl, rfl⟩

/-- How far apart. -/
def aprt (x y : Nat) : Nat := if (FloatKind.f64.format.order (siz y) (siz x) == some .gt) = true then siz y else siz x

theorem apart {a b c d p q : Nat} (h1 : floatBits .sub .f64 a c = some p) (h2 : floatBits .sub .f64 b d = some q) (w : World) : Calls Try.prog 23 #[.complex .f64 a b, .complex .f64 c d] w fun e w' => e = .returned (.float .f64 (aprt p q)) ∧ w = w' := by
  have c1 := fun w => run_float_arith (P := Try.prog) w .sub 37 .f64 _ _ _ h1
  have c2 := fun w => run_float_arith (P := Try.prog) w .sub 37 .f64 _ _ _ h2
  have S1 := Lib.hid (size p)
  have S2 := Lib.hid (size q)
  unfold aprt
  generalize siz p = x at *
  generalize siz q = y at *
  clear h1 h2
  cases h : (FloatKind.f64.format.order y x == some .gt) with
  | true =>
    rw [if_pos rfl]
    go_enter Try.func23, Try.ntmps23
    go_wp2_with fail
    refine (S1.out _).mono ?_; rintro e w' ⟨rfl, rfl⟩
    go_wp2_with fail
    refine (S2.out _).mono ?_; rintro e w' ⟨rfl, rfl⟩
    go_wp2
    go_ret
    exact ⟨rfl, rfl⟩
  | false =>
    rw [if_neg (by decide)]
    go_enter Try.func23, Try.ntmps23
    go_wp2_with fail
    refine (S1.out _).mono ?_; rintro e w' ⟨rfl, rfl⟩
    go_wp2_with fail
    refine (S2.out _).mono ?_; rintro e w' ⟨rfl, rfl⟩
    go_wp2
    go_ret
    exact ⟨rfl, rfl⟩

theorem same83 (a : Nat) (ha : nan .f64 a = false) (w : World) : Calls Try.prog 83 #[.float .f64 a, .float .f64 a] w fun e w' => e = .returned (.bool true) ∧ w = w' := by
  have na := self_neq .f64 a
  rw [ha] at na
  have H := Lib.hid (Units.isnan_false a na)
  clear ha na
  go_enter Try.func83, Try.ntmps83
  go_wp2_with fail
  refine (H.out _).mono ?_; rintro e w' ⟨rfl, rfl⟩
  go_wp2_with fail
  refine (H.out _).mono ?_; rintro e w' ⟨rfl, rfl⟩
  go_wp2
  go_ret
  exact ⟨by simp, rfl⟩

theorem same (a b : Nat) (ha : nan .f64 a = false) (hb : nan .f64 b = false) (w : World) : Calls Try.prog 19 #[.complex .f64 a b, .complex .f64 a b] w fun e w' => e = .returned (.bool true) ∧ w = w' := by
  have S1 := Lib.hid (same83 a ha)
  have S2 := Lib.hid (same83 b hb)
  have H : ∀ w, Calls Try.prog 52 #[.complex .f64 a b, .complex .f64 a b] w fun e w' => e = .returned (.bool true) ∧ w = w' := by
    intro w
    clear ha hb
    go_enter Try.func52, Try.ntmps52
    go_wp2_with fail
    refine (S1.out _).mono ?_; rintro e w' ⟨rfl, rfl⟩
    go_wp2_with fail
    refine (S2.out _).mono ?_; rintro e w' ⟨rfl, rfl⟩
    go_wp2
    go_ret
    exact ⟨rfl, rfl⟩
  have H := Lib.hid H
  clear ha hb S1 S2
  go_enter Try.func19, Try.ntmps19
  go_wp2_with fail
  refine (H.out _).mono ?_; rintro e w' ⟨rfl, rfl⟩
  go_wp2
  go_ret
  exact ⟨rfl, rfl⟩

/-! ### Sizes are small. -/
theorem order0 (a : Nat) (ha : rung .f64 a < FloatKind.f64.format.infRung) : FloatKind.f64.format.order a 0 = some (compare (ival .f64 a) 0) := by
  rw [order_ival .f64 a 0 ha (by decide +kernel), show ival .f64 0 = 0 by decide +kernel]

/-- The size's number is the number's size. -/
theorem siz_val {a : Nat} (h0 : a < 18446744073709551616) (ha : rung .f64 a < FloatKind.f64.format.infRung) (B : Int) (h1 : ival .f64 a ≤ B) (h2 : -B ≤ ival .f64 a) :
    rung .f64 (siz a) < FloatKind.f64.format.infRung ∧ ival .f64 (siz a) ≤ B := by
  unfold siz
  rw [order0 a ha, Go.Proofs.Ytaingnnflldlhaa.Next.cmp_lt]
  by_cases h : ival .f64 a < 0
  · rw [if_pos (by simp [h])]
    refine ⟨by rw [rung_neg h0]; exact ha, ?_⟩
    have hb := neg_bits .f64 a h0
    have hl := rung_lt64 a
    have hr := rung_neg h0
    have hs : sgn .f64 a = true := by
      cases e : sgn .f64 a with
      | true => rfl
      | false => unfold ival at h; rw [e] at h; simp at h; omega
    have hv : ival .f64 (Op.negFloat .f64 a) = -ival .f64 a := by
      rw [hs, if_pos rfl] at hb
      have hs2 : sgn .f64 (Op.negFloat .f64 a) = false := by
        rw [hb]
        unfold sgn
        rw [weight64, Nat.div_eq_of_lt hl]; rfl
      unfold ival
      rw [hs2, hs, hr]
      simp
    omega
  · rw [if_neg (by simp [h])]
    exact ⟨ha, h1⟩

theorem aprt_val {x y : Nat} (h0 : x < 18446744073709551616) (h0' : y < 18446744073709551616) (hx : rung .f64 x < FloatKind.f64.format.infRung) (hy : rung .f64 y < FloatKind.f64.format.infRung) (B : Int)
    (h1 : ival .f64 x ≤ B) (h2 : -B ≤ ival .f64 x) (h3 : ival .f64 y ≤ B) (h4 : -B ≤ ival .f64 y) : rung .f64 (aprt x y) < FloatKind.f64.format.infRung ∧ ival .f64 (aprt x y) ≤ B := by
  unfold aprt
  split
  · exact siz_val h0' hy B h3 h4
  · exact siz_val h0 hx B h1 h2

/-- What is compared with a bound. -/
theorem leq_of {a b : Nat} (ha : rung .f64 a < FloatKind.f64.format.infRung) (hb : rung .f64 b < FloatKind.f64.format.infRung) (h : ival .f64 a ≤ ival .f64 b) :
    FloatKind.f64.format.order a b = some .lt ∨ FloatKind.f64.format.order a b = some .eq := by
  rw [order_ival .f64 a b ha hb]
  rcases Int.lt_or_eq_of_le h with c | c
  · left; rw [compare_lt c]
  · right; rw [compare_same c]

theorem bound46 : ival .f64 4400016835940974592 = 4835703278458516698824704 * (G9 : Int) := by decide +kernel
theorem bound44 : ival .f64 4409024035195715584 = 19342813113834066795298816 * (G9 : Int) := by decide +kernel

end Go.Proofs.Ytaingnnflldlhaa.Small
