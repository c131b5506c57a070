/- The turns' squares are nearly 1, and their products are nearly the turns of the sums, on the bits of floats, the kernel's check given. No program in sight. -/
import Derived.Test.YtaingnnflldlhaaTab
namespace Go.Proofs.Ytaingnnflldlhaa.Fl
open Ieee

def G9 : Nat := 2 ^ 946
def W4 : Nat := 2 ^ 1074
theorem U_G : U10 = 18446744073709551616 * G9 := by decide +kernel
theorem W_G : W4 = 340282366920938463463374607431768211456 * G9 := by decide +kernel
theorem UU_G : U10 * U10 = G9 * W4 := by decide +kernel
theorem p2096 : 2 ^ 2096 = 75557863725914323419136 * G9 * W4 := by decide +kernel
theorem p1023 : 2 ^ 1023 = 151115727451828646838272 * G9 := by decide +kernel
theorem p1024 : 2 ^ 1024 = 302231454903657293676544 * G9 := by decide +kernel
theorem p1074 : 2 ^ 1074 = W4 := by decide +kernel
theorem W_pos : 0 < W4 := by decide +kernel
theorem G_pos : 0 < G9 := by decide +kernel

theorem ival_vmag (w : Nat) : (vmag FloatKind.f64.format (rung .f64 w) : Int) = ival .f64 w ∨ (vmag FloatKind.f64.format (rung .f64 w) : Int) = -ival .f64 w := by
  unfold ival; cases sgn .f64 w <;> simp

/-- A bounded value is a bounded word. -/
theorem le_ival {w : Nat} {E : Int} (hE : -1000 ≤ E) (B : Nat) (hB : 2 ^ (E + 1074).toNat = B) (h1 : ival .f64 w ≤ (B : Int)) (h2 : -(B : Int) ≤ ival .f64 w) : Le .f64 w E := by
  unfold Le
  refine Nat.le_of_not_lt fun c => ?_
  have hv := vmag_lt FloatKind.f64.format c
  rw [vmag_top FloatKind.f64.format E (by rw [lp64, frac64]; omega), lp64, show (E - -1074).toNat = (E + 1074).toNat by congr 1, hB] at hv
  rcases ival_vmag w with e | e <;> omega

theorem Fx.num {w : Nat} {v : Int} (h : Fx w v) (h1 : v ≤ 18446744073709551616) (h2 : -18446744073709551616 ≤ v) : Num w 0 := by
  have hu : (0 : Int) ≤ (U10 : Int) := Int.natCast_nonneg _
  have e := h.val
  have a1 := Int.mul_le_mul_of_nonneg_right h1 hu
  have a2 := Int.mul_le_mul_of_nonneg_right h2 hu
  have hw : (W4 : Int) = 18446744073709551616 * (U10 : Int) := by
    have h3 : W4 = 18446744073709551616 * U10 := by rw [U_G, W_G]; omega
    omega
  exact ⟨h.fin, le_ival (by omega) W4 (by rw [show ((0 : Int) + 1074).toNat = 1074 from rfl]; exact p1074) (by omega) (by omega)⟩

theorem fx_mul {x y : Nat} {a c : Int} (hx : Fx x a) (hy : Fx y c) (nx : Num x 0) (ny : Num y 0) : Near (ival .f64 (fm x y)) (a * c * (G9 : Int)) (75557863725914323419136 * G9) := by
  have h := fm_err nx ny (by omega) (by omega) (by omega)
  rw [show ((0 : Int) + 0 + 2096).toNat = 2096 from rfl, p2096, p1074, hx.val, hy.val] at h
  have e : a * (U10 : Int) * (c * (U10 : Int)) = a * c * (G9 : Int) * (W4 : Int) := by
    have h2 : (U10 : Int) * (U10 : Int) = (G9 : Int) * (W4 : Int) := by
      rw [← Int.natCast_mul, ← Int.natCast_mul, UU_G]
    rw [Int.mul_assoc (a * c), ← h2, Int.mul_assoc, Int.mul_assoc, Int.mul_left_comm (U10 : Int) c]
  rw [e] at h
  exact near_scale W_pos h

/-- All four parts of what the check needs. -/
structure Four (x1 x2 y1 y2 : Nat) : Prop where
  ac : Num (fm x1 y1) 0
  bd : Num (fm x2 y2) 0
  ad : Num (fm x1 y2) 0
  bc : Num (fm x2 y1) 0

theorem near_sub {p q r P Q : Int} {w : Nat} (hp : Near p P w) (hq : Near q Q w) (hr : Near r (p - q) (2 * w)) : r - (P - Q) ≤ 2 * (w : Int) ∧ -(2 * (w : Int)) ≤ r - (P - Q) := by
  unfold Near at *
  omega
theorem near_add {p q r P Q : Int} {w : Nat} (hp : Near p P w) (hq : Near q Q w) (hr : Near r (p + q) (2 * w)) : r - (P + Q) ≤ 2 * (w : Int) ∧ -(2 * (w : Int)) ≤ r - (P + Q) := by
  unfold Near at *
  omega

theorem mul_num {x y : Nat} (nx : Num x 0) (ny : Num y 0) : Num (fm x y) 0 := (fm_ok nx ny (by omega) (by omega) (by omega)).2.mono (by omega)

/-- A difference of two products is near. -/
theorem re_near {x1 x2 y1 y2 : Nat} {a b c d : Int} (h1 : Fx x1 a) (h2 : Fx x2 b) (h3 : Fx y1 c) (h4 : Fx y2 d) (n1 : Num x1 0) (n2 : Num x2 0) (n3 : Num y1 0) (n4 : Num y2 0) :
    ival .f64 (fs (fm x1 y1) (fm x2 y2)) - (a * c - b * d) * (G9 : Int) ≤ 151115727451828646838272 * (G9 : Int) ∧ -(151115727451828646838272 * (G9 : Int)) ≤ ival .f64 (fs (fm x1 y1) (fm x2 y2)) - (a * c - b * d) * (G9 : Int) := by
  have p := fx_mul h1 h3 n1 n3
  have q := fx_mul h2 h4 n2 n4
  have r := fs_err (mul_num n1 n3) (mul_num n2 n4) (by omega) (by omega)
  rw [show ((0 : Int) + 1023).toNat = 1023 from rfl, p1023, show 151115727451828646838272 * G9 = 2 * (75557863725914323419136 * G9) by omega] at r
  have s := near_sub p q r
  rw [Int.sub_mul]
  omega
theorem im_near {x1 x2 y1 y2 : Nat} {a b c d : Int} (h1 : Fx x1 a) (h2 : Fx x2 b) (h3 : Fx y1 c) (h4 : Fx y2 d) (n1 : Num x1 0) (n2 : Num x2 0) (n3 : Num y1 0) (n4 : Num y2 0) :
    ival .f64 (fa (fm x1 y1) (fm x2 y2)) - (a * c + b * d) * (G9 : Int) ≤ 151115727451828646838272 * (G9 : Int) ∧ -(151115727451828646838272 * (G9 : Int)) ≤ ival .f64 (fa (fm x1 y1) (fm x2 y2)) - (a * c + b * d) * (G9 : Int) := by
  have p := fx_mul h1 h3 n1 n3
  have q := fx_mul h2 h4 n2 n4
  have r := fa_err (mul_num n1 n3) (mul_num n2 n4) (by omega) (by omega)
  rw [show ((0 : Int) + 1023).toNat = 1023 from rfl, p1023, show 151115727451828646838272 * G9 = 2 * (75557863725914323419136 * G9) by omega] at r
  have s := near_add p q r
  rw [Int.add_mul]
  omega

/-- The difference to the wanted number is small: 'T' in units of 2^-128 is the exact distance. -/
theorem gap_small {s u : Nat} {P V T : Int} (hs : Num s 1) (hu : Num u 1) (hv : ival .f64 u = V * (G9 : Int)) (h1 : ival .f64 s - P * (G9 : Int) ≤ 151115727451828646838272 * (G9 : Int)) (h2 : -(151115727451828646838272 * (G9 : Int)) ≤ ival .f64 s - P * (G9 : Int))
    (h3 : P - V ≤ T) (h4 : -T ≤ P - V) : ival .f64 (fs s u) ≤ (T + 302231454903657293676544) * (G9 : Int) ∧ -((T + 302231454903657293676544) * (G9 : Int)) ≤ ival .f64 (fs s u) := by
  have r := fs_err hs hu (by omega) (by omega)
  rw [show ((1 : Int) + 1023).toNat = 1024 from rfl, p1024] at r
  obtain ⟨r1, r2⟩ := r
  have hg : (0 : Int) ≤ (G9 : Int) := Int.natCast_nonneg _
  have a1 := Int.mul_le_mul_of_nonneg_right h3 hg
  have a2 := Int.mul_le_mul_of_nonneg_right h4 hg
  rw [Int.sub_mul] at a1 a2
  rw [Int.neg_mul] at a2
  rw [hv] at r1 r2
  rw [Int.add_mul]
  generalize P * (G9 : Int) = PG at *
  generalize V * (G9 : Int) = VG at *
  generalize T * (G9 : Int) = TG at *
  omega

theorem gapF_le {L R T : Nat} (h : Nat.ble (gapF L R) T = true) : L ≤ R + T ∧ R ≤ L + T := by
  have h1 := of_ble h
  unfold gapF at h1
  rw [Nat.add_eq, Nat.sub_eq, Nat.sub_eq] at h1
  omega

theorem off_mul (a c : Nat) : ((a : Int) - 36893488147419103232) * ((c : Int) - 36893488147419103232) = (a : Int) * (c : Int) - 36893488147419103232 * (a : Int) - 36893488147419103232 * (c : Int) + 1361129467683753853853498429727072845824 := by
  rw [Int.sub_mul, Int.mul_sub, Int.mul_sub]
  omega

theorem chkG_le {K C1 C2 S T a b c d u v : Nat} (h : chkG K C1 C2 S T a b c d u v = true) :
    (a * c + K * (b + d) + C1 ≤ b * d + K * (a + c) + S * u + T ∧ b * d + K * (a + c) + S * u ≤ a * c + K * (b + d) + C1 + T) ∧
    (a * d + b * c + C2 ≤ K * (a + b + (c + d)) + S * v + T ∧ K * (a + b + (c + d)) + S * v ≤ a * d + b * c + C2 + T) := by
  unfold chkG at h
  rw [cond_eq_ite] at h
  split at h
  · rename_i h1
    exact ⟨gapF_le h1, gapF_le h⟩
  · exact absurd h Bool.false_ne_true

theorem chk_real {a b c d u v : Nat} (h : chkF a b c d u v = true) :
    (((a : Int) - 36893488147419103232) * ((c : Int) - 36893488147419103232) - ((b : Int) - 36893488147419103232) * ((d : Int) - 36893488147419103232) - 18446744073709551616 * ((u : Int) - 36893488147419103232) ≤ 4835703278458516698824704 ∧
    -4835703278458516698824704 ≤ ((a : Int) - 36893488147419103232) * ((c : Int) - 36893488147419103232) - ((b : Int) - 36893488147419103232) * ((d : Int) - 36893488147419103232) - 18446744073709551616 * ((u : Int) - 36893488147419103232)) ∧
    (((a : Int) - 36893488147419103232) * ((d : Int) - 36893488147419103232) + ((b : Int) - 36893488147419103232) * ((c : Int) - 36893488147419103232) - 18446744073709551616 * ((v : Int) - 36893488147419103232) ≤ 4835703278458516698824704 ∧
    -4835703278458516698824704 ≤ ((a : Int) - 36893488147419103232) * ((d : Int) - 36893488147419103232) + ((b : Int) - 36893488147419103232) * ((c : Int) - 36893488147419103232) - 18446744073709551616 * ((v : Int) - 36893488147419103232)) := by
  unfold chkF at h
  obtain ⟨g1, g2⟩ := chkG_le h
  rw [off_mul, off_mul, off_mul, off_mul]
  have e1 : ((a * c : Nat) : Int) = (a : Int) * (c : Int) := Int.natCast_mul _ _
  have e2 : ((b * d : Nat) : Int) = (b : Int) * (d : Int) := Int.natCast_mul _ _
  have e3 : ((a * d : Nat) : Int) = (a : Int) * (d : Int) := Int.natCast_mul _ _
  have e4 : ((b * c : Nat) : Int) = (b : Int) * (c : Int) := Int.natCast_mul _ _
  rw [← e1, ← e2, ← e3, ← e4]
  clear h e1 e2 e3 e4
  generalize a * c = ac at *
  generalize b * d = bd at *
  generalize a * d = ad at *
  generalize b * c = bc at *
  omega

theorem sq_real {a b : Nat} (h : sqF a b = true) :
    ((a : Int) - 36893488147419103232) * ((a : Int) - 36893488147419103232) + ((b : Int) - 36893488147419103232) * ((b : Int) - 36893488147419103232) - 340282366920938463463374607431768211456 ≤ 2417851639229258349412352 ∧
    -2417851639229258349412352 ≤ ((a : Int) - 36893488147419103232) * ((a : Int) - 36893488147419103232) + ((b : Int) - 36893488147419103232) * ((b : Int) - 36893488147419103232) - 340282366920938463463374607431768211456 := by
  unfold sqF at h
  rw [force_eq, force_eq, Bool.and_eq_true] at h
  have g1 := of_ble h.1
  have g2 := of_ble h.2
  rw [off_mul, off_mul]
  have e1 : ((a * a : Nat) : Int) = (a : Int) * (a : Int) := Int.natCast_mul _ _
  have e2 : ((b * b : Nat) : Int) = (b : Int) * (b : Int) := Int.natCast_mul _ _
  rw [← e1, ← e2]
  generalize a * a = ac at *
  generalize b * b = bd at *
  clear h e1 e2
  omega

/-- A turn in whole numbers. -/
structure Turned (x : Nat × Nat) (a b : Int) : Prop where
  f1 : Fx x.1 a
  f2 : Fx x.2 b
  n1 : Num x.1 0
  n2 : Num x.2 0
  sq1 : a * a + b * b - 340282366920938463463374607431768211456 ≤ 2417851639229258349412352
  sq2 : -2417851639229258349412352 ≤ a * a + b * b - 340282366920938463463374607431768211456

theorem turned {n k : Nat} (hn : 1 ≤ n) (hk : k ≤ n) (h : oneF (dC n k, dS n k) = true) : Turned (tD n k) ((dC n k : Int) - 36893488147419103232) ((dS n k : Int) - 36893488147419103232) := by
  have h' : (rngF (dC n k) && (rngF (dS n k) && sqF (dC n k) (dS n k))) = true := h
  rw [Bool.and_eq_true, Bool.and_eq_true] at h'
  obtain ⟨r1, r2, s⟩ := h'
  have a1 := rngF_ok r1
  have a2 := rngF_ok r2
  have f1 : Fx (tD n k).1 _ := dC_ok hn hk r1
  have f2 : Fx (tD n k).2 _ := dS_ok hn hk r2
  have q := sq_real s
  exact ⟨f1, f2, f1.num (by omega) (by omega), f2.num (by omega) (by omega), q.1, q.2⟩

theorem one_val : ival .f64 one = 340282366920938463463374607431768211456 * (G9 : Int) := by decide +kernel

/-- The square's distance from 1 is small. -/
theorem square_small {x : Nat × Nat} {a b : Int} (t : Turned x a b) : ival .f64 (fs (fa (fm x.1 x.1) (fm x.2 x.2)) one) ≤ 4835703278458516698824704 * (G9 : Int) ∧ -(4835703278458516698824704 * (G9 : Int)) ≤ ival .f64 (fs (fa (fm x.1 x.1) (fm x.2 x.2)) one) := by
  have h := im_near t.f1 t.f2 t.f1 t.f2 t.n1 t.n2 t.n1 t.n2
  have n : Num (fa (fm x.1 x.1) (fm x.2 x.2)) 1 := (fa_ok (mul_num t.n1 t.n1) (mul_num t.n2 t.n2) (by omega) (by omega)).2.mono (by omega)
  have g := gap_small (T := 2417851639229258349412352) n (one_num.mono (by omega)) one_val h.1 h.2 t.sq1 t.sq2
  have hg : (0 : Int) ≤ (G9 : Int) := Int.natCast_nonneg _
  omega

/-- The product's distance from the turn of the sum is small. -/
theorem product_small {x y z : Nat × Nat} {a b c d u v : Int} (tx : Turned x a b) (ty : Turned y c d) (tz : Turned z u v)
    (h1 : a * c - b * d - 18446744073709551616 * u ≤ 4835703278458516698824704) (h2 : -4835703278458516698824704 ≤ a * c - b * d - 18446744073709551616 * u)
    (h3 : a * d + b * c - 18446744073709551616 * v ≤ 4835703278458516698824704) (h4 : -4835703278458516698824704 ≤ a * d + b * c - 18446744073709551616 * v) :
    (ival .f64 (fs (fs (fm x.1 y.1) (fm x.2 y.2)) z.1) ≤ 19342813113834066795298816 * (G9 : Int) ∧ -(19342813113834066795298816 * (G9 : Int)) ≤ ival .f64 (fs (fs (fm x.1 y.1) (fm x.2 y.2)) z.1)) ∧
    (ival .f64 (fs (fa (fm x.1 y.2) (fm x.2 y.1)) z.2) ≤ 19342813113834066795298816 * (G9 : Int) ∧ -(19342813113834066795298816 * (G9 : Int)) ≤ ival .f64 (fs (fa (fm x.1 y.2) (fm x.2 y.1)) z.2)) := by
  have hg : (0 : Int) ≤ (G9 : Int) := Int.natCast_nonneg _
  have hU : (U10 : Int) = 18446744073709551616 * (G9 : Int) := by have := U_G; omega
  have e1 : ival .f64 z.1 = (18446744073709551616 * u) * (G9 : Int) := by rw [tz.f1.val, hU, Int.mul_comm 18446744073709551616 u, Int.mul_assoc]
  have e2 : ival .f64 z.2 = (18446744073709551616 * v) * (G9 : Int) := by rw [tz.f2.val, hU, Int.mul_comm 18446744073709551616 v, Int.mul_assoc]
  constructor
  · have h := re_near tx.f1 tx.f2 ty.f1 ty.f2 tx.n1 tx.n2 ty.n1 ty.n2
    have n : Num (fs (fm x.1 y.1) (fm x.2 y.2)) 1 := (fs_ok (mul_num tx.n1 ty.n1) (mul_num tx.n2 ty.n2) (by omega) (by omega)).2.mono (by omega)
    have g := gap_small (T := 4835703278458516698824704) n (tz.n1.mono (by omega)) e1 h.1 h.2 h1 h2
    omega
  · have h := im_near tx.f1 tx.f2 ty.f2 ty.f1 tx.n1 tx.n2 ty.n2 ty.n1
    have n : Num (fa (fm x.1 y.2) (fm x.2 y.1)) 1 := (fa_ok (mul_num tx.n1 ty.n2) (mul_num tx.n2 ty.n1) (by omega) (by omega)).2.mono (by omega)
    have g := gap_small (T := 4835703278458516698824704) n (tz.n2.mono (by omega)) e2 h.1 h.2 h3 h4
    omega

end Go.Proofs.Ytaingnnflldlhaa.Fl
