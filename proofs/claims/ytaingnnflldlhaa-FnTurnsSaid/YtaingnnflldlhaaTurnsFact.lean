/- What the law of the turns compares, as plain facts of the turns' words. No program in sight but the contracts' names. -/
import Derived.Test.YtaingnnflldlhaaSmall
import Derived.Test.YtaingnnflldlhaaTabA
import Derived.Test.YtaingnnflldlhaaTabB
import Derived.Test.YtaingnnflldlhaaTabC
namespace Go.Proofs.Ytaingnnflldlhaa.Small
open Go.RowKit Fl TurnW Ieee

theorem turnF_all {n : Nat} (h1 : 1 ≤ n) (h2 : n ≤ 120) : turnF n = true := by
  by_cases a : n ≤ 70
  · exact ta70 n h1 a
  · by_cases b : n ≤ 100
    · exact ta100 n (by omega) b
    · exact ta120 n (by omega) h2

theorem eq_alike {a b : Nat} (ha : nan .f64 a = false) (hb : nan .f64 b = false) (h : Fl.Alike a b) : (FloatKind.f64.format.order a b == some .eq) = true := by
  rcases h with h | ⟨h1, h2⟩
  · subst h; rw [order_self, ha]; rfl
  · rw [order_plc _ _ _ ha hb]
    have e1 : plc .f64 a = 0 := by unfold plc; rw [h1]; split <;> rfl
    have e2 : plc .f64 b = 0 := by unfold plc; rw [h2]; split <;> rfl
    rw [e1, e2]; decide

/-- The words' comparisons. -/
structure Words (x1 x2 w1 w2 o1 o2 : Nat) : Prop where
  nx1 : nan .f64 x1 = false
  nx2 : nan .f64 x2 = false
  c1 : (FloatKind.f64.format.order w1 x1 == some .eq) = true
  c2 : (FloatKind.f64.format.order w2 (Op.negFloat .f64 x2) == some .eq) = true
  o1 : (FloatKind.f64.format.order o1 (Op.negFloat .f64 x1) == some .eq) = true
  o2 : (FloatKind.f64.format.order o2 (Op.negFloat .f64 x2) == some .eq) = true

theorem words {N K : Nat} (h1 : 1 ≤ N) (h2 : N ≤ 120) (hk : K < N) : Words (tD N K).1 (tD N K).2 (tD N ((N - K) % N)).1 (tD N ((N - K) % N)).2 (tD (2 * N) ((2 * K + N) % (2 * N))).1 (tD (2 * N) ((2 * K + N) % (2 * N))).2 := by
  obtain ⟨a1, a2⟩ := ok_tD (n := N) (k := K) h1 (by omega) (by omega)
  have m1 : (N - K) % N ≤ N := Nat.le_of_lt (Nat.mod_lt _ (by omega))
  have m2 : (2 * K + N) % (2 * N) ≤ 2 * N := Nat.le_of_lt (Nat.mod_lt _ (by omega))
  obtain ⟨b1, b2⟩ := ok_tD (n := N) (k := (N - K) % N) h1 (by omega) m1
  obtain ⟨d1, d2⟩ := ok_tD (n := 2 * N) (k := (2 * K + N) % (2 * N)) (by omega) (by omega) m2
  obtain ⟨e1, e2⟩ := tD_conj h1 hk
  obtain ⟨f1, f2⟩ := tD_opposite h1 hk (fun m j hm hm' hj => ⟨(ok_tC hm (by omega) hj).1.lt, (ok_tC hm (by omega) hj).2.lt⟩)
  exact ⟨a1.notNan, a2.notNan, eq_alike b1.notNan a1.notNan (.inl e1), eq_alike b2.notNan a2.neg.notNan e2, eq_alike d1.notNan a1.neg.notNan f1, eq_alike d2.notNan a2.neg.notNan f2⟩

/-- A float below a bound, as the program compares it. -/
def Leq (a b : Nat) : Prop := (FloatKind.f64.format.order a b == some .lt || FloatKind.f64.format.order a b == some .eq) = true

theorem leq_bool {a b : Nat} (ha : rung .f64 a < FloatKind.f64.format.infRung) (hb : rung .f64 b < FloatKind.f64.format.infRung) (h : ival .f64 a ≤ ival .f64 b) : Leq a b := by
  unfold Leq
  rcases leq_of ha hb h with e | e <;> rw [e] <;> decide

theorem fs_lt {x y : Nat} {E : Int} (hx : Num x E) (hy : Num y E) (h1 : -60 ≤ E) (h3 : E ≤ 1021) : fs x y < 18446744073709551616 := by
  have h := (fs_ok hx hy h1 h3).1
  obtain ⟨m, i, e1, p1⟩ := read_le .f64 x E (by omega) hx.fin hx.le
  obtain ⟨n, j, e2, p2⟩ := read_le .f64 y E (by omega) hy.fin hy.le
  obtain ⟨u, v, base, e3, p3⟩ := sum_le (sgn .f64 x) (!sgn .f64 y) m n i j E p1 p2
  have hr : fs x y = FloatKind.f64.encode (.number u v base) := by
    unfold fs floatBits Format.sub
    rw [e1, e2]
    simp only [Datum.opposite]
    rw [e3]; rfl
  rw [hr, show FloatKind.f64.encode (.number u v base) = FloatKind.f64.format.nearest u v base from rfl, nearest_word]
  have h1 := rndRung_inf FloatKind.f64.format u v base
  rw [inf64'] at h1
  unfold Format.word
  have hw : FloatKind.f64.format.signWeight = 9223372036854775808 := weight64
  cases u <;> simp <;> omega

/-- The square and the product, as the program reckons them. -/
structure Sums (x1 x2 y1 y2 z1 z2 p q s d a b c e r i dr di : Nat) : Prop where
  s1 : floatBits .mul .f64 x1 x1 = some p
  s2 : floatBits .mul .f64 x2 x2 = some q
  s3 : floatBits .add .f64 p q = some s
  s4 : floatBits .sub .f64 s 4607182418800017408 = some d
  s5 : Leq (siz d) 4400016835940974592
  p1 : floatBits .mul .f64 x1 y1 = some a
  p2 : floatBits .mul .f64 x2 y2 = some b
  p3 : floatBits .sub .f64 a b = some r
  p4 : floatBits .mul .f64 x1 y2 = some c
  p5 : floatBits .mul .f64 x2 y1 = some e
  p6 : floatBits .add .f64 c e = some i
  p7 : floatBits .sub .f64 r z1 = some dr
  p8 : floatBits .sub .f64 i z2 = some di
  p9 : Leq (aprt dr di) 4409024035195715584

theorem sums {N K J : Nat} (h1 : 1 ≤ N) (h2 : N ≤ 120) (hk : K < N) (hj : J < N) : ∃ p q s d a b c e r i dr di, Sums (tD N K).1 (tD N K).2 (tD N J).1 (tD N J).2 (tD N ((J + K) % N)).1 (tD N ((J + K) % N)).2 p q s d a b c e r i dr di := by
  obtain ⟨g1, g2⟩ := turnF_ok (turnF_all h1 h2)
  have hm : (J + K) % N < N := Nat.mod_lt _ (by omega)
  have tx := turned h1 (by omega) (g1 K hk)
  have ty := turned h1 (by omega) (g1 J hj)
  have tz := turned h1 (by omega) (g1 _ hm)
  have ch := g2 K J hk hj
  rw [Nat.add_comm K J] at ch
  have cr := chk_real ch
  clear g1 g2 ch
  have sq := square_small tx
  have pr := product_small tx ty tz cr.1.1 cr.1.2 cr.2.1 cr.2.2
  generalize tD N K = X at *
  generalize tD N J = Y at *
  generalize tD N ((J + K) % N) = Z at *
  have n1 := tx.n1
  have n2 := tx.n2
  have n3 := ty.n1
  have n4 := ty.n2
  have n5 := tz.n1
  have n6 := tz.n2
  clear tx ty tz cr
  have a1 := (fm_ok n1 n1 (by omega) (by omega) (by omega)).1
  have a2 := (fm_ok n2 n2 (by omega) (by omega) (by omega)).1
  have a3 := fa_ok (mul_num n1 n1) (mul_num n2 n2) (by omega) (by omega)
  have a4 := fs_ok a3.2 (one_num.mono (show (0 : Int) ≤ 0 + 1 by omega)) (by omega) (by omega)
  have l4 := fs_lt a3.2 (one_num.mono (show (0 : Int) ≤ 0 + 1 by omega)) (by omega) (by omega)
  have b1 := (fm_ok n1 n3 (by omega) (by omega) (by omega)).1
  have b2 := (fm_ok n2 n4 (by omega) (by omega) (by omega)).1
  have b3 := fs_ok (mul_num n1 n3) (mul_num n2 n4) (by omega) (by omega)
  have b4 := (fm_ok n1 n4 (by omega) (by omega) (by omega)).1
  have b5 := (fm_ok n2 n3 (by omega) (by omega) (by omega)).1
  have b6 := fa_ok (mul_num n1 n4) (mul_num n2 n3) (by omega) (by omega)
  have b7 := fs_ok b3.2 (n5.mono (show (0 : Int) ≤ 0 + 1 by omega)) (by omega) (by omega)
  have b8 := fs_ok b6.2 (n6.mono (show (0 : Int) ≤ 0 + 1 by omega)) (by omega) (by omega)
  have l7 := fs_lt b3.2 (n5.mono (show (0 : Int) ≤ 0 + 1 by omega)) (by omega) (by omega)
  have l8 := fs_lt b6.2 (n6.mono (show (0 : Int) ≤ 0 + 1 by omega)) (by omega) (by omega)
  refine ⟨_, _, _, _, _, _, _, _, _, _, _, _, a1, a2, a3.1, a4.1, ?_, b1, b2, b3.1, b4, b5, b6.1, b7.1, b8.1, ?_⟩
  · obtain ⟨u1, u2⟩ := siz_val l4 a4.2.fin _ sq.1 sq.2
    exact leq_bool u1 (by decide +kernel) (by rw [bound46]; exact u2)
  · obtain ⟨u1, u2⟩ := aprt_val l7 l8 b7.2.fin b8.2.fin _ pr.1.1 pr.1.2 pr.2.1 pr.2.2
    exact leq_bool u1 (by decide +kernel) (by rw [bound44]; exact u2)

theorem call15 (N K : Nat) (h1 : 1 ≤ N) (h2 : N ≤ 240) (hk : K < N) (w : World) : Calls Try.prog 15 #[.int .i64 N, .int .i64 K] w fun e w' => e = .returned (.tuple #[.complex .f64 (tD N K).1 (tD N K).2, .int .i64 0]) ∧ ∃ m, w' = w.drewN m := by
  have hv : Valid (N : Int) (K : Int) := ⟨by omega, by omega, by omega, by omega⟩
  have := turnOf_impl (N : Int) (K : Int) w
  rw [show tcode (N : Int) (K : Int) = 0 from if_pos hv, show tval (N : Int) (K : Int) = tD N K from if_pos hv] at this
  exact this
theorem call16 (N K : Nat) (h1 : 1 ≤ N) (h2 : N ≤ 240) (hk : K < N) (w : World) : Calls Try.prog 16 #[.int .i64 N, .int .i64 K] w fun e w' => e = .returned (.tuple #[.complex .f32 (nw (tD N K).1) (nw (tD N K).2), .int .i64 0]) ∧ ∃ m, w' = w.drewN m := by
  have hv : Valid (N : Int) (K : Int) := ⟨by omega, by omega, by omega, by omega⟩
  have := nturnOf_impl (N : Int) (K : Int) w
  unfold nval at this
  rw [show tcode (N : Int) (K : Int) = 0 from if_pos hv, show tval (N : Int) (K : Int) = tD N K from if_pos hv] at this
  exact this

end Go.Proofs.Ytaingnnflldlhaa.Small
