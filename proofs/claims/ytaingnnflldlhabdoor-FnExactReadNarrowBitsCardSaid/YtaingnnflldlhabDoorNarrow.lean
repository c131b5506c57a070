/- A narrow word widened, a wide one narrowed, alone and in a complex number: what the conversions give, whatever the tape answers for NaNs. No condition. -/
import Derived.Test.YtaingnnflldlhabDoorImpl
import Derived.Laws.ComplexArith
namespace Go.Proofs.YtaingnnflldlhabDoor
open Go.RowKit Fl

theorem flt_nan {P : Program} (s k : FloatKind) (b : Nat) (hsk : s ≠ k) (h : nan s b = true) (w : World) : (Conv.floatToFloat s b k).run P w = .ok (.float k (nanOf k b w)) w.drew := by
  obtain ⟨g, t, e⟩ := read_nan s b h
  unfold Conv.floatToFloat
  rw [if_neg hsk, e]
  rfl

theorem below_drew (w : World) : Below w.heap.size w w.drew := (Below.refl _ _).drew

theorem wide_conv (y : Nat) (hy : nan .f32 y = false → y < 4294967296) (w : World) : ∃ x W', (Conv.floatToFloat .f32 y .f64).run Tryd.prog w = .ok (.float .f64 x) W' ∧ Below w.heap.size w W' ∧ Wide x y := by
  cases h : nan .f32 y with
  | true => exact ⟨_, _, flt_nan .f32 .f64 y (by decide) h w, below_drew w, .inl ⟨nan_nanOf .., h⟩⟩
  | false =>
    obtain ⟨x, h1, h2, h3⟩ := back y (hy h) h
    exact ⟨x, w, run_floatToFloat w h1, Below.refl _ _, .inr ⟨hy h, h, h1⟩⟩

theorem narrow_conv (x y : Nat) (hx : Wide x y) (w : World) : ∃ z W', (Conv.floatToFloat .f64 x .f32).run Tryd.prog w = .ok (.float .f32 z) W' ∧ Below w.heap.size w W' ∧ Like .f32 z y := by
  rcases hx with ⟨h1, h2⟩ | ⟨h0, h1, h2⟩
  · exact ⟨_, _, flt_nan .f64 .f32 x (by decide) h1 w, below_drew w, .inl ⟨nan_nanOf .., h2⟩⟩
  · obtain ⟨x', g1, g2, g3⟩ := back y h0 h1
    rw [h2] at g1
    injection g1 with g1
    subst g1
    exact ⟨y, w, run_floatToFloat w g3, Below.refl _ _, .inr ⟨rfl, h1⟩⟩

theorem wide_at (y : Nat) (hy : nan .f32 y = false → y < 4294967296) (w : World) : ∃ x W', (convert 30 37 (.float .f32 y)).run Tryd.prog w = .ok (.float .f64 x) W' ∧ Below w.heap.size w W' ∧ Wide x y := by
  obtain ⟨x, W', h1, h2, h3⟩ := wide_conv y hy w
  exact ⟨x, W', by simp [convert, run_underlying Tryd.underlying30, run_underlying Tryd.underlying37, h1], h2, h3⟩
theorem narrow_at (x y : Nat) (hx : Wide x y) (w : World) : ∃ z W', (convert 37 30 (.float .f64 x)).run Tryd.prog w = .ok (.float .f32 z) W' ∧ Below w.heap.size w W' ∧ Like .f32 z y := by
  obtain ⟨z, W', h1, h2, h3⟩ := narrow_conv x y hx w
  exact ⟨z, W', by simp [convert, run_underlying Tryd.underlying30, run_underlying Tryd.underlying37, h1], h2, h3⟩
theorem pair_at (a b : Nat) (ha : nan .f32 a = false → a < 4294967296) (hb : nan .f32 b = false → b < 4294967296) (w : World) :
    ∃ x y W', (convert 22 26 (.complex .f32 a b)).run Tryd.prog w = .ok (.complex .f64 x y) W' ∧ Below w.heap.size w W' ∧ Wide x a ∧ Wide y b := by
  obtain ⟨x, W1, h1, b1, r1⟩ := wide_conv a ha w
  obtain ⟨y, W2, h2, b2, r2⟩ := wide_conv b hb W1
  exact ⟨x, y, W2, by simp [convert, run_underlying Tryd.underlying22, run_underlying Tryd.underlying26, Conv.complexToComplex, h1, h2], b1.trans (b2.mono b1.size), r1, r2⟩

theorem Like.bound {a b : Nat} (h : Like .f32 a b) (hb : b < 4294967296) : nan .f32 a = false → a < 4294967296 := by
  intro ha
  rcases h with ⟨h1, _⟩ | ⟨h1, _⟩
  · rw [ha] at h1; cases h1
  · rw [h1]; exact hb

/-- Two wide words of one narrow word say the same. -/
theorem wide_like {x y a b c : Nat} (h1 : Wide x a) (h2 : Wide y b) (ha : Like .f32 a c) (hb : Like .f32 b c) : Like .f64 x y := by
  rcases ha with ⟨a1, c1⟩ | ⟨a1, c1⟩
  · rcases hb with ⟨b1, _⟩ | ⟨_, b2⟩
    · rcases h1 with ⟨x1, _⟩ | ⟨_, x1, _⟩
      · rcases h2 with ⟨y1, _⟩ | ⟨_, y1, _⟩
        · exact .inl ⟨x1, y1⟩
        · rw [b1] at y1; cases y1
      · rw [a1] at x1; cases x1
    · rw [c1] at b2; cases b2
  · subst a1
    rcases hb with ⟨_, b2⟩ | ⟨b1, _⟩
    · rw [c1] at b2; cases b2
    · subst b1
      rcases h1 with ⟨_, x1⟩ | ⟨x0, x1, x2⟩
      · rw [c1] at x1; cases x1
      · rcases h2 with ⟨_, y1⟩ | ⟨_, _, y2⟩
        · rw [c1] at y1; cases y1
        · obtain ⟨r, g1, g2, _⟩ := back b x0 x1
          rw [x2] at y2 g1
          injection y2 with y2
          injection g1 with g1
          subst y2
          subst g1
          exact .inr ⟨rfl, g2⟩

end Go.Proofs.YtaingnnflldlhabDoor
