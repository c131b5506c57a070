/- The reference's reading of one number, walked. No condition. -/
import Derived.Test.YtaingnnflldlhaaDoorSpec
import Derived.Test.YtaingnnflldlhaaDoorFl
import Derived.Laws.Externs
namespace Go.Proofs.YtaingnnflldlhaaDoor
open Go.RowKit Fl

@[go_sem] theorem Tryd.call13 (n : Int) (w : World) : (callFunc 13 #[.int .u64 n]).run Tryd.prog w = .ok (.value (.float .f64 n.toNat)) w := by
  rw [run_callFunc_extern Tryd.func13 (by kernel_rfl) (by kernel_rfl) (by kernel_rfl) (e := Extern.MathFloatBits.float64frombits) (by kernel_rfl)]
  rfl
@[go_sem] theorem Tryd.call26 (b : Nat) (w : World) : (callFunc 26 #[.float .f64 b]).run Tryd.prog w = .ok (.value (.int .u64 b)) w := by
  rw [run_callFunc_extern Tryd.func26 (by kernel_rfl) (by kernel_rfl) (by kernel_rfl) (e := Extern.MathFloatBits.float64bits) (by kernel_rfl)]
  rfl
@[go_sem] theorem Tryd.call19 (n : Int) (w : World) : (callFunc 19 #[.int .u32 n]).run Tryd.prog w = .ok (.value (.float .f32 n.toNat)) w := by
  rw [run_callFunc_extern Tryd.func19 (by kernel_rfl) (by kernel_rfl) (by kernel_rfl) (e := Extern.MathFloatBits.float32frombits) (by kernel_rfl)]
  rfl
@[go_sem] theorem Tryd.call25 (b : Nat) (w : World) : (callFunc 25 #[.float .f32 b]).run Tryd.prog w = .ok (.value (.int .u32 b)) w := by
  rw [run_callFunc_extern Tryd.func25 (by kernel_rfl) (by kernel_rfl) (by kernel_rfl) (e := Extern.MathFloatBits.float32bits) (by kernel_rfl)]
  rfl

theorem nan_walk (w : World) : Calls Tryd.prog 11 #[] w fun e w' => e = .returned (.float .f64 9221120237041090561) ∧ w = w' := by
  go_enter Tryd.func11, Tryd.ntmps11
  go_wp2
  go_ret
  exact ⟨rfl, rfl⟩

theorem isnan_walk (a : Nat) (w : World) : Calls Tryd.prog 14 #[.float .f64 a] w fun e w' => e = .returned (.bool (nan .f64 a)) ∧ w = w' := by
  have h := self_neq .f64 a
  go_enter Tryd.func14, Tryd.ntmps14
  go_wp2
  go_ret
  exact ⟨by rw [← h]; rfl, rfl⟩

/-- What the reference reads of one word. -/
def rdOf (q : Bool) (b : Nat × Bool) : Nat × Bool := if q then (9221120237041090561, true) else if b.2 && !nan .f64 b.1 then (b.1, true) else (0, false)

theorem read_walk (s : ByteArray) (w : World) : Calls Tryd.prog 8 #[.string s] w fun e w' => e = .returned (.tuple #[.float .f64 (rdOf (s.toList == [110, 97, 110]) (bitsOf 16 s.data.toList)).1, .bool (rdOf (s.toList == [110, 97, 110]) (bitsOf 16 s.data.toList)).2]) ∧ w = w' := by
  have H1 := Lib.hid nan_walk
  have H2 := Lib.hid (bits_walk s 16 (by omega))
  generalize bitsOf 16 s.data.toList = b at *
  obtain ⟨n, ok⟩ := b
  have H3 := Lib.hid (isnan_walk n)
  unfold rdOf
  dsimp only at *
  cases hq : (s.toList == [110, 97, 110]) with
  | true =>
    rw [if_pos rfl]
    go_enter Tryd.func8, Tryd.ntmps8
    go_wp2_with fail
    refine (H1.out _).mono ?_; rintro e w' ⟨rfl, rfl⟩
    go_wp2
    go_ret2
    exact ⟨rfl, rfl⟩
  | false =>
    rw [if_neg (by decide)]
    cases ok with
    | false =>
      go_enter Tryd.func8, Tryd.ntmps8
      go_wp2_with fail
      refine (H2.out _).mono ?_; rintro e w' ⟨rfl, rfl⟩
      go_wp2
      go_ret2
      exact ⟨rfl, rfl⟩
    | true =>
      cases hn : nan .f64 n with
      | true =>
        rw [hn] at H3
        go_enter Tryd.func8, Tryd.ntmps8
        go_wp2_with fail
        refine (H2.out _).mono ?_; rintro e w' ⟨rfl, rfl⟩
        go_wp2_with fail
        refine (H3.out _).mono ?_; rintro e w' ⟨rfl, rfl⟩
        go_wp2
        go_ret2
        exact ⟨rfl, rfl⟩
      | false =>
        rw [hn] at H3
        go_enter Tryd.func8, Tryd.ntmps8
        go_wp2_with fail
        refine (H2.out _).mono ?_; rintro e w' ⟨rfl, rfl⟩
        go_wp2_with fail
        refine (H3.out _).mono ?_; rintro e w' ⟨rfl, rfl⟩
        go_wp2
        go_ret2
        exact ⟨rfl, rfl⟩
end Go.Proofs.YtaingnnflldlhaaDoor
