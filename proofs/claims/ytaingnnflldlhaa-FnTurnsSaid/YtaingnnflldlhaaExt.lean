/- The entries of the model for math.Float64bits and its kin, as closed facts for the walks. No condition. -/
import Derived.Test.YtaingnnflldlhaaProg
import Derived.Laws.Externs
namespace Go.Proofs.Ytaingnnflldlhaa

@[go_sem] theorem Try.call61 (b : Nat) (w : World) : (callFunc 61 #[.float .f32 b]).run Try.prog w = .ok (.value (.int .u32 b)) w := by
  rw [run_callFunc_extern Try.func61 (by kernel_rfl) (by kernel_rfl) (by kernel_rfl) (e := Extern.MathFloatBits.float32bits) (by kernel_rfl)]
  rfl
@[go_sem] theorem Try.call66 (b : Nat) (w : World) : (callFunc 66 #[.float .f64 b]).run Try.prog w = .ok (.value (.int .u64 b)) w := by
  rw [run_callFunc_extern Try.func66 (by kernel_rfl) (by kernel_rfl) (by kernel_rfl) (e := Extern.MathFloatBits.float64bits) (by kernel_rfl)]
  rfl
@[go_sem] theorem Try.call71 (n : Int) (w : World) : (callFunc 71 #[.int .u32 n]).run Try.prog w = .ok (.value (.float .f32 n.toNat)) w := by
  rw [run_callFunc_extern Try.func71 (by kernel_rfl) (by kernel_rfl) (by kernel_rfl) (e := Extern.MathFloatBits.float32frombits) (by kernel_rfl)]
  rfl
@[go_sem] theorem Try.call85 (n : Int) (w : World) : (callFunc 85 #[.int .u64 n]).run Try.prog w = .ok (.value (.float .f64 n.toNat)) w := by
  rw [run_callFunc_extern Try.func85 (by kernel_rfl) (by kernel_rfl) (by kernel_rfl) (e := Extern.MathFloatBits.float64frombits) (by kernel_rfl)]
  rfl
@[go_sem] theorem unary_negf (k : FloatKind) (b : Nat) : Op.unary .neg (.float k b) = pure (.float k (Op.negFloat k b)) := rfl
@[go_sem] theorem unary_negc (k : FloatKind) (a b : Nat) : Op.unary .neg (.complex k a b) = pure (.complex k (Op.negFloat k a) (Op.negFloat k b)) := rfl
end Go.Proofs.Ytaingnnflldlhaa
