/- The walk of the law FnExactCodeName: for a code outside 0 to 8, and for each of the nine codes where the table's cells hold the nine names, the Go text returns true. -/
import Derived.Test.YtebdoiddnleinaaDoorRows
import Derived.WalkKit
import Derived.ProofKit
import Derived.OpenShut
namespace Go.Proofs.YtebdoiddnleinaaDoor.fnExactCodeName
open Go.ChangeShapes Go.WideShapes Go.ChangeAt Go.RowKit
set_option linter.unusedVariables false

set_option maxHeartbeats 400000 in
theorem walk_out (a0 : Int) (w0 : (Lit.int .i64 a0).wf = true) (h : a0 < 0 ∨ 8 < a0) (w : World) :
    Calls Tryd.prog 3 #[.int .i64 a0] w fun e w' => e = .returned (.bool true) ∧ Below w.heap.size w w' := by
  rcases h with h | h
  · go_enter Tryd.func3, Tryd.ntmps3
    go_wp2
    go_ret
    exact ⟨rfl, (Below.refl _ _).alloc (Nat.le_refl _) _⟩
  · have h1 : 0 ≤ a0 := by omega
    have h2 : decide (a0 ≤ 8) = false := by simp; omega
    go_enter Tryd.func3, Tryd.ntmps3
    go_wp2
    go_ret
    exact ⟨rfl, (Below.refl _ _).alloc (Nat.le_refl _) _⟩

set_option maxHeartbeats 400000 in
theorem walk_0 (b off : Nat) (w : World) (hv : w.cell? ⟨0, 0, none⟩ = some (.slice (some ⟨b, off, none⟩) 9 9)) (hz : 0 < w.heap.size) (hb : b < w.heap.size)
    (hc : w.cell? ⟨b, off, none⟩ = some (.string ⟨#[111, 107]⟩)) :
    Calls Tryd.prog 3 #[.int .i64 0] w fun e w' => e = .returned (.bool true) ∧ Below w.heap.size w w' := by
  go_enter Tryd.func3, Tryd.ntmps3
  go_wp2
  go_ret
  exact ⟨rfl, (Below.refl _ _).alloc (Nat.le_refl _) _⟩

set_option maxHeartbeats 400000 in
theorem walk_1 (b off : Nat) (w : World) (hv : w.cell? ⟨0, 0, none⟩ = some (.slice (some ⟨b, off, none⟩) 9 9)) (hz : 0 < w.heap.size) (hb : b < w.heap.size)
    (hc : w.cell? ⟨b, off + 1, none⟩ = some (.string ⟨#[105, 110, 118, 97, 108, 105, 100]⟩)) :
    Calls Tryd.prog 3 #[.int .i64 1] w fun e w' => e = .returned (.bool true) ∧ Below w.heap.size w w' := by
  go_enter Tryd.func3, Tryd.ntmps3
  go_wp2
  go_ret
  exact ⟨rfl, (Below.refl _ _).alloc (Nat.le_refl _) _⟩

set_option maxHeartbeats 400000 in
theorem walk_2 (b off : Nat) (w : World) (hv : w.cell? ⟨0, 0, none⟩ = some (.slice (some ⟨b, off, none⟩) 9 9)) (hz : 0 < w.heap.size) (hb : b < w.heap.size)
    (hc : w.cell? ⟨b, off + 2, none⟩ = some (.string ⟨#[114, 97, 110, 103, 101]⟩)) :
    Calls Tryd.prog 3 #[.int .i64 2] w fun e w' => e = .returned (.bool true) ∧ Below w.heap.size w w' := by
  go_enter Tryd.func3, Tryd.ntmps3
  go_wp2
  go_ret
  exact ⟨rfl, (Below.refl _ _).alloc (Nat.le_refl _) _⟩

set_option maxHeartbeats 400000 in
theorem walk_3 (b off : Nat) (w : World) (hv : w.cell? ⟨0, 0, none⟩ = some (.slice (some ⟨b, off, none⟩) 9 9)) (hz : 0 < w.heap.size) (hb : b < w.heap.size)
    (hc : w.cell? ⟨b, off + 3, none⟩ = some (.string ⟨#[108, 105, 109, 105, 116]⟩)) :
    Calls Tryd.prog 3 #[.int .i64 3] w fun e w' => e = .returned (.bool true) ∧ Below w.heap.size w w' := by
  go_enter Tryd.func3, Tryd.ntmps3
  go_wp2
  go_ret
  exact ⟨rfl, (Below.refl _ _).alloc (Nat.le_refl _) _⟩

set_option maxHeartbeats 400000 in
theorem walk_4 (b off : Nat) (w : World) (hv : w.cell? ⟨0, 0, none⟩ = some (.slice (some ⟨b, off, none⟩) 9 9)) (hz : 0 < w.heap.size) (hb : b < w.heap.size)
    (hc : w.cell? ⟨b, off + 4, none⟩ = some (.string ⟨#[115, 116, 97, 116, 101]⟩)) :
    Calls Tryd.prog 3 #[.int .i64 4] w fun e w' => e = .returned (.bool true) ∧ Below w.heap.size w w' := by
  go_enter Tryd.func3, Tryd.ntmps3
  go_wp2
  go_ret
  exact ⟨rfl, (Below.refl _ _).alloc (Nat.le_refl _) _⟩

set_option maxHeartbeats 400000 in
theorem walk_5 (b off : Nat) (w : World) (hv : w.cell? ⟨0, 0, none⟩ = some (.slice (some ⟨b, off, none⟩) 9 9)) (hz : 0 < w.heap.size) (hb : b < w.heap.size)
    (hc : w.cell? ⟨b, off + 5, none⟩ = some (.string ⟨#[115, 121, 110, 116, 97, 120]⟩)) :
    Calls Tryd.prog 3 #[.int .i64 5] w fun e w' => e = .returned (.bool true) ∧ Below w.heap.size w w' := by
  go_enter Tryd.func3, Tryd.ntmps3
  go_wp2
  go_ret
  exact ⟨rfl, (Below.refl _ _).alloc (Nat.le_refl _) _⟩

set_option maxHeartbeats 400000 in
theorem walk_6 (b off : Nat) (w : World) (hv : w.cell? ⟨0, 0, none⟩ = some (.slice (some ⟨b, off, none⟩) 9 9)) (hz : 0 < w.heap.size) (hb : b < w.heap.size)
    (hc : w.cell? ⟨b, off + 6, none⟩ = some (.string ⟨#[110, 111, 116, 102, 111, 117, 110, 100]⟩)) :
    Calls Tryd.prog 3 #[.int .i64 6] w fun e w' => e = .returned (.bool true) ∧ Below w.heap.size w w' := by
  go_enter Tryd.func3, Tryd.ntmps3
  go_wp2
  go_ret
  exact ⟨rfl, (Below.refl _ _).alloc (Nat.le_refl _) _⟩

set_option maxHeartbeats 400000 in
theorem walk_7 (b off : Nat) (w : World) (hv : w.cell? ⟨0, 0, none⟩ = some (.slice (some ⟨b, off, none⟩) 9 9)) (hz : 0 < w.heap.size) (hb : b < w.heap.size)
    (hc : w.cell? ⟨b, off + 7, none⟩ = some (.string ⟨#[98, 117, 100, 103, 101, 116]⟩)) :
    Calls Tryd.prog 3 #[.int .i64 7] w fun e w' => e = .returned (.bool true) ∧ Below w.heap.size w w' := by
  go_enter Tryd.func3, Tryd.ntmps3
  go_wp2
  go_ret
  exact ⟨rfl, (Below.refl _ _).alloc (Nat.le_refl _) _⟩

set_option maxHeartbeats 400000 in
theorem walk_8 (b off : Nat) (w : World) (hv : w.cell? ⟨0, 0, none⟩ = some (.slice (some ⟨b, off, none⟩) 9 9)) (hz : 0 < w.heap.size) (hb : b < w.heap.size)
    (hc : w.cell? ⟨b, off + 8, none⟩ = some (.string ⟨#[112, 114, 111, 111, 102]⟩)) :
    Calls Tryd.prog 3 #[.int .i64 8] w fun e w' => e = .returned (.bool true) ∧ Below w.heap.size w w' := by
  go_enter Tryd.func3, Tryd.ntmps3
  go_wp2
  go_ret
  exact ⟨rfl, (Below.refl _ _).alloc (Nat.le_refl _) _⟩

end Go.Proofs.YtebdoiddnleinaaDoor.fnExactCodeName
