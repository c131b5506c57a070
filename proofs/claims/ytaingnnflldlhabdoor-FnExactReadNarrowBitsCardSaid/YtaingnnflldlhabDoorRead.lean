/- The reference's reading of one narrow number, walked. No condition. -/
import Derived.Test.YtaingnnflldlhabDoorSpec
import Derived.Test.YtaingnnflldlhabDoorBack
import Derived.Laws.Externs
namespace Go.Proofs.YtaingnnflldlhabDoor
open Go.RowKit Fl

@[go_sem] theorem Tryd.call17 (n : Int) (w : World) : (callFunc 17 #[.int .u64 n]).run Tryd.prog w = .ok (.value (.float .f64 n.toNat)) w := by
  rw [run_callFunc_extern Tryd.func17 (by kernel_rfl) (by kernel_rfl) (by kernel_rfl) (e := Extern.MathFloatBits.float64frombits) (by kernel_rfl)]
  rfl
@[go_sem] theorem Tryd.call26 (b : Nat) (w : World) : (callFunc 26 #[.float .f64 b]).run Tryd.prog w = .ok (.value (.int .u64 b)) w := by
  rw [run_callFunc_extern Tryd.func26 (by kernel_rfl) (by kernel_rfl) (by kernel_rfl) (e := Extern.MathFloatBits.float64bits) (by kernel_rfl)]
  rfl
@[go_sem] theorem Tryd.call14 (n : Int) (w : World) : (callFunc 14 #[.int .u32 n]).run Tryd.prog w = .ok (.value (.float .f32 n.toNat)) w := by
  rw [run_callFunc_extern Tryd.func14 (by kernel_rfl) (by kernel_rfl) (by kernel_rfl) (e := Extern.MathFloatBits.float32frombits) (by kernel_rfl)]
  rfl
@[go_sem] theorem Tryd.call25 (b : Nat) (w : World) : (callFunc 25 #[.float .f32 b]).run Tryd.prog w = .ok (.value (.int .u32 b)) w := by
  rw [run_callFunc_extern Tryd.func25 (by kernel_rfl) (by kernel_rfl) (by kernel_rfl) (e := Extern.MathFloatBits.float32bits) (by kernel_rfl)]
  rfl

theorem nan_walk (w : World) : Calls Tryd.prog 12 #[] w fun e w' => e = .returned (.float .f64 9221120237041090561) ∧ w = w' := by
  go_enter Tryd.func12, Tryd.ntmps12
  go_wp2
  go_ret
  exact ⟨rfl, rfl⟩

theorem rdHex_lt : ∀ (l : List UInt8) (acc n : Nat), rdHex acc l = some n → n < (acc + 1) * 16 ^ l.length := by
  intro l
  induction l with
  | nil =>
    intro acc n h
    have e : rdHex acc [] = some acc := rfl
    rw [e] at h
    injection h with h
    subst h
    simp
  | cons c l ih =>
    intro acc n h
    have e : rdHex acc (c :: l) = match hexd c.toNat with | some d => rdHex (acc * 16 + d) l | none => none := rfl
    rw [e] at h
    cases hd : hexd c.toNat with
    | none => rw [hd] at h; exact absurd h (by simp)
    | some d =>
      rw [hd] at h
      have h1 := ih _ _ h
      have h2 := hexd_lt hd
      rw [List.length_cons, Nat.pow_succ, Nat.mul_comm (16 ^ l.length) 16, ← Nat.mul_assoc]
      exact Nat.lt_of_lt_of_le h1 (Nat.mul_le_mul_right _ (by omega))

theorem bitsOf_lt (l : List UInt8) : (bitsOf 8 l).1 < 4294967296 := by
  unfold bitsOf
  split
  · rename_i hl
    cases hr : rdHex 0 l with
    | none => show 0 < 4294967296; omega
    | some n =>
      have := rdHex_lt l 0 n hr
      rw [hl] at this
      have e : (0 + 1) * 16 ^ 8 = 4294967296 := by decide
      rw [e] at this
      exact this
  · show 0 < 4294967296; omega

/-- Two narrow words that say the same: both NaN, or one word that is none. -/
def Like (k : FloatKind) (a b : Nat) : Prop := (nan k a = true ∧ nan k b = true) ∨ (a = b ∧ nan k b = false)

/-- What the reference reads of one word. -/
def rdOf (q : Bool) (b : Nat × Bool) : Nat × Bool := if q then (2143289344, true) else if b.2 && !nan .f32 b.1 then (b.1, true) else (0, false)

theorem nan_const : nan .f32 2143289344 = true := by decide +kernel
theorem nan_zero32 : nan .f32 0 = false := by decide +kernel

set_option maxRecDepth 100000 in
theorem read_walk (s : ByteArray) (w : World) : Calls Tryd.prog 8 #[.string s] w fun e w' => (∃ x, e = .returned (.tuple #[.float .f32 x, .bool (rdOf (s.toList == [110, 97, 110]) (bitsOf 8 s.data.toList)).2]) ∧ Like .f32 x (rdOf (s.toList == [110, 97, 110]) (bitsOf 8 s.data.toList)).1) ∧ Below w.heap.size w w' := by
  have H1 := Lib.hid nan_walk
  have H2 := Lib.hid (bits_walk s 8 (by omega))
  have hlt := bitsOf_lt s.data.toList
  generalize bitsOf 8 s.data.toList = b at *
  obtain ⟨n, ok⟩ := b
  have na := self_neq .f32 n
  unfold rdOf
  dsimp only at *
  cases hq : (s.toList == [110, 97, 110]) with
  | true =>
    rw [if_pos rfl]
    have hc := run_conv_nan (P := Tryd.prog) 37 30 .f64 .f32 9221120237041090561 (by decide) (by rw [Tryd.underlying37]; rfl) Tryd.underlying30 (by decide +kernel) w
    have HN := Lib.hid (nan_nanOf .f32 9221120237041090561 w)
    generalize nanOf .f32 9221120237041090561 w = x at *
    go_enter Tryd.func8, Tryd.ntmps8
    go_wp2_with fail
    refine (H1.out _).mono ?_; rintro e w' ⟨rfl, rfl⟩
    go_wp2
    go_ret2
    exact ⟨⟨x, rfl, .inl ⟨HN.out, nan_const⟩⟩, (Below.refl _ _).drew⟩
  | false =>
    rw [if_neg (by decide)]
    have i0 : (0 : Int) ≤ (n : Int) := by omega
    have i1 : (n : Int) < 4294967296 := by omega
    clear hlt
    cases ok with
    | false =>
      rw [Bool.false_and, if_neg (by decide)]
      dsimp only
      go_enter Tryd.func8, Tryd.ntmps8
      go_wp2_with fail
      refine (H2.out _).mono ?_; rintro e w' ⟨rfl, rfl⟩
      go_wp2
      go_ret2
      exact ⟨⟨0, rfl, .inr ⟨rfl, nan_zero32⟩⟩, Below.refl _ _⟩
    | true =>
      cases hn : nan .f32 n with
      | true =>
        rw [hn] at na
        rw [show (true && !true) = false from rfl, if_neg (by decide)]
        dsimp only
        go_enter Tryd.func8, Tryd.ntmps8
        go_wp2_with fail
        refine (H2.out _).mono ?_; rintro e w' ⟨rfl, rfl⟩
        go_wp2
        go_ret2
        exact ⟨⟨0, rfl, .inr ⟨rfl, nan_zero32⟩⟩, Below.refl _ _⟩
      | false =>
        rw [hn] at na
        have HN := Lib.hid hn
        rw [show (true && !false) = true from rfl, if_pos rfl]
        dsimp only
        go_enter Tryd.func8, Tryd.ntmps8
        go_wp2_with fail
        refine (H2.out _).mono ?_; rintro e w' ⟨rfl, rfl⟩
        go_wp2
        go_ret2
        exact ⟨⟨n, rfl, .inr ⟨rfl, HN.out⟩⟩, Below.refl _ _⟩
end Go.Proofs.YtaingnnflldlhabDoor
