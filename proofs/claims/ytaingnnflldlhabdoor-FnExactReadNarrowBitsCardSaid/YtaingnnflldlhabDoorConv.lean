/- A NaN converted to the other width is a NaN, whatever the tape answers: the run of such a conversion, as the walks want it. No condition. -/
import Derived.Test.YtaingnnflldlhabDoorRnd
import Derived.WalkKit
import Derived.WalkLawsBesides
namespace Go.Proofs.YtaingnnflldlhabDoor.Fl
open Ieee

/-- The word that the tape gives for a NaN that is converted. -/
def nanOf (k : FloatKind) (b : Nat) (w : World) : Nat := (Question.nanConv k b).cut (w.tape w.drawn (.nanConv k b))

theorem nan_nanOf (k : FloatKind) (b : Nat) (w : World) : nan k (nanOf k b w) = true := by
  unfold nanOf
  generalize w.tape w.drawn (.nanConv k b) = t
  cases k
  · have hi : FloatKind.f32.format.infRung = 2139095040 := by decide +kernel
    unfold nan rung Question.cut
    rw [hi, weight32]
    simp only [decide_eq_true_eq]
    have hu := Nat.mod_lt (t / 2) (show 0 < 2 ^ 23 - 1 by decide)
    generalize t / 2 % (2 ^ 23 - 1) = u at *
    rcases Nat.mod_two_eq_zero_or_one t with e | e <;> rw [e] <;> omega
  · have hi : FloatKind.f64.format.infRung = 9218868437227405312 := by decide +kernel
    unfold nan rung Question.cut
    rw [hi, weight64]
    simp only [decide_eq_true_eq]
    have hu := Nat.mod_lt (t / 2) (show 0 < 2 ^ 52 - 1 by decide)
    generalize t / 2 % (2 ^ 52 - 1) = u at *
    rcases Nat.mod_two_eq_zero_or_one t with e | e <;> rw [e] <;> omega

theorem read_nan (k : FloatKind) (b : Nat) (h : nan k b = true) : ∃ s t, k.decode b = .nan s t := by
  have e := isNaN_read k b
  rw [h] at e
  unfold FloatKind.decode
  cases hd : k.format.read b with
  | nan s t => exact ⟨s, t, rfl⟩
  | infinity s => rw [hd] at e; cases e
  | number s m i => rw [hd] at e; cases e

theorem run_conv_nan {P : Program} (src dst : TypeId) (s k : FloatKind) (b : Nat) (hsk : s ≠ k) (hs : (P.underlying src).isSome = true) (hd : P.underlying dst = some (.float k)) (h : nan s b = true) (w : World) :
    (convert src dst (.float s b)).run P w = .ok (.float k (nanOf k b w)) w.drew := by
  obtain ⟨u, hs'⟩ := Option.isSome_iff_exists.1 hs
  obtain ⟨g, t, e⟩ := read_nan s b h
  have hc : (Conv.floatToFloat s b k).run P w = .ok (.float k (nanOf k b w)) w.drew := by
    unfold Conv.floatToFloat
    rw [if_neg hsk, e]
    rfl
  cases u <;> simp [convert, run_underlying hs', run_underlying hd, hc]
end Go.Proofs.YtaingnnflldlhabDoor.Fl
