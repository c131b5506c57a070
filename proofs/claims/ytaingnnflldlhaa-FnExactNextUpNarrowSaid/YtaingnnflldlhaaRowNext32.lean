/- The law FnExactNextUpNarrow returns true for every float32 word, NaNs and infinities among them, whatever the tape answers for a NaN's bits: the program's NextUpNarrow gives what the reference's gives. No condition. -/
import Derived.Test.YtaingnnflldlhaaRows
import Derived.Test.YtaingnnflldlhaaPost
import Derived.Test.YtaingnnflldlhaaNext32
import Derived.OpenShut
import Derived.WalkLawsBesides
namespace Go.Proofs.Ytaingnnflldlhaa.fnExactNextUpNarrow
open Go.ChangeShapes Go.WideShapes Go.ChangeAt Go.RowKit
set_option linter.unusedVariables false

theorem own : ownKnob Try.prog.godebug = none := by kernel_rfl
theorem laidOut : laidOutB Try.prog = true := by kernel_rfl

set_option maxRecDepth 100000 in
theorem lifted (os : Os) (started : os.Started) (H : Type) (enc : TypeId × Value → H) :
    ReturnsInHanded {} Try.checked os 8 .any (Rows.fnExactNextUpNarrowSpec.pre6 enc Try.prog Try.f8 Rows.fnExactNextUpNarrowRow.domain false) (Rows.fnExactNextUpNarrowSpec.post enc Try.prog Try.f8 false true false false) := by
  refine returnsInHanded_of_change (C := Try.checked) own started (by kernel_rfl) Try.func8
    (ChangeSpec.witness6 (enc := enc) (C := Try.checked) false ⟨#[], #[.float .f32 0], []⟩ 8 (by kernel_rfl) (by kernel_rfl) (by kernel_rfl) (by kernel_rfl)) ?_
  intro W base args ds gs before hval0 hW hcnd _
  have hval : ∀ (j : Nat) t v, Try.f8.params[j]? = some t → args[j]? = some v → Value.okWide Try.prog W .any base t v := hval0
  have hW' := hW
  obtain ⟨p, q, hA0, hV, rfl, hfz, hnd⟩ := hW
  have hA : DataW.TrodAll enc Try.prog W 0 (fun _ => true) true Try.f8.params.toList args.toList ds p := hA0
  rw [Try.params8] at hA hval
  obtain ⟨v0, d0, rfl, rfl, h0⟩ := trodAll_one hA
  obtain ⟨rfl, rfl⟩ := trodVars_none hV
  obtain ⟨a0, rfl, rfl, rfl, w0⟩ := open_float Try.underlying45 (hval 0 45 v0 rfl rfl) h0
  clear hA0 hval0
  refine (Next32.law a0 (Fl.wf32 w0) W).mono fun e W' ⟨he, hb⟩ => ?_
  subst he
  exact ⟨_, rfl, Post.law_post (tb := 4) laidOut (by kernel_rfl) (by kernel_rfl) (by kernel_rfl) Try.underlying4 hW' hb rfl rfl rfl⟩

theorem over : Rows.fnExactNextUpNarrowRow.holds Try.pinned (OpenSpec.ofChange Rows.fnExactNextUpNarrowSpec) :=
  OpenClaim.holds_of_wide 8 Try.f8 rfl rfl rfl rfl rfl rfl rfl ⟨rfl, rfl, rfl, rfl, rfl⟩ rfl rfl rfl rfl rfl (by kernel_rfl) Try.func8 (by kernel_rfl)
    (of_decide_eq_true (by kernel_rfl)) (by unfold Func.isWrapper; first | (rw [if_pos (by decide +kernel)]; kernel_rfl) | (rw [if_neg (by decide +kernel)]; exact ⟨rfl, rfl⟩))
    (fun os started H enc _ => lifted os started H enc)

theorem proved : Rows.FnExactNextUpNarrowSaid :=
  over
#print axioms proved
end Go.Proofs.Ytaingnnflldlhaa.fnExactNextUpNarrow
