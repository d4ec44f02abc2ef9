/- 'LexForms' returns true: the given statement, without conditions. -/
import Derived.Test.YtnnadeeoejchpaaRows
import Derived.Test.YtnnadeeoejchpaaLexFormsC
import Derived.Test.YtnnadeeoejchpaaLexFormsE
import Derived.ProofKit
import Derived.Test.YtnnadeeoejchpaaLmPost
import Derived.Test.YtnnadeeoejchpaaLexFormsF
set_option linter.all false
namespace Go.Proofs.Ytnnadeeoejchpaa
open Go.ChangeShapes Go.WideShapes Go.ChangeAt Go.RowKit Go.Lm

theorem Try.own : ownKnob Try.prog.godebug = none := by kernel_rfl

theorem lexForms_body : ∃ c, Try.f16.body = some c := by
  cases h : Try.f16.body with
  | some c => exact ⟨c, rfl⟩
  | none => exact absurd (show Try.f16.body.isSome = true by kernel_rfl) (by rw [h]; simp)

theorem lexForms_call (W : World) : Calls Try.prog 16 #[] W fun e w' => e = .returned (.bool true) ∧ KeepsAll W w' := by
  obtain ⟨c, hc⟩ := lexForms_body
  exact closed_call Go.Lm.LexForms.mixed Go.Lm.LexForms.prgOk Try.func16 (by kernel_rfl) hc Go.Lm.LexForms.done

set_option maxRecDepth 100000 in
theorem lexForms_lifted (os : Os) (started : os.Started) (H : Type) (enc : TypeId × Value → H) :
    ReturnsInHanded {} Try.checked os 16 .any (Rows.lexFormsSpec.pre6 enc Try.prog Try.f16 Rows.lexFormsRow.domain false) (Rows.lexFormsSpec.post enc Try.prog Try.f16 false true false false) := by
  refine returnsInHanded_of_change (C := Try.checked) Try.own started (by kernel_rfl) Try.func16
    (ChangeSpec.witness6 (enc := enc) (C := Try.checked) false ⟨#[], #[], []⟩ 8 (by kernel_rfl) (by kernel_rfl) (by kernel_rfl) (by kernel_rfl)) ?_
  intro W base args ds gs before hval0 hW hcnd _
  have hW' := hW
  obtain ⟨p, q, hA0, hV, rfl, hfz, hnd⟩ := hW
  have hA : DataW.TrodAll enc Try.prog W 0 (fun _ => true) true Try.f16.params.toList args.toList ds p := hA0
  rw [Try.params16] at hA
  obtain ⟨rfl, rfl, rfl⟩ := trodAll_none hA
  obtain ⟨rfl, rfl⟩ := trodVars_none hV
  clear hA0 hval0
  refine (lexForms_call W).mono fun e W' ⟨he, hw⟩ => ?_
  subst he
  exact ⟨_, rfl, post_of_keep hW' (fun _ _ _ => trodAll_mk1 (shut_bool Try.underlying4 true)) (fun sp _ => trodAll_mk0) (fun _ _ => rfl) rfl hw (ok_one (by kernel_rfl) rfl (okWide_bool_mk Try.underlying4 true))⟩

theorem lexForms_holds : Rows.LexFormsSaid :=
  OpenClaim.holds_of_wide 16 Try.f16 rfl rfl rfl rfl rfl rfl rfl ⟨rfl, rfl, rfl, rfl, rfl⟩ rfl rfl rfl rfl rfl (by kernel_rfl) Try.func16 lexForms_closed
    (of_decide_eq_true (by kernel_rfl)) (by unfold Func.isWrapper; rw [if_neg (of_decide_eq_false (by kernel_rfl))]; exact ⟨rfl, rfl⟩)
    (fun os started H enc _ => lexForms_lifted os started H enc)

end Go.Proofs.Ytnnadeeoejchpaa
