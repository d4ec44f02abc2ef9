import Derived.Test.YtnnadeeoejchpaaRows
import Derived.ProofKit
set_option linter.all false
namespace Go.Proofs.Ytnnadeeoejchpaa
open Go.ChangeShapes Go.WideShapes Go.ChangeAt Go.RowKit
theorem band {a b : Bool} (h : a = true) (h' : b = true) : (a && b) = true := by rw [h, h']; rfl
theorem lexForms_j0 : (Rows.lexFormsRow.wf (OpenSpec.ofChange Rows.lexFormsSpec)) = true := by kernel_rfl
theorem lexForms_j1 : (laidOutB Try.prog) = true := by kernel_rfl
theorem lexForms_j2 : (mapsRowed Try.prog) = true := by kernel_rfl
theorem lexForms_j3 : (Try.f16.params.all (Try.prog.readableRec ·)) = true := by kernel_rfl
theorem lexForms_j4 : (namedTie Try.prog Rows.lexFormsRow.named Rows.lexFormsSpec.vars) = true := by kernel_rfl
theorem lexForms_j5 : ((Rows.lexFormsRow.stops == [])) = true := by kernel_rfl
theorem lexForms_j6 : ((Try.prog.stops == [])) = true := by kernel_rfl
theorem lexForms_j7 : ((Rows.lexFormsRow.knobs == [])) = true := by kernel_rfl
theorem lexForms_j8 : ((Try.prog.stopKnobs == [])) = true := by kernel_rfl
theorem lexForms_j9 : ((Rows.lexFormsRow.inPlace == Try.prog.inPlace 16)) = true := by kernel_rfl
theorem lexForms_j10 : ((Rows.lexFormsRow.unfollowed == Try.prog.unfollowed 16)) = true := by kernel_rfl
theorem lexForms_j11 : ((Rows.lexFormsRow.recurses == Try.prog.recurses 16)) = true := by kernel_rfl
theorem lexForms_j12 : ((Rows.lexFormsRow.named == Try.prog.varsNamed 16)) = true := by kernel_rfl
theorem lexForms_j13 : ((Rows.lexFormsRow.maps == (Try.f16.params.toList ++ Rows.lexFormsSpec.plain.varTypes Try.prog).any (Try.prog.mapsRec ·))) = true := by kernel_rfl
theorem lexForms_j14 : ((Rows.lexFormsRow.ifaces == (Try.f16.params.toList ++ Rows.lexFormsSpec.plain.varTypes Try.prog).any (Try.prog.ifacesRec ·))) = true := by kernel_rfl
theorem lexForms_j15 : ((Rows.lexFormsRow.mapsOut == Try.prog.mapsAmong Try.f16.resultTypes.toList)) = true := by kernel_rfl
theorem lexForms_j16 : ((Rows.lexFormsRow.loops == (Try.f16.params.toList ++ Rows.lexFormsSpec.plain.varTypes Try.prog).any (Try.prog.loopsFrom ·))) = true := by kernel_rfl
theorem lexForms_j17 : ((Rows.lexFormsRow.wideKeys == (Try.f16.params.toList ++ Rows.lexFormsSpec.plain.varTypes Try.prog ++ Try.f16.resultTypes.toList).any (Try.prog.wideKeysFrom ·))) = true := by kernel_rfl
theorem lexForms_j18 : (Rows.lexFormsSpec.vars.all (Try.prog.varReadable ·)) = true := by kernel_rfl
theorem lexForms_j19 : (Try.f16.resultTypes.all (fun t => Try.prog.readableRec t && decide (t < Try.prog.types.size))) = true := by kernel_rfl
theorem lexForms_j20 : ((Rows.lexFormsRow.ifacesOut == Try.f16.resultTypes.toList.any (Try.prog.ifacesRec ·))) = true := by kernel_rfl
theorem lexForms_j21 : ((Rows.lexFormsRow.loopsOut == Try.f16.resultTypes.toList.any (Try.prog.loopsFrom ·))) = true := by kernel_rfl
theorem lexForms_j22 : ((Rows.lexFormsRow.plainKeys == Try.prog.plainKeys)) = true := by kernel_rfl
theorem lexForms_j23 : (Rows.lexFormsRow.shortTexts.isNone) = true := by kernel_rfl
theorem lexForms_j24 : (Try.prog.stopsHeard) = true := by kernel_rfl
theorem lexForms_j25 : (Try.prog.mayEnter) = true := by kernel_rfl
theorem lexForms_j26 : ((Rows.lexFormsRow.lifted == Try.prog.liftsFinal)) = true := by kernel_rfl
theorem lexForms_j27 : ((Try.prog.make == some Rows.lexFormsRow.make)) = true := by kernel_rfl
theorem lexForms_j28 : ((Rows.lexFormsRow.kinds == (if Rows.lexFormsRow.domain.isEmpty then [] else Try.f16.params.toList.map fun t => match Try.prog.underlying t with | some (.int k) => some k | _ => none))) = true := by kernel_rfl
theorem lexForms_j29 : ((Rows.lexFormsRow.pinned == Rows.lexFormsRow.pinnedBy)) = true := by kernel_rfl
theorem lexForms_j30 : ((Rows.lexFormsRow.veiled == (Try.f16.params.toList ++ Rows.lexFormsSpec.plain.varTypes Try.prog ++ Try.f16.resultTypes.toList).any (Try.prog.veiledRec ·))) = true := by kernel_rfl
theorem lexForms_j31 : (Rows.lexFormsRow.veiledFits Try.prog Try.f16.params.toList (Try.f16.params.toList ++ Rows.lexFormsSpec.plain.varTypes Try.prog ++ Try.f16.resultTypes.toList)) = true := by kernel_rfl
set_option maxRecDepth 100000 in
theorem lexForms_closed : joinedFacts Try.prog 16 Try.f16 Rows.lexFormsSpec Rows.lexFormsRow = true := (band (band (band (band (band (band (band (band (band (band (band (band (band (band (band (band (band (band (band (band (band (band (band (band (band (band (band (band (band (band (band lexForms_j0 lexForms_j1) lexForms_j2) lexForms_j3) lexForms_j4) lexForms_j5) lexForms_j6) lexForms_j7) lexForms_j8) lexForms_j9) lexForms_j10) lexForms_j11) lexForms_j12) lexForms_j13) lexForms_j14) lexForms_j15) lexForms_j16) lexForms_j17) lexForms_j18) lexForms_j19) lexForms_j20) lexForms_j21) lexForms_j22) lexForms_j23) lexForms_j24) lexForms_j25) lexForms_j26) lexForms_j27) lexForms_j28) lexForms_j29) lexForms_j30) lexForms_j31)

end Go.Proofs.Ytnnadeeoejchpaa
