/- The closed facts of the row FnExactReviewSessions. -/
import Derived.Test.YtcfncgapdmpjmaaGreatRows
import Derived.JoinedOf
set_option linter.unusedVariables false
set_option linter.unusedSimpArgs false
namespace Go.Proofs.YtcfncgapdmpjmaaGreat.fnExactReviewSessions
theorem and2 {a b : Bool} (h : a = true) (h' : b = true) : (a && b) = true := by rw [h, h']; rfl
theorem c0 : (Rows.fnExactReviewSessionsRow.wf (OpenSpec.ofChange Rows.fnExactReviewSessionsSpec)) = true := by kernel_rfl
theorem c1 : (laidOutB Tryz.prog) = true := by kernel_rfl
theorem c2 : (mapsRowed Tryz.prog) = true := by kernel_rfl
theorem c3 : (Tryz.f3.params.all (Tryz.prog.readableRec ·)) = true := by kernel_rfl
theorem c4 : (namedTie Tryz.prog Rows.fnExactReviewSessionsRow.named Rows.fnExactReviewSessionsSpec.vars) = true := by kernel_rfl
theorem c5 : (Rows.fnExactReviewSessionsRow.stops == []) = true := by kernel_rfl
theorem c6 : (Tryz.prog.stops == []) = true := by kernel_rfl
theorem c7 : (Rows.fnExactReviewSessionsRow.knobs == []) = true := by kernel_rfl
theorem c8 : (Tryz.prog.stopKnobs == []) = true := by kernel_rfl
theorem c9 : (Rows.fnExactReviewSessionsRow.inPlace == Tryz.prog.inPlace 3) = true := by kernel_rfl
theorem c10 : (Rows.fnExactReviewSessionsRow.unfollowed == Tryz.prog.unfollowed 3) = true := by kernel_rfl
theorem c11 : (Rows.fnExactReviewSessionsRow.recurses == Tryz.prog.recurses 3) = true := by kernel_rfl
theorem c12 : (Rows.fnExactReviewSessionsRow.named == Tryz.prog.varsNamed 3) = true := by kernel_rfl
theorem c13 : (Rows.fnExactReviewSessionsRow.maps == (Tryz.f3.params.toList ++ Rows.fnExactReviewSessionsSpec.plain.varTypes Tryz.prog).any (Tryz.prog.mapsRec ·)) = true := by kernel_rfl
theorem c14 : (Rows.fnExactReviewSessionsRow.ifaces == (Tryz.f3.params.toList ++ Rows.fnExactReviewSessionsSpec.plain.varTypes Tryz.prog).any (Tryz.prog.ifacesRec ·)) = true := by kernel_rfl
theorem c15 : (Rows.fnExactReviewSessionsRow.mapsOut == Tryz.prog.mapsAmong Tryz.f3.resultTypes.toList) = true := by kernel_rfl
theorem c16 : (Rows.fnExactReviewSessionsRow.loops == (Tryz.f3.params.toList ++ Rows.fnExactReviewSessionsSpec.plain.varTypes Tryz.prog).any (Tryz.prog.loopsFrom ·)) = true := by kernel_rfl
theorem c17 : (Rows.fnExactReviewSessionsRow.wideKeys == (Tryz.f3.params.toList ++ Rows.fnExactReviewSessionsSpec.plain.varTypes Tryz.prog ++ Tryz.f3.resultTypes.toList).any (Tryz.prog.wideKeysFrom ·)) = true := by kernel_rfl
theorem c18 : (Rows.fnExactReviewSessionsSpec.vars.all (Tryz.prog.varReadable ·)) = true := by kernel_rfl
theorem c19 : (Tryz.f3.resultTypes.all (fun t => Tryz.prog.readableRec t && decide (t < Tryz.prog.types.size))) = true := by kernel_rfl
theorem c20 : (Rows.fnExactReviewSessionsRow.ifacesOut == Tryz.f3.resultTypes.toList.any (Tryz.prog.ifacesRec ·)) = true := by kernel_rfl
theorem c21 : (Rows.fnExactReviewSessionsRow.loopsOut == Tryz.f3.resultTypes.toList.any (Tryz.prog.loopsFrom ·)) = true := by kernel_rfl
theorem c22 : (Rows.fnExactReviewSessionsRow.plainKeys == Tryz.prog.plainKeys) = true := by kernel_rfl
theorem c23 : (Rows.fnExactReviewSessionsRow.shortTexts.isNone) = true := by kernel_rfl
theorem c24 : (Tryz.prog.stopsHeard) = true := by kernel_rfl
theorem c25 : (Tryz.prog.mayEnter) = true := by kernel_rfl
theorem c26 : (Rows.fnExactReviewSessionsRow.lifted == Tryz.prog.liftsFinal) = true := by kernel_rfl
theorem c27 : (Tryz.prog.make == some Rows.fnExactReviewSessionsRow.make) = true := by kernel_rfl
theorem c28 : (Rows.fnExactReviewSessionsRow.kinds == (if Rows.fnExactReviewSessionsRow.domain.isEmpty then [] else Tryz.f3.params.toList.map fun t => match Tryz.prog.underlying t with | some (.int k) => some k | _ => none)) = true := by kernel_rfl
theorem c29 : (Rows.fnExactReviewSessionsRow.pinned == Rows.fnExactReviewSessionsRow.pinnedBy) = true := by kernel_rfl
theorem c30 : (Rows.fnExactReviewSessionsRow.veiled == (Tryz.f3.params.toList ++ Rows.fnExactReviewSessionsSpec.plain.varTypes Tryz.prog ++ Tryz.f3.resultTypes.toList).any (Tryz.prog.veiledRec ·)) = true := by kernel_rfl
theorem c31 : (Rows.fnExactReviewSessionsRow.veiledFits Tryz.prog Tryz.f3.params.toList (Tryz.f3.params.toList ++ Rows.fnExactReviewSessionsSpec.plain.varTypes Tryz.prog ++ Tryz.f3.resultTypes.toList)) = true := by kernel_rfl
set_option maxRecDepth 100000 in
theorem closed : joinedFacts Tryz.prog 3 Tryz.f3 Rows.fnExactReviewSessionsSpec Rows.fnExactReviewSessionsRow = true := (and2 (and2 (and2 (and2 (and2 (and2 (and2 (and2 (and2 (and2 (and2 (and2 (and2 (and2 (and2 (and2 (and2 (and2 (and2 (and2 (and2 (and2 (and2 (and2 (and2 (and2 (and2 (and2 (and2 (and2 (and2 c0 c1) c2) c3) c4) c5) c6) c7) c8) c9) c10) c11) c12) c13) c14) c15) c16) c17) c18) c19) c20) c21) c22) c23) c24) c25) c26) c27) c28) c29) c30) c31)
theorem named : Tryz.prog.funcNamed Rows.fnExactReviewSessionsRow.func = some 3 := by kernel_rfl
theorem inst : Tryz.f3.isInstance Tryz.prog Rows.fnExactReviewSessionsRow.origin Rows.fnExactReviewSessionsRow.targs := of_decide_eq_true (by kernel_rfl)
theorem wrap : Tryz.f3.isWrapper Tryz.prog Rows.fnExactReviewSessionsRow.wrapper Rows.fnExactReviewSessionsRow.mainSum := by unfold Func.isWrapper; first | (rw [if_pos (by decide +kernel)]; kernel_rfl) | (rw [if_neg (by decide +kernel)]; exact ⟨rfl, rfl⟩)
end Go.Proofs.YtcfncgapdmpjmaaGreat.fnExactReviewSessions
