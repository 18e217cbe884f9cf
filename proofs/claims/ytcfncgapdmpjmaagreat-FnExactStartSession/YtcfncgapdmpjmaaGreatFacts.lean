/- The closed facts of the row FnExactStartSession. -/
import Derived.Test.YtcfncgapdmpjmaaGreatRows
import Derived.JoinedOf
set_option linter.unusedVariables false
set_option linter.unusedSimpArgs false
namespace Go.Proofs.YtcfncgapdmpjmaaGreat.fnExactStartSession
theorem and2 {a b : Bool} (h : a = true) (h' : b = true) : (a && b) = true := by rw [h, h']; rfl
theorem c0 : (Rows.fnExactStartSessionRow.wf (OpenSpec.ofChange Rows.fnExactStartSessionSpec)) = true := by kernel_rfl
theorem c1 : (laidOutB Tryz.prog) = true := by kernel_rfl
theorem c2 : (mapsRowed Tryz.prog) = true := by kernel_rfl
theorem c3 : (Tryz.f4.params.all (Tryz.prog.readableRec ·)) = true := by kernel_rfl
theorem c4 : (namedTie Tryz.prog Rows.fnExactStartSessionRow.named Rows.fnExactStartSessionSpec.vars) = true := by kernel_rfl
theorem c5 : (Rows.fnExactStartSessionRow.stops == []) = true := by kernel_rfl
theorem c6 : (Tryz.prog.stops == []) = true := by kernel_rfl
theorem c7 : (Rows.fnExactStartSessionRow.knobs == []) = true := by kernel_rfl
theorem c8 : (Tryz.prog.stopKnobs == []) = true := by kernel_rfl
theorem c9 : (Rows.fnExactStartSessionRow.inPlace == Tryz.prog.inPlace 4) = true := by kernel_rfl
theorem c10 : (Rows.fnExactStartSessionRow.unfollowed == Tryz.prog.unfollowed 4) = true := by kernel_rfl
theorem c11 : (Rows.fnExactStartSessionRow.recurses == Tryz.prog.recurses 4) = true := by kernel_rfl
theorem c12 : (Rows.fnExactStartSessionRow.named == Tryz.prog.varsNamed 4) = true := by kernel_rfl
theorem c13 : (Rows.fnExactStartSessionRow.maps == (Tryz.f4.params.toList ++ Rows.fnExactStartSessionSpec.plain.varTypes Tryz.prog).any (Tryz.prog.mapsRec ·)) = true := by kernel_rfl
theorem c14 : (Rows.fnExactStartSessionRow.ifaces == (Tryz.f4.params.toList ++ Rows.fnExactStartSessionSpec.plain.varTypes Tryz.prog).any (Tryz.prog.ifacesRec ·)) = true := by kernel_rfl
theorem c15 : (Rows.fnExactStartSessionRow.mapsOut == Tryz.prog.mapsAmong Tryz.f4.resultTypes.toList) = true := by kernel_rfl
theorem c16 : (Rows.fnExactStartSessionRow.loops == (Tryz.f4.params.toList ++ Rows.fnExactStartSessionSpec.plain.varTypes Tryz.prog).any (Tryz.prog.loopsFrom ·)) = true := by kernel_rfl
theorem c17 : (Rows.fnExactStartSessionRow.wideKeys == (Tryz.f4.params.toList ++ Rows.fnExactStartSessionSpec.plain.varTypes Tryz.prog ++ Tryz.f4.resultTypes.toList).any (Tryz.prog.wideKeysFrom ·)) = true := by kernel_rfl
theorem c18 : (Rows.fnExactStartSessionSpec.vars.all (Tryz.prog.varReadable ·)) = true := by kernel_rfl
theorem c19 : (Tryz.f4.resultTypes.all (fun t => Tryz.prog.readableRec t && decide (t < Tryz.prog.types.size))) = true := by kernel_rfl
theorem c20 : (Rows.fnExactStartSessionRow.ifacesOut == Tryz.f4.resultTypes.toList.any (Tryz.prog.ifacesRec ·)) = true := by kernel_rfl
theorem c21 : (Rows.fnExactStartSessionRow.loopsOut == Tryz.f4.resultTypes.toList.any (Tryz.prog.loopsFrom ·)) = true := by kernel_rfl
theorem c22 : (Rows.fnExactStartSessionRow.plainKeys == Tryz.prog.plainKeys) = true := by kernel_rfl
theorem c23 : (Rows.fnExactStartSessionRow.shortTexts.isNone) = true := by kernel_rfl
theorem c24 : (Tryz.prog.stopsHeard) = true := by kernel_rfl
theorem c25 : (Tryz.prog.mayEnter) = true := by kernel_rfl
theorem c26 : (Rows.fnExactStartSessionRow.lifted == Tryz.prog.liftsFinal) = true := by kernel_rfl
theorem c27 : (Tryz.prog.make == some Rows.fnExactStartSessionRow.make) = true := by kernel_rfl
theorem c28 : (Rows.fnExactStartSessionRow.kinds == (if Rows.fnExactStartSessionRow.domain.isEmpty then [] else Tryz.f4.params.toList.map fun t => match Tryz.prog.underlying t with | some (.int k) => some k | _ => none)) = true := by kernel_rfl
theorem c29 : (Rows.fnExactStartSessionRow.pinned == Rows.fnExactStartSessionRow.pinnedBy) = true := by kernel_rfl
theorem c30 : (Rows.fnExactStartSessionRow.veiled == (Tryz.f4.params.toList ++ Rows.fnExactStartSessionSpec.plain.varTypes Tryz.prog ++ Tryz.f4.resultTypes.toList).any (Tryz.prog.veiledRec ·)) = true := by kernel_rfl
theorem c31 : (Rows.fnExactStartSessionRow.veiledFits Tryz.prog Tryz.f4.params.toList (Tryz.f4.params.toList ++ Rows.fnExactStartSessionSpec.plain.varTypes Tryz.prog ++ Tryz.f4.resultTypes.toList)) = true := by kernel_rfl
set_option maxRecDepth 100000 in
theorem closed : joinedFacts Tryz.prog 4 Tryz.f4 Rows.fnExactStartSessionSpec Rows.fnExactStartSessionRow = true := (and2 (and2 (and2 (and2 (and2 (and2 (and2 (and2 (and2 (and2 (and2 (and2 (and2 (and2 (and2 (and2 (and2 (and2 (and2 (and2 (and2 (and2 (and2 (and2 (and2 (and2 (and2 (and2 (and2 (and2 (and2 c0 c1) c2) c3) c4) c5) c6) c7) c8) c9) c10) c11) c12) c13) c14) c15) c16) c17) c18) c19) c20) c21) c22) c23) c24) c25) c26) c27) c28) c29) c30) c31)
theorem named : Tryz.prog.funcNamed Rows.fnExactStartSessionRow.func = some 4 := by kernel_rfl
theorem inst : Tryz.f4.isInstance Tryz.prog Rows.fnExactStartSessionRow.origin Rows.fnExactStartSessionRow.targs := of_decide_eq_true (by kernel_rfl)
theorem wrap : Tryz.f4.isWrapper Tryz.prog Rows.fnExactStartSessionRow.wrapper Rows.fnExactStartSessionRow.mainSum := by unfold Func.isWrapper; first | (rw [if_pos (by decide +kernel)]; kernel_rfl) | (rw [if_neg (by decide +kernel)]; exact ⟨rfl, rfl⟩)
end Go.Proofs.YtcfncgapdmpjmaaGreat.fnExactStartSession
