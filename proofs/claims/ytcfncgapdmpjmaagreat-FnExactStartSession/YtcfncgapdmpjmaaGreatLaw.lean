/- The law FnExactStartSession answers true at every input: what the program's function returns is what the reference's returns. No condition beyond those of the given row. -/
import Derived.Test.YtcfncgapdmpjmaaGreatRows
import Derived.Test.YtcfncgapdmpjmaaGreatAcTwo
import Derived.Test.YtcfncgapdmpjmaaGreatFacts
import Derived.WalkKit
import Derived.ProofKit
import Derived.OpenShut
import Derived.ChangeOld
import Derived.Below
set_option linter.unusedVariables false
set_option linter.unusedSimpArgs false
namespace Go.Proofs.YtcfncgapdmpjmaaGreat.fnExactStartSession
open Go.ChangeShapes Go.WideShapes Go.ChangeAt Go.RowKit Go.Ev
set_option linter.unusedVariables false
theorem own : ownKnob Tryz.prog.godebug = none := by kernel_rfl
theorem laidOut : laidOutB Tryz.prog = true := by kernel_rfl
theorem law : ∀ xs, WtArgs tt [22, 53, 3, 55, 57] xs → wFnExactStartSession.t xs = some [D.bool true] := by
  rintro xs ⟨x0, _, rfl, h0, x1, _, rfl, h1, x2, _, rfl, h2, x3, _, rfl, h3, x4, _, rfl, h4, rfl⟩
  have h0 : ∃ n, Wt tt n 22 [x0] := h0
  have h1 : ∃ n cs, x1 = D.st cs ∧ Wt tt n 53 cs := h1
  have h2 : ∃ n, Wt tt n 3 [x2] := h2
  have h3 : ∃ n cs, x3 = D.st cs ∧ Wt tt n 55 cs := h3
  have h4 : ∃ n cs, x4 = D.st cs ∧ Wt tt n 57 cs := h4
  obtain ⟨_, g0⟩ := h0
  obtain ⟨_, _, rfl, g1⟩ := h1
  obtain ⟨_, g2⟩ := h2
  obtain ⟨_, _, rfl, g3⟩ := h3
  obtain ⟨_, _, rfl, g4⟩ := h4
  obtain ⟨y0, e0, b0⟩ := Acc.wt22 g0
  obtain ⟨y1, e1, b1⟩ := Acc.wt53 g1
  obtain ⟨y2, e2, b2⟩ := Acc.wt3 g2
  obtain ⟨y3, e3, b3⟩ := Acc.wt55 g3
  obtain ⟨y4, e4, b4⟩ := Acc.wt57 g4
  cases e0; subst e1; cases e2; subst e3; subst e4
  exact Acc.FnExactStartSession_true y0 y1 y2 y3 y4 b0 b1
def tys : List TypeId := [3, 4, 22, 43, 44, 46, 48, 49, 50, 51, 53, 55, 57, 120, 231, 233, 236, 305, 354, 356, 358]
theorem tys_ok : tysOk tt tys = true := by kernel_rfl
set_option maxRecDepth 100000 in
theorem lifted (os : Os) (started : os.Started) (H : Type) (enc : TypeId × Value → H) :
    ReturnsInHanded {} Tryz.checked os 4 .any (Rows.fnExactStartSessionSpec.pre6 enc Tryz.prog Tryz.f4 Rows.fnExactStartSessionRow.domain false) (Rows.fnExactStartSessionSpec.post enc Tryz.prog Tryz.f4 false true false false) := by
  refine returnsInHanded_of_change (C := Tryz.checked) own started (by kernel_rfl) Tryz.func4
    (ChangeSpec.witness6 (enc := enc) (C := Tryz.checked) false ⟨#[], #[.slice none 0 0, .agg #[.int .i64 0, .int .i64 0, .int .i64 0, .slice none 0 0, .int .i64 0, .slice none 0 0, .slice none 0 0, .slice none 0 0, .int .i64 0, .slice none 0 0], .int .i64 0, .agg #[.int .i64 0, .int .i64 0, .int .i64 0, .int .i64 0, .int .i64 0, .int .i64 0], .agg #[.int .i64 0, .int .i64 0, .int .i64 0, .int .i64 0, .int .i64 0, .int .i64 0]], []⟩ 8 (by kernel_rfl) (by kernel_rfl) (by kernel_rfl) (by kernel_rfl)) ?_
  intro W base args ds gs before hval0 hW hcnd _
  have hval : ∀ (j : Nat) t v, Tryz.f4.params[j]? = some t → args[j]? = some v → Value.okWide Tryz.prog W .any base t v := hval0
  have hW' := hW
  obtain ⟨p, q, hA0, hV, rfl, hfz, hnd⟩ := hW
  have hA : DataW.TrodAll enc Tryz.prog W 0 (fun _ => true) true Tryz.f4.params.toList args.toList ds p := hA0
  rw [Tryz.params4] at hA hval
  have hB := hA
  obtain ⟨v0, vs0, d0, ds0, p0, q0, hargs, rfl, rfl, h0, r0⟩ := trodAll_cons hA
  obtain ⟨v1, vs1, d1, ds1, p1, q1, rfl, rfl, rfl, h1, r1⟩ := trodAll_cons r0
  obtain ⟨v2, vs2, d2, ds2, p2, q2, rfl, rfl, rfl, h2, r2⟩ := trodAll_cons r1
  obtain ⟨v3, vs3, d3, ds3, p3, q3, rfl, rfl, rfl, h3, r3⟩ := trodAll_cons r2
  obtain ⟨v4, vs4, d4, ds4, p4, q4, rfl, rfl, rfl, h4, r4⟩ := trodAll_cons r3
  obtain ⟨rfl, rfl, rfl⟩ := trodAll_nil r4
  obtain rfl : args = #[v0, v1, v2, v3, v4] := by cases args; simp_all
  obtain ⟨rfl, rfl⟩ := trodVars_none hV
  have hc := law_calls (base := base) hT tys_ok wFnExactStartSession.k (ts := [22, 53, 3, 55, 57]) rfl law (by decide +kernel) (vs := [v0, v1, v2, v3, v4]) (fun j t v e1 e2 => hval j t v (by simpa using e1) (by simpa using e2)) hB
  refine hc.mono fun e W' ⟨he, bel⟩ => ?_
  subst he
  exact ⟨_, rfl, _, _, _, [], _, [], hW', trodAll_mk1 (shut_bool Tryz.underlying4 _), args_back laidOut bel (by decide +kernel) hB, rfl, bel.frame _, fun h => by cases h⟩
theorem over : Rows.fnExactStartSessionRow.holds Tryz.pinned (OpenSpec.ofChange Rows.fnExactStartSessionSpec) :=
  OpenClaim.holds_of_wide 4 Tryz.f4 rfl rfl rfl rfl rfl rfl rfl ⟨rfl, rfl, rfl, rfl, rfl⟩ rfl rfl rfl rfl rfl named Tryz.func4 closed inst wrap
    (fun os started H enc _ => lifted os started H enc)
end Go.Proofs.YtcfncgapdmpjmaaGreat.fnExactStartSession
namespace Go.Proofs.YtcfncgapdmpjmaaGreat
/-- The row, under a short name, for the claim. -/
theorem FnExactStartSession_holds : Rows.FnExactStartSessionSaid := fnExactStartSession.over
end Go.Proofs.YtcfncgapdmpjmaaGreat
