/-
  NARROWER THAN 'FOR EVERY INPUT', by the rows' own cells (each row's printed sentence says how): FnExactReviewSessions: loops · FnExactStartSession: loops.
  DERIVED. THE GIVEN ROWS OF THIS SEAT. 5 by the template 'for every input the law returns true; each argument reads behind the call as it read before'; 0 by the template 'total and deterministic' (their statements: YtcfncgapdmpjmaaGreatTotals.lean).
  GIVEN WITH THE SEED: the statements are not yours to turn. If you find one false, say at which input.
  Laid BY PROGRAM, IN A SANDBOX (cutbox-rows.mjs): the forced cells as the released guide's own fill.sh prints them over the translation 7a8b1aadcbf93efb… (all of the seat's roots in one cut). By AI agents, Wed Nov 11 2026. No macro, syntax, notation, axiom, sorry.
-/
import Derived.Test.YtcfncgapdmpjmaaGreatChecked
import GoSem.Claim
import GoSem.ClaimJoined
import GoSem.ClaimMapViews
import Derived.JoinedTies
import Derived.KernelRfl
namespace Go.Proofs.YtcfncgapdmpjmaaGreat
/- THE CELL 'sum', in the pinned program and in every row, IS THE sha256 OF THE DUMP (.gsa) THAT YtcfncgapdmpjmaaGreatProg.lean LOADS. Nothing in Lean hashes anything: it is a label: what it is worth is what the hold of that sum in a sandbox is worth. -/
noncomputable def Tryz.pinned : Pinned := { name := "ytcfncgapdmpjmaagreat", sum := "7a8b1aadcbf93efbe70ab62fbda7f8f9b20a51aaae2d325debe6bbc8545cb3a2", checked := Tryz.checked }
namespace Rows
def none {H : Type} : Left H := { results := [], args := [] }

/-- 'laws.FnExactReviewSessions': WHATEVER THE INPUT: true; the input reads as it did. -/
def fnExactReviewSessionsSpec : ChangeSpec := { name := "fnExactReviewSessions", fn := fun _ => fun
  | [d1, d2, d3, d4, d5] => { results := [.lit (.bool true)], args := [d1, d2, d3, d4, d5] }
  | _ => none }
def fnExactReviewSessionsRow : OpenClaim := { program := "ytcfncgapdmpjmaagreat", sum := "7a8b1aadcbf93efbe70ab62fbda7f8f9b20a51aaae2d325debe6bbc8545cb3a2", func := "loop.example/g00594/laws.FnExactReviewSessions", spec := "fnExactReviewSessions", unfollowed := true, recurses := true, loops := true, apart := false }
def FnExactReviewSessionsSaid : Prop := fnExactReviewSessionsRow.holds Tryz.pinned (OpenSpec.ofChange fnExactReviewSessionsSpec)

/-- ITS FALSE NEIGHBOUR: 'it returns false'. Refute it at one input. -/
def fnExactReviewSessionsWrong : ChangeSpec := { name := "fnExactReviewSessions", fn := fun _ => fun
  | [d1, d2, d3, d4, d5] => { results := [.lit (.bool false)], args := [d1, d2, d3, d4, d5] }
  | _ => none }
def FnExactReviewSessionsWrongFalsely : Prop := fnExactReviewSessionsRow.holds Tryz.pinned (OpenSpec.ofChange fnExactReviewSessionsWrong)

/-- 'laws.FnExactStartSession': WHATEVER THE INPUT: true; the input reads as it did. -/
def fnExactStartSessionSpec : ChangeSpec := { name := "fnExactStartSession", fn := fun _ => fun
  | [d1, d2, d3, d4, d5] => { results := [.lit (.bool true)], args := [d1, d2, d3, d4, d5] }
  | _ => none }
def fnExactStartSessionRow : OpenClaim := { program := "ytcfncgapdmpjmaagreat", sum := "7a8b1aadcbf93efbe70ab62fbda7f8f9b20a51aaae2d325debe6bbc8545cb3a2", func := "loop.example/g00594/laws.FnExactStartSession", spec := "fnExactStartSession", unfollowed := true, recurses := true, loops := true, apart := false }
def FnExactStartSessionSaid : Prop := fnExactStartSessionRow.holds Tryz.pinned (OpenSpec.ofChange fnExactStartSessionSpec)

/-- ITS FALSE NEIGHBOUR: 'it returns false'. Refute it at one input. -/
def fnExactStartSessionWrong : ChangeSpec := { name := "fnExactStartSession", fn := fun _ => fun
  | [d1, d2, d3, d4, d5] => { results := [.lit (.bool false)], args := [d1, d2, d3, d4, d5] }
  | _ => none }
def FnExactStartSessionWrongFalsely : Prop := fnExactStartSessionRow.holds Tryz.pinned (OpenSpec.ofChange fnExactStartSessionWrong)

/-- 'laws.FnWorlds': WHATEVER THE INPUT: true; the input reads as it did. -/
def fnWorldsSpec : ChangeSpec := { name := "fnWorlds", fn := fun _ => fun
  | [d] => { results := [.lit (.bool true)], args := [d] }
  | _ => none }
def fnWorldsRow : OpenClaim := { program := "ytcfncgapdmpjmaagreat", sum := "7a8b1aadcbf93efbe70ab62fbda7f8f9b20a51aaae2d325debe6bbc8545cb3a2", func := "loop.example/g00594/laws.FnWorlds", spec := "fnWorlds", unfollowed := true, recurses := true, apart := false }
def FnWorldsSaid : Prop := fnWorldsRow.holds Tryz.pinned (OpenSpec.ofChange fnWorldsSpec)

/-- ITS FALSE NEIGHBOUR: 'it returns false'. Refute it at one input. -/
def fnWorldsWrong : ChangeSpec := { name := "fnWorlds", fn := fun _ => fun
  | [d] => { results := [.lit (.bool false)], args := [d] }
  | _ => none }
def FnWorldsWrongFalsely : Prop := fnWorldsRow.holds Tryz.pinned (OpenSpec.ofChange fnWorldsWrong)

/-- 'laws.FnTicked': WHATEVER THE INPUT: true; the input reads as it did. -/
def fnTickedSpec : ChangeSpec := { name := "fnTicked", fn := fun _ => fun
  | [d] => { results := [.lit (.bool true)], args := [d] }
  | _ => none }
def fnTickedRow : OpenClaim := { program := "ytcfncgapdmpjmaagreat", sum := "7a8b1aadcbf93efbe70ab62fbda7f8f9b20a51aaae2d325debe6bbc8545cb3a2", func := "loop.example/g00594/laws.FnTicked", spec := "fnTicked", unfollowed := true, recurses := true, apart := false }
def FnTickedSaid : Prop := fnTickedRow.holds Tryz.pinned (OpenSpec.ofChange fnTickedSpec)

/-- ITS FALSE NEIGHBOUR: 'it returns false'. Refute it at one input. -/
def fnTickedWrong : ChangeSpec := { name := "fnTicked", fn := fun _ => fun
  | [d] => { results := [.lit (.bool false)], args := [d] }
  | _ => none }
def FnTickedWrongFalsely : Prop := fnTickedRow.holds Tryz.pinned (OpenSpec.ofChange fnTickedWrong)

/-- 'laws.FnAudited': WHATEVER THE INPUT: true; the input reads as it did. -/
def fnAuditedSpec : ChangeSpec := { name := "fnAudited", fn := fun _ => fun
  | [d] => { results := [.lit (.bool true)], args := [d] }
  | _ => none }
def fnAuditedRow : OpenClaim := { program := "ytcfncgapdmpjmaagreat", sum := "7a8b1aadcbf93efbe70ab62fbda7f8f9b20a51aaae2d325debe6bbc8545cb3a2", func := "loop.example/g00594/laws.FnAudited", spec := "fnAudited", unfollowed := true, recurses := true, apart := false }
def FnAuditedSaid : Prop := fnAuditedRow.holds Tryz.pinned (OpenSpec.ofChange fnAuditedSpec)

/-- ITS FALSE NEIGHBOUR: 'it returns false'. Refute it at one input. -/
def fnAuditedWrong : ChangeSpec := { name := "fnAudited", fn := fun _ => fun
  | [d] => { results := [.lit (.bool false)], args := [d] }
  | _ => none }
def FnAuditedWrongFalsely : Prop := fnAuditedRow.holds Tryz.pinned (OpenSpec.ofChange fnAuditedWrong)

/- THE SECOND FORM. 'bulk': how many values and letters a reading holds, each counted each time it is reached (what is shared counts as often as it is met; a slice's spare places count too). A statement '..UptoSaid' is the law's where the arguments, and the package variables that the reading takes, are together of bulk at most 1048576: NARROWER than '..Said'. Prove '..Said' where nothing that the law and all that it calls make is longer than what came in: it says more and counts as full. Else prove '..UptoSaid'. A law counts once. -/
mutual
def uptoBulk {H : Type} : DataW H → Nat
  | .lit (.string bytes) => bytes.length + 1
  | .lit _ => 1
  | .nil => 1
  | .ptr d => uptoBulk d + 1
  | .slice elems spare => uptoBulkAll elems + uptoBulkAll spare + 1
  | .agg parts => uptoBulkAll parts + 1
  | .iface _ d => uptoBulk d + 1
  | .map entries => uptoBulkEntries entries + 1
  | .held _ => 1
def uptoBulkAll {H : Type} : List (DataW H) → Nat
  | [] => 0
  | d :: r => uptoBulk d + uptoBulkAll r
def uptoBulkEntries {H : Type} : List (Lit × DataW H) → Nat
  | [] => 0
  | x :: r => uptoBulkEntry x + uptoBulkEntries r
def uptoBulkEntry {H : Type} : Lit × DataW H → Nat
  | (.string bytes, d) => bytes.length + uptoBulk d + 1
  | (_, d) => uptoBulk d + 1
 end
def uptoSmall : (H : Type) → List (DataW H) → Bool := fun _ ds => decide (uptoBulkAll ds ≤ 1048576)
def OpenSpec.upto (s : _root_.Go.ChangeSpec) : _root_.Go.OpenSpec := { _root_.Go.OpenSpec.ofChange s with cond := some uptoSmall }

/-- 'laws.FnExactReviewSessions', WHERE WHAT IT READS IS OF BULK AT MOST 1048576: true; the input reads as it did. -/
def fnExactReviewSessionsUptoRow : OpenClaim := { program := "ytcfncgapdmpjmaagreat", sum := "7a8b1aadcbf93efbe70ab62fbda7f8f9b20a51aaae2d325debe6bbc8545cb3a2", func := "loop.example/g00594/laws.FnExactReviewSessions", spec := "fnExactReviewSessions", unfollowed := true, recurses := true, loops := true, apart := false, narrowed := true }
def FnExactReviewSessionsUptoSaid : Prop := fnExactReviewSessionsUptoRow.holds Tryz.pinned (OpenSpec.upto fnExactReviewSessionsSpec)

/-- 'laws.FnExactStartSession', WHERE WHAT IT READS IS OF BULK AT MOST 1048576: true; the input reads as it did. -/
def fnExactStartSessionUptoRow : OpenClaim := { program := "ytcfncgapdmpjmaagreat", sum := "7a8b1aadcbf93efbe70ab62fbda7f8f9b20a51aaae2d325debe6bbc8545cb3a2", func := "loop.example/g00594/laws.FnExactStartSession", spec := "fnExactStartSession", unfollowed := true, recurses := true, loops := true, apart := false, narrowed := true }
def FnExactStartSessionUptoSaid : Prop := fnExactStartSessionUptoRow.holds Tryz.pinned (OpenSpec.upto fnExactStartSessionSpec)

/-- 'laws.FnWorlds', WHERE WHAT IT READS IS OF BULK AT MOST 1048576: true; the input reads as it did. -/
def fnWorldsUptoRow : OpenClaim := { program := "ytcfncgapdmpjmaagreat", sum := "7a8b1aadcbf93efbe70ab62fbda7f8f9b20a51aaae2d325debe6bbc8545cb3a2", func := "loop.example/g00594/laws.FnWorlds", spec := "fnWorlds", unfollowed := true, recurses := true, apart := false, narrowed := true }
def FnWorldsUptoSaid : Prop := fnWorldsUptoRow.holds Tryz.pinned (OpenSpec.upto fnWorldsSpec)

/-- 'laws.FnTicked', WHERE WHAT IT READS IS OF BULK AT MOST 1048576: true; the input reads as it did. -/
def fnTickedUptoRow : OpenClaim := { program := "ytcfncgapdmpjmaagreat", sum := "7a8b1aadcbf93efbe70ab62fbda7f8f9b20a51aaae2d325debe6bbc8545cb3a2", func := "loop.example/g00594/laws.FnTicked", spec := "fnTicked", unfollowed := true, recurses := true, apart := false, narrowed := true }
def FnTickedUptoSaid : Prop := fnTickedUptoRow.holds Tryz.pinned (OpenSpec.upto fnTickedSpec)

/-- 'laws.FnAudited', WHERE WHAT IT READS IS OF BULK AT MOST 1048576: true; the input reads as it did. -/
def fnAuditedUptoRow : OpenClaim := { program := "ytcfncgapdmpjmaagreat", sum := "7a8b1aadcbf93efbe70ab62fbda7f8f9b20a51aaae2d325debe6bbc8545cb3a2", func := "loop.example/g00594/laws.FnAudited", spec := "fnAudited", unfollowed := true, recurses := true, apart := false, narrowed := true }
def FnAuditedUptoSaid : Prop := fnAuditedUptoRow.holds Tryz.pinned (OpenSpec.upto fnAuditedSpec)

end Rows
end Go.Proofs.YtcfncgapdmpjmaaGreat
