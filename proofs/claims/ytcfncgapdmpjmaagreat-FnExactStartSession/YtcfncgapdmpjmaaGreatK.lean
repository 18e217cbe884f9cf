/- Each function does what its text over data says: printed by program. -/
import Derived.Test.YtcfncgapdmpjmaaGreatD
import Derived.Test.YtcfncgapdmpjmaaGreatProg
import Derived.Test.YtcfncgapdmpjmaaGreatShelf
set_option linter.unusedVariables false
set_option linter.unusedSimpArgs false
open Go.Proofs
namespace Go.Ev
noncomputable section
abbrev P : Program := Tryz.prog
def tt : Tt := [
  (3, ⟨[.int .i64], false, .prim, 8⟩),
  (4, ⟨[.bool], false, .prim, 1⟩),
  (22, ⟨[.sl 120], false, .sl 120, 24⟩),
  (23, ⟨[.sl 53], false, .sl 53, 24⟩),
  (24, ⟨[.sl 55], false, .sl 55, 24⟩),
  (28, ⟨[.sl 113], false, .sl 113, 24⟩),
  (32, ⟨[.sl 69], false, .sl 69, 24⟩),
  (34, ⟨[.sl 73], false, .sl 73, 24⟩),
  (43, ⟨[.sl 305], false, .sl 305, 24⟩),
  (44, ⟨[.sl 358], false, .sl 358, 24⟩),
  (46, ⟨[.int .i64, .sl 358], true, .struct [(0, 3), (1, 44)], 32⟩),
  (48, ⟨[.int .i64, .int .i64, .sl 305, .int .i64, .sl 358], true, .struct [(0, 3), (1, 3), (2, 43), (3, 46)], 72⟩),
  (49, ⟨[.sl 231], false, .sl 231, 24⟩),
  (50, ⟨[.sl 233], false, .sl 233, 24⟩),
  (51, ⟨[.sl 236], false, .sl 236, 24⟩),
  (53, ⟨[.int .i64, .int .i64, .int .i64, .sl 305, .int .i64, .sl 358, .sl 231, .sl 233, .int .i64, .sl 236], true, .struct [(0, 3), (1, 48), (6, 49), (7, 50), (8, 3), (9, 51)], 160⟩),
  (55, ⟨[.int .i64, .int .i64, .int .i64, .int .i64, .int .i64, .int .i64], true, .struct [(0, 3), (1, 3), (2, 3), (3, 3), (4, 3), (5, 3)], 48⟩),
  (57, ⟨[.int .i64, .int .i64, .int .i64, .int .i64, .int .i64, .int .i64], true, .struct [(0, 3), (1, 3), (2, 3), (3, 3), (4, 3), (5, 3)], 48⟩),
  (59, ⟨[.sl 204], false, .sl 204, 24⟩),
  (60, ⟨[.sl 209], false, .sl 209, 24⟩),
  (62, ⟨[.int .i64, .sl 209], true, .struct [(0, 3), (1, 60)], 32⟩),
  (64, ⟨[.int .i64, .int .i64, .sl 204, .int .i64, .sl 209], true, .struct [(0, 3), (1, 3), (2, 59), (3, 62)], 72⟩),
  (65, ⟨[.sl 212], false, .sl 212, 24⟩),
  (66, ⟨[.sl 214], false, .sl 214, 24⟩),
  (67, ⟨[.sl 216], false, .sl 216, 24⟩),
  (69, ⟨[.int .i64, .int .i64, .int .i64, .sl 204, .int .i64, .sl 209, .sl 212, .sl 214, .int .i64, .sl 216], true, .struct [(0, 3), (1, 64), (6, 65), (7, 66), (8, 3), (9, 67)], 160⟩),
  (73, ⟨[.int .i64, .int .i64, .int .i64, .int .i64, .int .i64, .int .i64], true, .struct [(0, 3), (1, 3), (2, 3), (3, 3), (4, 3), (5, 3)], 48⟩),
  (75, ⟨[.int .i64, .int .i64, .int .i64, .int .i64, .int .i64, .int .i64], true, .struct [(0, 3), (1, 3), (2, 3), (3, 3), (4, 3), (5, 3)], 48⟩),
  (88, ⟨[.sl 4], false, .sl 4, 24⟩),
  (94, ⟨[.sl 3], false, .sl 3, 24⟩),
  (113, ⟨[.int .i64, .int .i64, .int .i64, .int .i64, .int .i64, .int .i64, .int .i64, .int .i64, .int .i64, .bool], true, .struct [(0, 3), (1, 3), (2, 3), (3, 75), (9, 4)], 80⟩),
  (120, ⟨[.int .i64, .int .i64, .int .i64, .int .i64, .int .i64, .int .i64, .int .i64, .int .i64, .int .i64, .bool], true, .struct [(0, 3), (1, 3), (2, 3), (3, 57), (9, 4)], 80⟩),
  (163, ⟨[.fn 163], false, .fn [69] [4], 8⟩),
  (201, ⟨[.fn 201], false, .fn [73] [4], 8⟩),
  (204, ⟨[.int .i64, .int .i64], true, .struct [(0, 3), (1, 3)], 16⟩),
  (205, ⟨[.sl 207], false, .sl 207, 24⟩),
  (206, ⟨[.int .i64, .int .i64, .int .i64, .sl 207], true, .struct [(0, 3), (1, 3), (2, 3), (3, 205)], 48⟩),
  (207, ⟨[.int .i64, .int .i64, .int .i64, .sl 207], true, .struct [(0, 3), (1, 3), (2, 3), (3, 205)], 48⟩),
  (208, ⟨[.int .i64, .int .i64, .int .i64, .int .i64, .int .i64, .int .i64, .sl 207], true, .struct [(0, 3), (1, 3), (2, 3), (3, 207)], 72⟩),
  (209, ⟨[.int .i64, .int .i64, .int .i64, .int .i64, .int .i64, .int .i64, .sl 207], true, .struct [(0, 3), (1, 3), (2, 3), (3, 207)], 72⟩),
  (212, ⟨[.int .i64, .int .i64, .int .i64, .int .i64, .int .i64, .int .i64], true, .struct [(0, 3), (1, 3), (2, 3), (3, 3), (4, 3), (5, 3)], 48⟩),
  (214, ⟨[.int .i64, .int .i64], true, .struct [(0, 3), (1, 3)], 16⟩),
  (216, ⟨[.int .i64, .int .i64, .int .i64, .int .i64, .int .i64, .int .i64, .int .i64, .int .i64], true, .struct [(0, 75), (6, 3), (7, 3)], 64⟩),
  (231, ⟨[.int .i64, .int .i64, .int .i64, .int .i64, .int .i64, .int .i64], true, .struct [(0, 3), (1, 3), (2, 3), (3, 3), (4, 3), (5, 3)], 48⟩),
  (233, ⟨[.int .i64, .int .i64], true, .struct [(0, 3), (1, 3)], 16⟩),
  (236, ⟨[.int .i64, .int .i64, .int .i64, .int .i64, .int .i64, .int .i64, .int .i64, .int .i64], true, .struct [(0, 57), (6, 3), (7, 3)], 64⟩),
  (274, ⟨[.fn 274], false, .fn [216] [4], 8⟩),
  (297, ⟨[.fn 297], false, .fn [214] [4], 8⟩),
  (305, ⟨[.int .i64, .int .i64], true, .struct [(0, 3), (1, 3)], 16⟩),
  (330, ⟨[.fn 330], false, .fn [212] [4], 8⟩),
  (354, ⟨[.sl 356], false, .sl 356, 24⟩),
  (356, ⟨[.int .i64, .int .i64, .int .i64, .sl 356], true, .struct [(0, 3), (1, 3), (2, 3), (3, 354)], 48⟩),
  (358, ⟨[.int .i64, .int .i64, .int .i64, .int .i64, .int .i64, .int .i64, .sl 356], true, .struct [(0, 3), (1, 3), (2, 3), (3, 356)], 72⟩),
  (377, ⟨[.bool, .bool, .bool, .bool, .bool, .bool], true, .arr 6 4, 6⟩),
  (380, ⟨[.fn 380], false, .fn [209] [4], 8⟩),
  (399, ⟨[.sl 94], false, .sl 94, 24⟩),
  (403, ⟨[.fn 403], false, .fn [207] [4], 8⟩)]
def cl : Cl := [(139, (163, [3])), (141, (201, [3])), (238, (297, [3])), (259, (274, [75])), (354, (380, [])), (411, (403, [59, 65, 75])), (432, (403, [])), (444, (330, [3, 3, 3, 3, 3]))]
abbrev R0 : Rt := ⟨false, [.int .i64]⟩
abbrev R1 : Rt := ⟨false, [.sl 120]⟩
abbrev R2 : Rt := ⟨false, [.sl 305]⟩
abbrev R3 : Rt := ⟨false, [.sl 356]⟩
abbrev R4 : Rt := ⟨true, [.int .i64, .int .i64, .int .i64, .sl 356]⟩
abbrev R5 : Rt := ⟨true, [.int .i64, .int .i64, .int .i64, .int .i64, .int .i64, .int .i64, .sl 356]⟩
abbrev R6 : Rt := ⟨false, [.sl 358]⟩
abbrev R7 : Rt := ⟨true, [.int .i64, .sl 358]⟩
abbrev R8 : Rt := ⟨true, [.int .i64, .int .i64, .sl 305, .int .i64, .sl 358]⟩
abbrev R9 : Rt := ⟨false, [.sl 231]⟩
abbrev R10 : Rt := ⟨false, [.sl 233]⟩
abbrev R11 : Rt := ⟨false, [.sl 236]⟩
abbrev R12 : Rt := ⟨true, [.int .i64, .int .i64, .int .i64, .sl 305, .int .i64, .sl 358, .sl 231, .sl 233, .int .i64, .sl 236]⟩
abbrev R13 : Rt := ⟨false, [.sl 53]⟩
abbrev R14 : Rt := ⟨false, [.sl 55]⟩
abbrev R15 : Rt := ⟨true, [.int .i64, .int .i64, .int .i64, .int .i64, .int .i64, .int .i64]⟩
abbrev R16 : Rt := ⟨true, [.int .i64, .int .i64, .int .i64, .int .i64, .int .i64, .int .i64, .int .i64, .int .i64, .int .i64, .bool]⟩
abbrev R17 : Rt := ⟨false, [.sl 113]⟩
abbrev R18 : Rt := ⟨true, [.int .i64, .int .i64]⟩
abbrev R19 : Rt := ⟨false, [.sl 204]⟩
abbrev R20 : Rt := ⟨false, [.sl 207]⟩
abbrev R21 : Rt := ⟨true, [.int .i64, .int .i64, .int .i64, .sl 207]⟩
abbrev R22 : Rt := ⟨true, [.int .i64, .int .i64, .int .i64, .int .i64, .int .i64, .int .i64, .sl 207]⟩
abbrev R23 : Rt := ⟨false, [.sl 209]⟩
abbrev R24 : Rt := ⟨true, [.int .i64, .sl 209]⟩
abbrev R25 : Rt := ⟨true, [.int .i64, .int .i64, .sl 204, .int .i64, .sl 209]⟩
abbrev R26 : Rt := ⟨false, [.sl 212]⟩
abbrev R27 : Rt := ⟨false, [.sl 214]⟩
abbrev R28 : Rt := ⟨true, [.int .i64, .int .i64, .int .i64, .int .i64, .int .i64, .int .i64, .int .i64, .int .i64]⟩
abbrev R29 : Rt := ⟨false, [.sl 216]⟩
abbrev R30 : Rt := ⟨true, [.int .i64, .int .i64, .int .i64, .sl 204, .int .i64, .sl 209, .sl 212, .sl 214, .int .i64, .sl 216]⟩
abbrev R31 : Rt := ⟨false, [.sl 69]⟩
abbrev R32 : Rt := ⟨false, [.sl 73]⟩
abbrev R33 : Rt := ⟨false, [.bool]⟩
abbrev R34 : Rt := ⟨false, [.sl 3]⟩
abbrev R35 : Rt := ⟨false, [.fn 163]⟩
abbrev R36 : Rt := ⟨false, [.ptr 3]⟩
abbrev R37 : Rt := ⟨false, [.fn 201]⟩
abbrev R38 : Rt := ⟨false, [.sl 94]⟩
abbrev R39 : Rt := ⟨false, [.fn 297]⟩
abbrev R40 : Rt := ⟨false, [.fn 274]⟩
abbrev R41 : Rt := ⟨false, [.ptr 75]⟩
abbrev R42 : Rt := ⟨false, [.fn 380]⟩
abbrev R43 : Rt := ⟨false, [.fn 403]⟩
abbrev R44 : Rt := ⟨true, [.bool, .bool, .bool, .bool, .bool, .bool]⟩
abbrev R45 : Rt := ⟨false, [.fn 330]⟩
abbrev R46 : Rt := ⟨false, [.ptr 59]⟩
abbrev R47 : Rt := ⟨false, [.ptr 65]⟩
theorem hT : ttOk P tt = true := by kernel_rfl
theorem hmix : P.follows .mixedOrders = true := by kernel_rfl
theorem clok : cl.all (fun x => callableB P x.1) = true := by kernel_rfl
theorem g0ok : GOk P tt cl g0 := gok clok trivial
def wszSessionS.x : Fx := ⟨[.tmp 4], [R0], [.val, .val], [R1, R0], []⟩
def wszSessionS.s (g : List D → Option (List D)) : Sig := ⟨wszSessionS.x.ms, wszSessionS.x.ps, wszSessionS.x.rts, g⟩
theorem wszSessionS.k : FnOk P tt cl 8 (wszSessionS.s wszSessionS.t) := fn_mk (Γ := []) (G := g0) hT hmix g0ok trivial Tryz.func8 (body := Tryz.f8.body.getD .skip) (fx := wszSessionS.x) (by kernel_rfl) (by kernel_rfl) (by kernel_rfl) fun _ => by kernel_rfl
def wszIncludesS.x : Fx := ⟨[.tmp 4], [R0], [.val, .val], [R2, R0], []⟩
def wszIncludesS.s (g : List D → Option (List D)) : Sig := ⟨wszIncludesS.x.ms, wszIncludesS.x.ps, wszIncludesS.x.rts, g⟩
theorem wszIncludesS.k : FnOk P tt cl 144 (wszIncludesS.s wszIncludesS.t) := fn_mk (Γ := []) (G := g0) hT hmix g0ok trivial Tryz.func144 (body := Tryz.f144.body.getD .skip) (fx := wszIncludesS.x) (by kernel_rfl) (by kernel_rfl) (by kernel_rfl) fun _ => by kernel_rfl
def wszCondS.x : Fx := ⟨[.tmp 4], [R0], [.val, .val], [R3, R0], [(0, ([1], [])), (1000, ([0, 1, 5], []))]⟩
def wszCondS.s (g : List D → Option (List D)) : Sig := ⟨wszCondS.x.ms, wszCondS.x.ps, wszCondS.x.rts, g⟩
def wszCond.x : Fx := ⟨[.tmp 4], [R0], [.val, .val], [R4, R0], []⟩
def wszCond.s (g : List D → Option (List D)) : Sig := ⟨wszCond.x.ms, wszCond.x.ps, wszCond.x.rts, g⟩
theorem wszCondS.kF : ∀ n, FnOk P tt cl 406 (wszCondS.s (wszCondS.F n wszCondS.n)) ∧ FnOk P tt cl 377 (wszCond.s (wszCondS.F n wszCond.n))
  | 0 => ⟨FnOk.none (callable_of (by kernel_rfl)) fun _ => rfl, FnOk.none (callable_of (by kernel_rfl)) fun _ => rfl⟩
  | n + 1 => by
    have ih := wszCondS.kF n
    exact ⟨fn_mk (Γ := [(377, wszCond.s (wszCondS.F n wszCond.n))]) (G := g0) hT hmix g0ok ⟨ih.2, trivial⟩ Tryz.func406 (body := Tryz.f406.body.getD .skip) (fx := wszCondS.x) (by kernel_rfl) (by kernel_rfl) (by kernel_rfl) fun _ => by kernel_rfl, fn_mk (Γ := [(406, wszCondS.s (wszCondS.F n wszCondS.n))]) (G := g0) hT hmix g0ok ⟨ih.1, trivial⟩ Tryz.func377 (body := Tryz.f377.body.getD .skip) (fx := wszCond.x) (by kernel_rfl) (by kernel_rfl) (by kernel_rfl) fun _ => by kernel_rfl⟩
theorem wszCondS.k : FnOk P tt cl 406 (wszCondS.s wszCondS.t) := FnOk.lim fun n => (wszCondS.kF n).1
theorem wszCond.k : FnOk P tt cl 377 (wszCond.s wszCond.t) := FnOk.lim fun n => (wszCondS.kF n).2
def wszRule.x : Fx := ⟨[.tmp 4], [R0], [.val, .val], [R5, R0], []⟩
def wszRule.s (g : List D → Option (List D)) : Sig := ⟨wszRule.x.ms, wszRule.x.ps, wszRule.x.rts, g⟩
theorem wszRule.k : FnOk P tt cl 318 (wszRule.s wszRule.t) := fn_mk (Γ := [(377, wszCond.s wszCond.t)]) (G := g0) hT hmix g0ok ⟨wszCond.k, trivial⟩ Tryz.func318 (body := Tryz.f318.body.getD .skip) (fx := wszRule.x) (by kernel_rfl) (by kernel_rfl) (by kernel_rfl) fun _ => by kernel_rfl
def wszRuleS.x : Fx := ⟨[.tmp 4], [R0], [.val, .val], [R6, R0], [(0, ([1], [])), (1000, ([0, 1, 5], []))]⟩
def wszRuleS.s (g : List D → Option (List D)) : Sig := ⟨wszRuleS.x.ms, wszRuleS.x.ps, wszRuleS.x.rts, g⟩
theorem wszRuleS.k : FnOk P tt cl 242 (wszRuleS.s wszRuleS.t) := fn_mk (Γ := [(318, wszRule.s wszRule.t)]) (G := g0) hT hmix g0ok ⟨wszRule.k, trivial⟩ Tryz.func242 (body := Tryz.f242.body.getD .skip) (fx := wszRuleS.x) (by kernel_rfl) (by kernel_rfl) (by kernel_rfl) fun _ => by kernel_rfl
def wszPolicy.x : Fx := ⟨[.tmp 4], [R0], [.val, .val], [R7, R0], []⟩
def wszPolicy.s (g : List D → Option (List D)) : Sig := ⟨wszPolicy.x.ms, wszPolicy.x.ps, wszPolicy.x.rts, g⟩
theorem wszPolicy.k : FnOk P tt cl 145 (wszPolicy.s wszPolicy.t) := fn_mk (Γ := [(242, wszRuleS.s wszRuleS.t)]) (G := g0) hT hmix g0ok ⟨wszRuleS.k, trivial⟩ Tryz.func145 (body := Tryz.f145.body.getD .skip) (fx := wszPolicy.x) (by kernel_rfl) (by kernel_rfl) (by kernel_rfl) fun _ => by kernel_rfl
def wszEpoch.x : Fx := ⟨[.tmp 4], [R0], [.val, .val], [R8, R0], []⟩
def wszEpoch.s (g : List D → Option (List D)) : Sig := ⟨wszEpoch.x.ms, wszEpoch.x.ps, wszEpoch.x.rts, g⟩
theorem wszEpoch.k : FnOk P tt cl 65 (wszEpoch.s wszEpoch.t) := fn_mk (Γ := [(144, wszIncludesS.s wszIncludesS.t), (145, wszPolicy.s wszPolicy.t)]) (G := g0) hT hmix g0ok ⟨wszIncludesS.k, wszPolicy.k, trivial⟩ Tryz.func65 (body := Tryz.f65.body.getD .skip) (fx := wszEpoch.x) (by kernel_rfl) (by kernel_rfl) (by kernel_rfl) fun _ => by kernel_rfl
def wszFactS.x : Fx := ⟨[.tmp 4], [R0], [.val, .val], [R9, R0], []⟩
def wszFactS.s (g : List D → Option (List D)) : Sig := ⟨wszFactS.x.ms, wszFactS.x.ps, wszFactS.x.rts, g⟩
theorem wszFactS.k : FnOk P tt cl 66 (wszFactS.s wszFactS.t) := fn_mk (Γ := []) (G := g0) hT hmix g0ok trivial Tryz.func66 (body := Tryz.f66.body.getD .skip) (fx := wszFactS.x) (by kernel_rfl) (by kernel_rfl) (by kernel_rfl) fun _ => by kernel_rfl
def wszRevokedS.x : Fx := ⟨[.tmp 4], [R0], [.val, .val], [R10, R0], []⟩
def wszRevokedS.s (g : List D → Option (List D)) : Sig := ⟨wszRevokedS.x.ms, wszRevokedS.x.ps, wszRevokedS.x.rts, g⟩
theorem wszRevokedS.k : FnOk P tt cl 67 (wszRevokedS.s wszRevokedS.t) := fn_mk (Γ := []) (G := g0) hT hmix g0ok trivial Tryz.func67 (body := Tryz.f67.body.getD .skip) (fx := wszRevokedS.x) (by kernel_rfl) (by kernel_rfl) (by kernel_rfl) fun _ => by kernel_rfl
def wszSavedS.x : Fx := ⟨[.tmp 4], [R0], [.val, .val], [R11, R0], []⟩
def wszSavedS.s (g : List D → Option (List D)) : Sig := ⟨wszSavedS.x.ms, wszSavedS.x.ps, wszSavedS.x.rts, g⟩
theorem wszSavedS.k : FnOk P tt cl 68 (wszSavedS.s wszSavedS.t) := fn_mk (Γ := []) (G := g0) hT hmix g0ok trivial Tryz.func68 (body := Tryz.f68.body.getD .skip) (fx := wszSavedS.x) (by kernel_rfl) (by kernel_rfl) (by kernel_rfl) fun _ => by kernel_rfl
def wszPoint.x : Fx := ⟨[.tmp 4], [R0], [.val, .val], [R12, R0], []⟩
def wszPoint.s (g : List D → Option (List D)) : Sig := ⟨wszPoint.x.ms, wszPoint.x.ps, wszPoint.x.rts, g⟩
theorem wszPoint.k : FnOk P tt cl 23 (wszPoint.s wszPoint.t) := fn_mk (Γ := [(65, wszEpoch.s wszEpoch.t), (66, wszFactS.s wszFactS.t), (67, wszRevokedS.s wszRevokedS.t), (68, wszSavedS.s wszSavedS.t)]) (G := g0) hT hmix g0ok ⟨wszEpoch.k, wszFactS.k, wszRevokedS.k, wszSavedS.k, trivial⟩ Tryz.func23 (body := Tryz.f23.body.getD .skip) (fx := wszPoint.x) (by kernel_rfl) (by kernel_rfl) (by kernel_rfl) fun _ => by kernel_rfl
def wszPointS.x : Fx := ⟨[.tmp 4], [R0], [.val, .val], [R13, R0], [(0, ([1], [])), (1000, ([0, 1, 5], []))]⟩
def wszPointS.s (g : List D → Option (List D)) : Sig := ⟨wszPointS.x.ms, wszPointS.x.ps, wszPointS.x.rts, g⟩
theorem wszPointS.k : FnOk P tt cl 9 (wszPointS.s wszPointS.t) := fn_mk (Γ := [(23, wszPoint.s wszPoint.t)]) (G := g0) hT hmix g0ok ⟨wszPoint.k, trivial⟩ Tryz.func9 (body := Tryz.f9.body.getD .skip) (fx := wszPointS.x) (by kernel_rfl) (by kernel_rfl) (by kernel_rfl) fun _ => by kernel_rfl
def wszCertS.x : Fx := ⟨[.tmp 4], [R0], [.val, .val], [R14, R0], []⟩
def wszCertS.s (g : List D → Option (List D)) : Sig := ⟨wszCertS.x.ms, wszCertS.x.ps, wszCertS.x.rts, g⟩
theorem wszCertS.k : FnOk P tt cl 10 (wszCertS.s wszCertS.t) := fn_mk (Γ := []) (G := g0) hT hmix g0ok trivial Tryz.func10 (body := Tryz.f10.body.getD .skip) (fx := wszCertS.x) (by kernel_rfl) (by kernel_rfl) (by kernel_rfl) fun _ => by kernel_rfl
def wtoRequest.x : Fx := ⟨[.cell 2 75], [R15], [.val], [R15], []⟩
def wtoRequest.s (g : List D → Option (List D)) : Sig := ⟨wtoRequest.x.ms, wtoRequest.x.ps, wtoRequest.x.rts, g⟩
theorem wtoRequest.k : FnOk P tt cl 27 (wtoRequest.s wtoRequest.t) := fn_mk (Γ := []) (G := g0) hT hmix g0ok trivial Tryz.func27 (body := Tryz.f27.body.getD .skip) (fx := wtoRequest.x) (by kernel_rfl) (by kernel_rfl) (by kernel_rfl) fun _ => by kernel_rfl
def wtoSession.x : Fx := ⟨[.cell 2 113], [R16], [.val], [R16], []⟩
def wtoSession.s (g : List D → Option (List D)) : Sig := ⟨wtoSession.x.ms, wtoSession.x.ps, wtoSession.x.rts, g⟩
theorem wtoSession.k : FnOk P tt cl 55 (wtoSession.s wtoSession.t) := fn_mk (Γ := [(27, wtoRequest.s wtoRequest.t)]) (G := g0) hT hmix g0ok ⟨wtoRequest.k, trivial⟩ Tryz.func55 (body := Tryz.f55.body.getD .skip) (fx := wtoSession.x) (by kernel_rfl) (by kernel_rfl) (by kernel_rfl) fun _ => by kernel_rfl
def wtoSessionS.x : Fx := ⟨[.tmp 2], [R17], [.val], [R1], [(0, ([3], [])), (1000, ([0, 3, 4], []))]⟩
def wtoSessionS.s (g : List D → Option (List D)) : Sig := ⟨wtoSessionS.x.ms, wtoSessionS.x.ps, wtoSessionS.x.rts, g⟩
theorem wtoSessionS.k : FnOk P tt cl 12 (wtoSessionS.s wtoSessionS.t) := fn_mk (Γ := [(55, wtoSession.s wtoSession.t)]) (G := g0) hT hmix g0ok ⟨wtoSession.k, trivial⟩ Tryz.func12 (body := Tryz.f12.body.getD .skip) (fx := wtoSessionS.x) (by kernel_rfl) (by kernel_rfl) (by kernel_rfl) fun _ => by kernel_rfl
def wtoIncludes.x : Fx := ⟨[.cell 2 204], [R18], [.val], [R18], []⟩
def wtoIncludes.s (g : List D → Option (List D)) : Sig := ⟨wtoIncludes.x.ms, wtoIncludes.x.ps, wtoIncludes.x.rts, g⟩
theorem wtoIncludes.k : FnOk P tt cl 254 (wtoIncludes.s wtoIncludes.t) := fn_mk (Γ := []) (G := g0) hT hmix g0ok trivial Tryz.func254 (body := Tryz.f254.body.getD .skip) (fx := wtoIncludes.x) (by kernel_rfl) (by kernel_rfl) (by kernel_rfl) fun _ => by kernel_rfl
def wtoIncludesS.x : Fx := ⟨[.tmp 2], [R19], [.val], [R2], [(0, ([3], [])), (1000, ([0, 3, 4], []))]⟩
def wtoIncludesS.s (g : List D → Option (List D)) : Sig := ⟨wtoIncludesS.x.ms, wtoIncludesS.x.ps, wtoIncludesS.x.rts, g⟩
theorem wtoIncludesS.k : FnOk P tt cl 155 (wtoIncludesS.s wtoIncludesS.t) := fn_mk (Γ := [(254, wtoIncludes.s wtoIncludes.t)]) (G := g0) hT hmix g0ok ⟨wtoIncludes.k, trivial⟩ Tryz.func155 (body := Tryz.f155.body.getD .skip) (fx := wtoIncludesS.x) (by kernel_rfl) (by kernel_rfl) (by kernel_rfl) fun _ => by kernel_rfl
def wtoCondS.x : Fx := ⟨[.tmp 2], [R20], [.val], [R3], [(0, ([3], [])), (1000, ([0, 3, 4], []))]⟩
def wtoCondS.s (g : List D → Option (List D)) : Sig := ⟨wtoCondS.x.ms, wtoCondS.x.ps, wtoCondS.x.rts, g⟩
def wtoCond.x : Fx := ⟨[.cell 2 207], [R21], [.val], [R4], []⟩
def wtoCond.s (g : List D → Option (List D)) : Sig := ⟨wtoCond.x.ms, wtoCond.x.ps, wtoCond.x.rts, g⟩
theorem wtoCondS.kF : ∀ n, FnOk P tt cl 409 (wtoCondS.s (wtoCondS.F n wtoCondS.n)) ∧ FnOk P tt cl 381 (wtoCond.s (wtoCondS.F n wtoCond.n))
  | 0 => ⟨FnOk.none (callable_of (by kernel_rfl)) fun _ => rfl, FnOk.none (callable_of (by kernel_rfl)) fun _ => rfl⟩
  | n + 1 => by
    have ih := wtoCondS.kF n
    exact ⟨fn_mk (Γ := [(381, wtoCond.s (wtoCondS.F n wtoCond.n))]) (G := g0) hT hmix g0ok ⟨ih.2, trivial⟩ Tryz.func409 (body := Tryz.f409.body.getD .skip) (fx := wtoCondS.x) (by kernel_rfl) (by kernel_rfl) (by kernel_rfl) fun _ => by kernel_rfl, fn_mk (Γ := [(409, wtoCondS.s (wtoCondS.F n wtoCondS.n))]) (G := g0) hT hmix g0ok ⟨ih.1, trivial⟩ Tryz.func381 (body := Tryz.f381.body.getD .skip) (fx := wtoCond.x) (by kernel_rfl) (by kernel_rfl) (by kernel_rfl) fun _ => by kernel_rfl⟩
theorem wtoCondS.k : FnOk P tt cl 409 (wtoCondS.s wtoCondS.t) := FnOk.lim fun n => (wtoCondS.kF n).1
theorem wtoCond.k : FnOk P tt cl 381 (wtoCond.s wtoCond.t) := FnOk.lim fun n => (wtoCondS.kF n).2
def wtoRule.x : Fx := ⟨[.cell 2 209], [R22], [.val], [R5], []⟩
def wtoRule.s (g : List D → Option (List D)) : Sig := ⟨wtoRule.x.ms, wtoRule.x.ps, wtoRule.x.rts, g⟩
theorem wtoRule.k : FnOk P tt cl 326 (wtoRule.s wtoRule.t) := fn_mk (Γ := [(381, wtoCond.s wtoCond.t)]) (G := g0) hT hmix g0ok ⟨wtoCond.k, trivial⟩ Tryz.func326 (body := Tryz.f326.body.getD .skip) (fx := wtoRule.x) (by kernel_rfl) (by kernel_rfl) (by kernel_rfl) fun _ => by kernel_rfl
def wtoRuleS.x : Fx := ⟨[.tmp 2], [R23], [.val], [R6], [(0, ([3], [])), (1000, ([0, 3, 4], []))]⟩
def wtoRuleS.s (g : List D → Option (List D)) : Sig := ⟨wtoRuleS.x.ms, wtoRuleS.x.ps, wtoRuleS.x.rts, g⟩
theorem wtoRuleS.k : FnOk P tt cl 255 (wtoRuleS.s wtoRuleS.t) := fn_mk (Γ := [(326, wtoRule.s wtoRule.t)]) (G := g0) hT hmix g0ok ⟨wtoRule.k, trivial⟩ Tryz.func255 (body := Tryz.f255.body.getD .skip) (fx := wtoRuleS.x) (by kernel_rfl) (by kernel_rfl) (by kernel_rfl) fun _ => by kernel_rfl
def wtoPolicy.x : Fx := ⟨[.cell 2 62], [R24], [.val], [R7], []⟩
def wtoPolicy.s (g : List D → Option (List D)) : Sig := ⟨wtoPolicy.x.ms, wtoPolicy.x.ps, wtoPolicy.x.rts, g⟩
theorem wtoPolicy.k : FnOk P tt cl 156 (wtoPolicy.s wtoPolicy.t) := fn_mk (Γ := [(255, wtoRuleS.s wtoRuleS.t)]) (G := g0) hT hmix g0ok ⟨wtoRuleS.k, trivial⟩ Tryz.func156 (body := Tryz.f156.body.getD .skip) (fx := wtoPolicy.x) (by kernel_rfl) (by kernel_rfl) (by kernel_rfl) fun _ => by kernel_rfl
def wtoEpoch.x : Fx := ⟨[.cell 2 64], [R25], [.val], [R8], []⟩
def wtoEpoch.s (g : List D → Option (List D)) : Sig := ⟨wtoEpoch.x.ms, wtoEpoch.x.ps, wtoEpoch.x.rts, g⟩
theorem wtoEpoch.k : FnOk P tt cl 72 (wtoEpoch.s wtoEpoch.t) := fn_mk (Γ := [(155, wtoIncludesS.s wtoIncludesS.t), (156, wtoPolicy.s wtoPolicy.t)]) (G := g0) hT hmix g0ok ⟨wtoIncludesS.k, wtoPolicy.k, trivial⟩ Tryz.func72 (body := Tryz.f72.body.getD .skip) (fx := wtoEpoch.x) (by kernel_rfl) (by kernel_rfl) (by kernel_rfl) fun _ => by kernel_rfl
def wtoFact.x : Fx := ⟨[.cell 2 212], [R15], [.val], [R15], []⟩
def wtoFact.s (g : List D → Option (List D)) : Sig := ⟨wtoFact.x.ms, wtoFact.x.ps, wtoFact.x.rts, g⟩
theorem wtoFact.k : FnOk P tt cl 157 (wtoFact.s wtoFact.t) := fn_mk (Γ := []) (G := g0) hT hmix g0ok trivial Tryz.func157 (body := Tryz.f157.body.getD .skip) (fx := wtoFact.x) (by kernel_rfl) (by kernel_rfl) (by kernel_rfl) fun _ => by kernel_rfl
def wtoFactS.x : Fx := ⟨[.tmp 2], [R26], [.val], [R9], [(0, ([3], [])), (1000, ([0, 3, 4], []))]⟩
def wtoFactS.s (g : List D → Option (List D)) : Sig := ⟨wtoFactS.x.ms, wtoFactS.x.ps, wtoFactS.x.rts, g⟩
theorem wtoFactS.k : FnOk P tt cl 73 (wtoFactS.s wtoFactS.t) := fn_mk (Γ := [(157, wtoFact.s wtoFact.t)]) (G := g0) hT hmix g0ok ⟨wtoFact.k, trivial⟩ Tryz.func73 (body := Tryz.f73.body.getD .skip) (fx := wtoFactS.x) (by kernel_rfl) (by kernel_rfl) (by kernel_rfl) fun _ => by kernel_rfl
def wtoRevoked.x : Fx := ⟨[.cell 2 214], [R18], [.val], [R18], []⟩
def wtoRevoked.s (g : List D → Option (List D)) : Sig := ⟨wtoRevoked.x.ms, wtoRevoked.x.ps, wtoRevoked.x.rts, g⟩
theorem wtoRevoked.k : FnOk P tt cl 158 (wtoRevoked.s wtoRevoked.t) := fn_mk (Γ := []) (G := g0) hT hmix g0ok trivial Tryz.func158 (body := Tryz.f158.body.getD .skip) (fx := wtoRevoked.x) (by kernel_rfl) (by kernel_rfl) (by kernel_rfl) fun _ => by kernel_rfl
def wtoRevokedS.x : Fx := ⟨[.tmp 2], [R27], [.val], [R10], [(0, ([3], [])), (1000, ([0, 3, 4], []))]⟩
def wtoRevokedS.s (g : List D → Option (List D)) : Sig := ⟨wtoRevokedS.x.ms, wtoRevokedS.x.ps, wtoRevokedS.x.rts, g⟩
theorem wtoRevokedS.k : FnOk P tt cl 74 (wtoRevokedS.s wtoRevokedS.t) := fn_mk (Γ := [(158, wtoRevoked.s wtoRevoked.t)]) (G := g0) hT hmix g0ok ⟨wtoRevoked.k, trivial⟩ Tryz.func74 (body := Tryz.f74.body.getD .skip) (fx := wtoRevokedS.x) (by kernel_rfl) (by kernel_rfl) (by kernel_rfl) fun _ => by kernel_rfl
def wtoSaved.x : Fx := ⟨[.cell 2 216], [R28], [.val], [R28], []⟩
def wtoSaved.s (g : List D → Option (List D)) : Sig := ⟨wtoSaved.x.ms, wtoSaved.x.ps, wtoSaved.x.rts, g⟩
theorem wtoSaved.k : FnOk P tt cl 159 (wtoSaved.s wtoSaved.t) := fn_mk (Γ := [(27, wtoRequest.s wtoRequest.t)]) (G := g0) hT hmix g0ok ⟨wtoRequest.k, trivial⟩ Tryz.func159 (body := Tryz.f159.body.getD .skip) (fx := wtoSaved.x) (by kernel_rfl) (by kernel_rfl) (by kernel_rfl) fun _ => by kernel_rfl
def wtoSavedS.x : Fx := ⟨[.tmp 2], [R29], [.val], [R11], [(0, ([3], [])), (1000, ([0, 3, 4], []))]⟩
def wtoSavedS.s (g : List D → Option (List D)) : Sig := ⟨wtoSavedS.x.ms, wtoSavedS.x.ps, wtoSavedS.x.rts, g⟩
theorem wtoSavedS.k : FnOk P tt cl 75 (wtoSavedS.s wtoSavedS.t) := fn_mk (Γ := [(159, wtoSaved.s wtoSaved.t)]) (G := g0) hT hmix g0ok ⟨wtoSaved.k, trivial⟩ Tryz.func75 (body := Tryz.f75.body.getD .skip) (fx := wtoSavedS.x) (by kernel_rfl) (by kernel_rfl) (by kernel_rfl) fun _ => by kernel_rfl
def wtoPoint.x : Fx := ⟨[.cell 2 69], [R30], [.val], [R12], []⟩
def wtoPoint.s (g : List D → Option (List D)) : Sig := ⟨wtoPoint.x.ms, wtoPoint.x.ps, wtoPoint.x.rts, g⟩
theorem wtoPoint.k : FnOk P tt cl 25 (wtoPoint.s wtoPoint.t) := fn_mk (Γ := [(72, wtoEpoch.s wtoEpoch.t), (73, wtoFactS.s wtoFactS.t), (74, wtoRevokedS.s wtoRevokedS.t), (75, wtoSavedS.s wtoSavedS.t)]) (G := g0) hT hmix g0ok ⟨wtoEpoch.k, wtoFactS.k, wtoRevokedS.k, wtoSavedS.k, trivial⟩ Tryz.func25 (body := Tryz.f25.body.getD .skip) (fx := wtoPoint.x) (by kernel_rfl) (by kernel_rfl) (by kernel_rfl) fun _ => by kernel_rfl
def wtoPointS.x : Fx := ⟨[.tmp 2], [R31], [.val], [R13], [(0, ([3], [])), (1000, ([0, 3, 4], []))]⟩
def wtoPointS.s (g : List D → Option (List D)) : Sig := ⟨wtoPointS.x.ms, wtoPointS.x.ps, wtoPointS.x.rts, g⟩
theorem wtoPointS.k : FnOk P tt cl 13 (wtoPointS.s wtoPointS.t) := fn_mk (Γ := [(25, wtoPoint.s wtoPoint.t)]) (G := g0) hT hmix g0ok ⟨wtoPoint.k, trivial⟩ Tryz.func13 (body := Tryz.f13.body.getD .skip) (fx := wtoPointS.x) (by kernel_rfl) (by kernel_rfl) (by kernel_rfl) fun _ => by kernel_rfl
def wtoCert.x : Fx := ⟨[.cell 2 73], [R15], [.val], [R15], []⟩
def wtoCert.s (g : List D → Option (List D)) : Sig := ⟨wtoCert.x.ms, wtoCert.x.ps, wtoCert.x.rts, g⟩
theorem wtoCert.k : FnOk P tt cl 26 (wtoCert.s wtoCert.t) := fn_mk (Γ := []) (G := g0) hT hmix g0ok trivial Tryz.func26 (body := Tryz.f26.body.getD .skip) (fx := wtoCert.x) (by kernel_rfl) (by kernel_rfl) (by kernel_rfl) fun _ => by kernel_rfl
def wtoCertS.x : Fx := ⟨[.tmp 2], [R32], [.val], [R14], [(0, ([3], [])), (1000, ([0, 3, 4], []))]⟩
def wtoCertS.s (g : List D → Option (List D)) : Sig := ⟨wtoCertS.x.ms, wtoCertS.x.ps, wtoCertS.x.rts, g⟩
theorem wtoCertS.k : FnOk P tt cl 14 (wtoCertS.s wtoCertS.t) := fn_mk (Γ := [(26, wtoCert.s wtoCert.t)]) (G := g0) hT hmix g0ok ⟨wtoCert.k, trivial⟩ Tryz.func14 (body := Tryz.f14.body.getD .skip) (fx := wtoCertS.x) (by kernel_rfl) (by kernel_rfl) (by kernel_rfl) fun _ => by kernel_rfl
def sl35Point.x : Fx := ⟨[.tmp 4], [R0], [.val, .val], [R31, R0], [(0, ([], [])), (1000, ([0, 1, 5], []))]⟩
def sl35Point.s (g : List D → Option (List D)) : Sig := ⟨sl35Point.x.ms, sl35Point.x.ps, sl35Point.x.rts, g⟩
theorem sl35Point.k : FnOk P tt cl 52 (sl35Point.s sl35Point.t) := fn_mk (Γ := []) (G := g0) hT hmix g0ok trivial Tryz.func52 (body := Tryz.f52.body.getD .skip) (fx := sl35Point.x) (by kernel_rfl) (by kernel_rfl) (by kernel_rfl) fun _ => by kernel_rfl
def sl35Cert.x : Fx := ⟨[.tmp 4], [R0], [.val, .val], [R32, R0], [(0, ([], [])), (1000, ([0, 1, 5], []))]⟩
def sl35Cert.s (g : List D → Option (List D)) : Sig := ⟨sl35Cert.x.ms, sl35Cert.x.ps, sl35Cert.x.rts, g⟩
theorem sl35Cert.k : FnOk P tt cl 53 (sl35Cert.s sl35Cert.t) := fn_mk (Γ := []) (G := g0) hT hmix g0ok trivial Tryz.func53 (body := Tryz.f53.body.getD .skip) (fx := sl35Cert.x) (by kernel_rfl) (by kernel_rfl) (by kernel_rfl) fun _ => by kernel_rfl
def sAtTime.x : Fx := ⟨[.cell 4 75], [R15], [.val, .val], [R15, R0], []⟩
def sAtTime.s (g : List D → Option (List D)) : Sig := ⟨sAtTime.x.ms, sAtTime.x.ps, sAtTime.x.rts, g⟩
theorem sAtTime.k : FnOk P tt cl 137 (sAtTime.s sAtTime.t) := fn_mk (Γ := []) (G := g0) hT hmix g0ok trivial Tryz.func137 (body := Tryz.f137.body.getD .skip) (fx := sAtTime.x) (by kernel_rfl) (by kernel_rfl) (by kernel_rfl) fun _ => by kernel_rfl
def sl15Copy.x : Fx := ⟨[.cell 2 207], [R21], [.val], [R21], [(0, ([2, 3], [.nilC 3 3 206])), (1000, ([1, 2, 3, 4], [.nilC 3 3 206]))]⟩
def sl15Copy.s (g : List D → Option (List D)) : Sig := ⟨sl15Copy.x.ms, sl15Copy.x.ps, sl15Copy.x.rts, g⟩
theorem sl15Copy.kF : ∀ n, FnOk P tt cl 320 (sl15Copy.s (sl15Copy.F n sl15Copy.n))
  | 0 => FnOk.none (callable_of (by kernel_rfl)) fun _ => rfl
  | n + 1 => by
    have ih := sl15Copy.kF n
    exact fn_mk (Γ := [(320, sl15Copy.s (sl15Copy.F n sl15Copy.n))]) (G := g0) hT hmix g0ok ⟨ih, trivial⟩ Tryz.func320 (body := Tryz.f320.body.getD .skip) (fx := sl15Copy.x) (by kernel_rfl) (by kernel_rfl) (by kernel_rfl) fun _ => by kernel_rfl
theorem sl15Copy.k : FnOk P tt cl 320 (sl15Copy.s sl15Copy.t) := FnOk.lim fun n => (sl15Copy.kF n)
def sl19Copy.x : Fx := ⟨[.cell 2 62], [R24], [.val], [R24], [(0, ([2, 3], [.nilC 3 1 208])), (1000, ([1, 2, 3, 4], [.nilC 3 1 208]))]⟩
def sl19Copy.s (g : List D → Option (List D)) : Sig := ⟨sl19Copy.x.ms, sl19Copy.x.ps, sl19Copy.x.rts, g⟩
theorem sl19Copy.k : FnOk P tt cl 245 (sl19Copy.s sl19Copy.t) := fn_mk (Γ := [(320, sl15Copy.s sl15Copy.t)]) (G := g0) hT hmix g0ok ⟨sl15Copy.k, trivial⟩ Tryz.func245 (body := Tryz.f245.body.getD .skip) (fx := sl19Copy.x) (by kernel_rfl) (by kernel_rfl) (by kernel_rfl) fun _ => by kernel_rfl
def sl24Copy.x : Fx := ⟨[.cell 2 64], [R25], [.val], [R25], []⟩
def sl24Copy.s (g : List D → Option (List D)) : Sig := ⟨sl24Copy.x.ms, sl24Copy.x.ps, sl24Copy.x.rts, g⟩
theorem sl24Copy.k : FnOk P tt cl 147 (sl24Copy.s sl24Copy.t) := fn_mk (Γ := [(245, sl19Copy.s sl19Copy.t)]) (G := g0) hT hmix g0ok ⟨sl19Copy.k, trivial⟩ Tryz.func147 (body := Tryz.f147.body.getD .skip) (fx := sl24Copy.x) (by kernel_rfl) (by kernel_rfl) (by kernel_rfl) fun _ => by kernel_rfl
def sl7Copy.x : Fx := ⟨[.tmp 2], [R26], [.val], [R26], []⟩
def sl7Copy.s (g : List D → Option (List D)) : Sig := ⟨sl7Copy.x.ms, sl7Copy.x.ps, sl7Copy.x.rts, g⟩
theorem sl7Copy.k : FnOk P tt cl 148 (sl7Copy.s sl7Copy.t) := fn_mk (Γ := []) (G := g0) hT hmix g0ok trivial Tryz.func148 (body := Tryz.f148.body.getD .skip) (fx := sl7Copy.x) (by kernel_rfl) (by kernel_rfl) (by kernel_rfl) fun _ => by kernel_rfl
def sl27Copy.x : Fx := ⟨[.cell 2 69], [R30], [.val], [R30], []⟩
def sl27Copy.s (g : List D → Option (List D)) : Sig := ⟨sl27Copy.x.ms, sl27Copy.x.ps, sl27Copy.x.rts, g⟩
theorem sl27Copy.k : FnOk P tt cl 70 (sl27Copy.s sl27Copy.t) := fn_mk (Γ := [(147, sl24Copy.s sl24Copy.t), (148, sl7Copy.s sl7Copy.t)]) (G := g0) hT hmix g0ok ⟨sl24Copy.k, sl7Copy.k, trivial⟩ Tryz.func70 (body := Tryz.f70.body.getD .skip) (fx := sl27Copy.x) (by kernel_rfl) (by kernel_rfl) (by kernel_rfl) fun _ => by kernel_rfl
def sl1In.x : Fx := ⟨[.tmp 6], [R33], [.val, .val, .val], [R0, R0, R0], []⟩
def sl1In.s (g : List D → Option (List D)) : Sig := ⟨sl1In.x.ms, sl1In.x.ps, sl1In.x.rts, g⟩
theorem sl1In.k : FnOk P tt cl 228 (sl1In.s sl1In.t) := fn_mk (Γ := []) (G := g0) hT hmix g0ok trivial Tryz.func228 (body := Tryz.f228.body.getD .skip) (fx := sl1In.x) (by kernel_rfl) (by kernel_rfl) (by kernel_rfl) fun _ => by kernel_rfl
def sIsName.x : Fx := ⟨[.tmp 2], [R33], [.val], [R0], []⟩
def sIsName.s (g : List D → Option (List D)) : Sig := ⟨sIsName.x.ms, sIsName.x.ps, sIsName.x.rts, g⟩
theorem sIsName.k : FnOk P tt cl 319 (sIsName.s sIsName.t) := fn_mk (Γ := [(228, sl1In.s sl1In.t)]) (G := g0) hT hmix g0ok ⟨sl1In.k, trivial⟩ Tryz.func319 (body := Tryz.f319.body.getD .skip) (fx := sIsName.x) (by kernel_rfl) (by kernel_rfl) (by kernel_rfl) fun _ => by kernel_rfl
def sHasKind.x : Fx := ⟨[.tmp 4], [R33], [.val, .val], [R0, R0], []⟩
def sHasKind.s (g : List D → Option (List D)) : Sig := ⟨sHasKind.x.ms, sHasKind.x.ps, sHasKind.x.rts, g⟩
theorem sHasKind.k : FnOk P tt cl 243 (sHasKind.s sHasKind.t) := fn_mk (Γ := [(319, sIsName.s sIsName.t)]) (G := g0) hT hmix g0ok ⟨sIsName.k, trivial⟩ Tryz.func243 (body := Tryz.f243.body.getD .skip) (fx := sHasKind.x) (by kernel_rfl) (by kernel_rfl) (by kernel_rfl) fun _ => by kernel_rfl
def sIsTime.x : Fx := ⟨[.tmp 2], [R33], [.val], [R0], []⟩
def sIsTime.s (g : List D → Option (List D)) : Sig := ⟨sIsTime.x.ms, sIsTime.x.ps, sIsTime.x.rts, g⟩
theorem sIsTime.k : FnOk P tt cl 244 (sIsTime.s sIsTime.t) := fn_mk (Γ := [(228, sl1In.s sl1In.t)]) (G := g0) hT hmix g0ok ⟨sl1In.k, trivial⟩ Tryz.func244 (body := Tryz.f244.body.getD .skip) (fx := sIsTime.x) (by kernel_rfl) (by kernel_rfl) (by kernel_rfl) fun _ => by kernel_rfl
def sIsRequest.x : Fx := ⟨[.tmp 2], [R33], [.val], [R15], []⟩
def sIsRequest.s (g : List D → Option (List D)) : Sig := ⟨sIsRequest.x.ms, sIsRequest.x.ps, sIsRequest.x.rts, g⟩
theorem sIsRequest.k : FnOk P tt cl 146 (sIsRequest.s sIsRequest.t) := fn_mk (Γ := [(228, sl1In.s sl1In.t), (243, sHasKind.s sHasKind.t), (244, sIsTime.s sIsTime.t)]) (G := g0) hT hmix g0ok ⟨sl1In.k, sHasKind.k, sIsTime.k, trivial⟩ Tryz.func146 (body := Tryz.f146.body.getD .skip) (fx := sIsRequest.x) (by kernel_rfl) (by kernel_rfl) (by kernel_rfl) fun _ => by kernel_rfl
def sIsValidKey.x : Fx := ⟨[.tmp 2], [R33], [.val], [R0], []⟩
def sIsValidKey.s (g : List D → Option (List D)) : Sig := ⟨sIsValidKey.x.ms, sIsValidKey.x.ps, sIsValidKey.x.rts, g⟩
theorem sIsValidKey.k : FnOk P tt cl 321 (sIsValidKey.s sIsValidKey.t) := fn_mk (Γ := [(228, sl1In.s sl1In.t)]) (G := g0) hT hmix g0ok ⟨sl1In.k, trivial⟩ Tryz.func321 (body := Tryz.f321.body.getD .skip) (fx := sIsValidKey.x) (by kernel_rfl) (by kernel_rfl) (by kernel_rfl) fun _ => by kernel_rfl
def sIsCert.x : Fx := ⟨[.tmp 2], [R33], [.val], [R15], []⟩
def sIsCert.s (g : List D → Option (List D)) : Sig := ⟨sIsCert.x.ms, sIsCert.x.ps, sIsCert.x.rts, g⟩
theorem sIsCert.k : FnOk P tt cl 246 (sIsCert.s sIsCert.t) := fn_mk (Γ := [(228, sl1In.s sl1In.t), (244, sIsTime.s sIsTime.t), (319, sIsName.s sIsName.t), (321, sIsValidKey.s sIsValidKey.t)]) (G := g0) hT hmix g0ok ⟨sl1In.k, sIsTime.k, sIsName.k, sIsValidKey.k, trivial⟩ Tryz.func246 (body := Tryz.f246.body.getD .skip) (fx := sIsCert.x) (by kernel_rfl) (by kernel_rfl) (by kernel_rfl) fun _ => by kernel_rfl
def sIsWithin.x : Fx := ⟨[.tmp 6], [R33], [.val, .val, .val], [R0, R0, R0], []⟩
def sIsWithin.s (g : List D → Option (List D)) : Sig := ⟨sIsWithin.x.ms, sIsWithin.x.ps, sIsWithin.x.rts, g⟩
theorem sIsWithin.k : FnOk P tt cl 247 (sIsWithin.s sIsWithin.t) := fn_mk (Γ := [(244, sIsTime.s sIsTime.t)]) (G := g0) hT hmix g0ok ⟨sIsTime.k, trivial⟩ Tryz.func247 (body := Tryz.f247.body.getD .skip) (fx := sIsWithin.x) (by kernel_rfl) (by kernel_rfl) (by kernel_rfl) fun _ => by kernel_rfl
def sMod.x : Fx := ⟨[.tmp 4], [R0], [.val, .val], [R0, R0], []⟩
def sMod.s (g : List D → Option (List D)) : Sig := ⟨sMod.x.ms, sMod.x.ps, sMod.x.rts, g⟩
theorem sMod.k : FnOk P tt cl 390 (sMod.s sMod.t) := fn_mk (Γ := [(228, sl1In.s sl1In.t)]) (G := g0) hT hmix g0ok ⟨sl1In.k, trivial⟩ Tryz.func390 (body := Tryz.f390.body.getD .skip) (fx := sMod.x) (by kernel_rfl) (by kernel_rfl) (by kernel_rfl) fun _ => by kernel_rfl
def sHash.x : Fx := ⟨[.tmp 2], [R0], [.val], [R34], [(0, ([3], [])), (1000, ([0, 3, 4], []))]⟩
def sHash.s (g : List D → Option (List D)) : Sig := ⟨sHash.x.ms, sHash.x.ps, sHash.x.rts, g⟩
theorem sHash.k : FnOk P tt cl 339 (sHash.s sHash.t) := fn_mk (Γ := [(390, sMod.s sMod.t)]) (G := g0) hT hmix g0ok ⟨sMod.k, trivial⟩ Tryz.func339 (body := Tryz.f339.body.getD .skip) (fx := sHash.x) (by kernel_rfl) (by kernel_rfl) (by kernel_rfl) fun _ => by kernel_rfl
def sKeyedHash.x : Fx := ⟨[.tmp 4], [R0], [.val, .val], [R0, R34], []⟩
def sKeyedHash.s (g : List D → Option (List D)) : Sig := ⟨sKeyedHash.x.ms, sKeyedHash.x.ps, sKeyedHash.x.rts, g⟩
theorem sKeyedHash.k : FnOk P tt cl 322 (sKeyedHash.s sKeyedHash.t) := fn_mk (Γ := [(339, sHash.s sHash.t)]) (G := g0) hT hmix g0ok ⟨sHash.k, trivial⟩ Tryz.func322 (body := Tryz.f322.body.getD .skip) (fx := sKeyedHash.x) (by kernel_rfl) (by kernel_rfl) (by kernel_rfl) fun _ => by kernel_rfl
def sMarkCert.x : Fx := ⟨[.cell 4 73], [R15], [.val, .val], [R0, R15], []⟩
def sMarkCert.s (g : List D → Option (List D)) : Sig := ⟨sMarkCert.x.ms, sMarkCert.x.ps, sMarkCert.x.rts, g⟩
theorem sMarkCert.k : FnOk P tt cl 248 (sMarkCert.s sMarkCert.t) := fn_mk (Γ := [(322, sKeyedHash.s sKeyedHash.t)]) (G := g0) hT hmix g0ok ⟨sKeyedHash.k, trivial⟩ Tryz.func248 (body := Tryz.f248.body.getD .skip) (fx := sMarkCert.x) (by kernel_rfl) (by kernel_rfl) (by kernel_rfl) fun _ => by kernel_rfl
def sCheckCert.x : Fx := ⟨[.tmp 6], [R33], [.val, .val, .val], [R0, R15, R0], []⟩
def sCheckCert.s (g : List D → Option (List D)) : Sig := ⟨sCheckCert.x.ms, sCheckCert.x.ps, sCheckCert.x.rts, g⟩
theorem sCheckCert.k : FnOk P tt cl 149 (sCheckCert.s sCheckCert.t) := fn_mk (Γ := [(246, sIsCert.s sIsCert.t), (247, sIsWithin.s sIsWithin.t), (248, sMarkCert.s sMarkCert.t)]) (G := g0) hT hmix g0ok ⟨sIsCert.k, sIsWithin.k, sMarkCert.k, trivial⟩ Tryz.func149 (body := Tryz.f149.body.getD .skip) (fx := sCheckCert.x) (by kernel_rfl) (by kernel_rfl) (by kernel_rfl) fun _ => by kernel_rfl
def sAgeOf.x : Fx := ⟨[.tmp 4], [R0], [.val, .val], [R0, R0], []⟩
def sAgeOf.s (g : List D → Option (List D)) : Sig := ⟨sAgeOf.x.ms, sAgeOf.x.ps, sAgeOf.x.rts, g⟩
theorem sAgeOf.k : FnOk P tt cl 323 (sAgeOf.s sAgeOf.t) := fn_mk (Γ := [(244, sIsTime.s sIsTime.t)]) (G := g0) hT hmix g0ok ⟨sIsTime.k, trivial⟩ Tryz.func323 (body := Tryz.f323.body.getD .skip) (fx := sAgeOf.x) (by kernel_rfl) (by kernel_rfl) (by kernel_rfl) fun _ => by kernel_rfl
def sIsFresh.x : Fx := ⟨[.tmp 6], [R33], [.val, .val, .val], [R0, R0, R0], []⟩
def sIsFresh.s (g : List D → Option (List D)) : Sig := ⟨sIsFresh.x.ms, sIsFresh.x.ps, sIsFresh.x.rts, g⟩
theorem sIsFresh.k : FnOk P tt cl 249 (sIsFresh.s sIsFresh.t) := fn_mk (Γ := [(323, sAgeOf.s sAgeOf.t)]) (G := g0) hT hmix g0ok ⟨sAgeOf.k, trivial⟩ Tryz.func249 (body := Tryz.f249.body.getD .skip) (fx := sIsFresh.x) (by kernel_rfl) (by kernel_rfl) (by kernel_rfl) fun _ => by kernel_rfl
def sIsCurrent.x : Fx := ⟨[.tmp 4], [R33], [.val, .val], [R30, R0], []⟩
def sIsCurrent.s (g : List D → Option (List D)) : Sig := ⟨sIsCurrent.x.ms, sIsCurrent.x.ps, sIsCurrent.x.rts, g⟩
theorem sIsCurrent.k : FnOk P tt cl 150 (sIsCurrent.s sIsCurrent.t) := fn_mk (Γ := [(249, sIsFresh.s sIsFresh.t)]) (G := g0) hT hmix g0ok ⟨sIsFresh.k, trivial⟩ Tryz.func150 (body := Tryz.f150.body.getD .skip) (fx := sIsCurrent.x) (by kernel_rfl) (by kernel_rfl) (by kernel_rfl) fun _ => by kernel_rfl
def sRevokedAt.x : Fx := ⟨[.tmp 4], [R0], [.val, .val], [R27, R0], [(0, ([], [])), (1000, ([0, 1, 5], []))]⟩
def sRevokedAt.s (g : List D → Option (List D)) : Sig := ⟨sRevokedAt.x.ms, sRevokedAt.x.ps, sRevokedAt.x.rts, g⟩
theorem sRevokedAt.k : FnOk P tt cl 250 (sRevokedAt.s sRevokedAt.t) := fn_mk (Γ := []) (G := g0) hT hmix g0ok trivial Tryz.func250 (body := Tryz.f250.body.getD .skip) (fx := sRevokedAt.x) (by kernel_rfl) (by kernel_rfl) (by kernel_rfl) fun _ => by kernel_rfl
def sIsRevoked.x : Fx := ⟨[.tmp 6], [R33], [.val, .val, .val], [R27, R0, R0], []⟩
def sIsRevoked.s (g : List D → Option (List D)) : Sig := ⟨sIsRevoked.x.ms, sIsRevoked.x.ps, sIsRevoked.x.rts, g⟩
theorem sIsRevoked.k : FnOk P tt cl 151 (sIsRevoked.s sIsRevoked.t) := fn_mk (Γ := [(250, sRevokedAt.s sRevokedAt.t)]) (G := g0) hT hmix g0ok ⟨sRevokedAt.k, trivial⟩ Tryz.func151 (body := Tryz.f151.body.getD .skip) (fx := sIsRevoked.x) (by kernel_rfl) (by kernel_rfl) (by kernel_rfl) fun _ => by kernel_rfl
def sSameQuestion.x : Fx := ⟨[.tmp 4], [R33], [.val, .val], [R15, R15], []⟩
def sSameQuestion.s (g : List D → Option (List D)) : Sig := ⟨sSameQuestion.x.ms, sSameQuestion.x.ps, sSameQuestion.x.rts, g⟩
theorem sSameQuestion.k : FnOk P tt cl 251 (sSameQuestion.s sSameQuestion.t) := fn_mk (Γ := [(137, sAtTime.s sAtTime.t)]) (G := g0) hT hmix g0ok ⟨sAtTime.k, trivial⟩ Tryz.func251 (body := Tryz.f251.body.getD .skip) (fx := sSameQuestion.x) (by kernel_rfl) (by kernel_rfl) (by kernel_rfl) fun _ => by kernel_rfl
def sFindSaved.x : Fx := ⟨[.tmp 4], [R0], [.val, .val], [R29, R15], [(0, ([], [])), (1000, ([0, 3, 5], []))]⟩
def sFindSaved.s (g : List D → Option (List D)) : Sig := ⟨sFindSaved.x.ms, sFindSaved.x.ps, sFindSaved.x.rts, g⟩
theorem sFindSaved.k : FnOk P tt cl 152 (sFindSaved.s sFindSaved.t) := fn_mk (Γ := [(251, sSameQuestion.s sSameQuestion.t)]) (G := g0) hT hmix g0ok ⟨sSameQuestion.k, trivial⟩ Tryz.func152 (body := Tryz.f152.body.getD .skip) (fx := sFindSaved.x) (by kernel_rfl) (by kernel_rfl) (by kernel_rfl) fun _ => by kernel_rfl
def sl15Left.x : Fx := ⟨[.tmp 4], [R0], [.val, .val], [R21, R0], [(0, ([1], [])), (1000, ([1, 2, 5], []))]⟩
def sl15Left.s (g : List D → Option (List D)) : Sig := ⟨sl15Left.x.ms, sl15Left.x.ps, sl15Left.x.rts, g⟩
theorem sl15Left.kF : ∀ n, FnOk P tt cl 424 (sl15Left.s (sl15Left.F n sl15Left.n))
  | 0 => FnOk.none (callable_of (by kernel_rfl)) fun _ => rfl
  | n + 1 => by
    have ih := sl15Left.kF n
    exact fn_mk (Γ := [(424, sl15Left.s (sl15Left.F n sl15Left.n))]) (G := g0) hT hmix g0ok ⟨ih, trivial⟩ Tryz.func424 (body := Tryz.f424.body.getD .skip) (fx := sl15Left.x) (by kernel_rfl) (by kernel_rfl) (by kernel_rfl) fun _ => by kernel_rfl
theorem sl15Left.k : FnOk P tt cl 424 (sl15Left.s sl15Left.t) := FnOk.lim fun n => (sl15Left.kF n)
def sArityOf.x : Fx := ⟨[.tmp 2], [R0], [.val], [R0], []⟩
def sArityOf.s (g : List D → Option (List D)) : Sig := ⟨sArityOf.x.ms, sArityOf.x.ps, sArityOf.x.rts, g⟩
theorem sArityOf.k : FnOk P tt cl 451 (sArityOf.s sArityOf.t) := fn_mk (Γ := []) (G := g0) hT hmix g0ok trivial Tryz.func451 (body := Tryz.f451.body.getD .skip) (fx := sArityOf.x) (by kernel_rfl) (by kernel_rfl) (by kernel_rfl) fun _ => by kernel_rfl
def sl15Node.x : Fx := ⟨[.tmp 2], [R33], [.val], [R21], []⟩
def sl15Node.s (g : List D → Option (List D)) : Sig := ⟨sl15Node.x.ms, sl15Node.x.ps, sl15Node.x.rts, g⟩
theorem sl15Node.k : FnOk P tt cl 438 (sl15Node.s sl15Node.t) := fn_mk (Γ := [(228, sl1In.s sl1In.t), (244, sIsTime.s sIsTime.t), (451, sArityOf.s sArityOf.t)]) (G := g0) hT hmix g0ok ⟨sl1In.k, sIsTime.k, sArityOf.k, trivial⟩ Tryz.func438 (body := Tryz.f438.body.getD .skip) (fx := sl15Node.x) (by kernel_rfl) (by kernel_rfl) (by kernel_rfl) fun _ => by kernel_rfl
def sl15Valid.x : Fx := ⟨[.tmp 2], [R33], [.val], [R21], [(0, ([], [])), (1000, ([1, 3], []))]⟩
def sl15Valid.s (g : List D → Option (List D)) : Sig := ⟨sl15Valid.x.ms, sl15Valid.x.ps, sl15Valid.x.rts, g⟩
theorem sl15Valid.kF : ∀ n, FnOk P tt cl 425 (sl15Valid.s (sl15Valid.F n sl15Valid.n))
  | 0 => FnOk.none (callable_of (by kernel_rfl)) fun _ => rfl
  | n + 1 => by
    have ih := sl15Valid.kF n
    exact fn_mk (Γ := [(425, sl15Valid.s (sl15Valid.F n sl15Valid.n)), (438, sl15Node.s sl15Node.t)]) (G := g0) hT hmix g0ok ⟨ih, sl15Node.k, trivial⟩ Tryz.func425 (body := Tryz.f425.body.getD .skip) (fx := sl15Valid.x) (by kernel_rfl) (by kernel_rfl) (by kernel_rfl) fun _ => by kernel_rfl
theorem sl15Valid.k : FnOk P tt cl 425 (sl15Valid.s sl15Valid.t) := FnOk.lim fun n => (sl15Valid.kF n)
def sIsCond.x : Fx := ⟨[.tmp 2], [R33], [.val], [R21], []⟩
def sIsCond.s (g : List D → Option (List D)) : Sig := ⟨sIsCond.x.ms, sIsCond.x.ps, sIsCond.x.rts, g⟩
theorem sIsCond.k : FnOk P tt cl 407 (sIsCond.s sIsCond.t) := fn_mk (Γ := [(424, sl15Left.s sl15Left.t), (425, sl15Valid.s sl15Valid.t)]) (G := g0) hT hmix g0ok ⟨sl15Left.k, sl15Valid.k, trivial⟩ Tryz.func407 (body := Tryz.f407.body.getD .skip) (fx := sIsCond.x) (by kernel_rfl) (by kernel_rfl) (by kernel_rfl) fun _ => by kernel_rfl
def sIsRule.x : Fx := ⟨[.tmp 2], [R33], [.val], [R22], []⟩
def sIsRule.s (g : List D → Option (List D)) : Sig := ⟨sIsRule.x.ms, sIsRule.x.ps, sIsRule.x.rts, g⟩
theorem sIsRule.k : FnOk P tt cl 378 (sIsRule.s sIsRule.t) := fn_mk (Γ := [(228, sl1In.s sl1In.t), (243, sHasKind.s sHasKind.t), (407, sIsCond.s sIsCond.t)]) (G := g0) hT hmix g0ok ⟨sl1In.k, sHasKind.k, sIsCond.k, trivial⟩ Tryz.func378 (body := Tryz.f378.body.getD .skip) (fx := sIsRule.x) (by kernel_rfl) (by kernel_rfl) (by kernel_rfl) fun _ => by kernel_rfl
def sIsPolicy.x : Fx := ⟨[.tmp 2], [R33], [.val], [R24], [(0, ([1], [])), (1000, ([1, 3], []))]⟩
def sIsPolicy.s (g : List D → Option (List D)) : Sig := ⟨sIsPolicy.x.ms, sIsPolicy.x.ps, sIsPolicy.x.rts, g⟩
theorem sIsPolicy.k : FnOk P tt cl 324 (sIsPolicy.s sIsPolicy.t) := fn_mk (Γ := [(228, sl1In.s sl1In.t), (378, sIsRule.s sIsRule.t)]) (G := g0) hT hmix g0ok ⟨sl1In.k, sIsRule.k, trivial⟩ Tryz.func324 (body := Tryz.f324.body.getD .skip) (fx := sIsPolicy.x) (by kernel_rfl) (by kernel_rfl) (by kernel_rfl) fun _ => by kernel_rfl
def sIsFor.x : Fx := ⟨[.tmp 6], [R33], [.val, .val, .val], [R22, R0, R0], []⟩
def sIsFor.s (g : List D → Option (List D)) : Sig := ⟨sIsFor.x.ms, sIsFor.x.ps, sIsFor.x.rts, g⟩
theorem sIsFor.k : FnOk P tt cl 379 (sIsFor.s sIsFor.t) := fn_mk (Γ := []) (G := g0) hT hmix g0ok trivial Tryz.func379 (body := Tryz.f379.body.getD .skip) (fx := sIsFor.x) (by kernel_rfl) (by kernel_rfl) (by kernel_rfl) fun _ => by kernel_rfl
def sIsFact.x : Fx := ⟨[.tmp 2], [R33], [.val], [R15], []⟩
def sIsFact.s (g : List D → Option (List D)) : Sig := ⟨sIsFact.x.ms, sIsFact.x.ps, sIsFact.x.rts, g⟩
theorem sIsFact.k : FnOk P tt cl 367 (sIsFact.s sIsFact.t) := fn_mk (Γ := [(228, sl1In.s sl1In.t), (243, sHasKind.s sHasKind.t), (244, sIsTime.s sIsTime.t)]) (G := g0) hT hmix g0ok ⟨sl1In.k, sHasKind.k, sIsTime.k, trivial⟩ Tryz.func367 (body := Tryz.f367.body.getD .skip) (fx := sIsFact.x) (by kernel_rfl) (by kernel_rfl) (by kernel_rfl) fun _ => by kernel_rfl
def sHoldsAt.x : Fx := ⟨[.tmp 6], [R33], [.val, .val, .val], [R15, R0, R0], []⟩
def sHoldsAt.s (g : List D → Option (List D)) : Sig := ⟨sHoldsAt.x.ms, sHoldsAt.x.ps, sHoldsAt.x.rts, g⟩
theorem sHoldsAt.k : FnOk P tt cl 453 (sHoldsAt.s sHoldsAt.t) := fn_mk (Γ := [(247, sIsWithin.s sIsWithin.t), (249, sIsFresh.s sIsFresh.t), (367, sIsFact.s sIsFact.t)]) (G := g0) hT hmix g0ok ⟨sIsWithin.k, sIsFresh.k, sIsFact.k, trivial⟩ Tryz.func453 (body := Tryz.f453.body.getD .skip) (fx := sHoldsAt.x) (by kernel_rfl) (by kernel_rfl) (by kernel_rfl) fun _ => by kernel_rfl
def sRolesUnder.x : Fx := ⟨[.tmp 4], [R34], [.val, .val], [R19, R0], [(0, ([5, 6], [])), (2, ([0, 5, 6, 7], [])), (4, ([5], [])), (1000, ([0, 5, 6, 7], [])), (1002, ([0, 5, 6, 7, 8], [])), (1004, ([5, 6, 9], []))]⟩
def sRolesUnder.s (g : List D → Option (List D)) : Sig := ⟨sRolesUnder.x.ms, sRolesUnder.x.ps, sRolesUnder.x.rts, g⟩
theorem sRolesUnder.k : FnOk P tt cl 433 (sRolesUnder.s sRolesUnder.t) := fn_mk (Γ := [(228, sl1In.s sl1In.t)]) (G := g0) hT hmix g0ok ⟨sl1In.k, trivial⟩ Tryz.func433 (body := Tryz.f433.body.getD .skip) (fx := sRolesUnder.x) (by kernel_rfl) (by kernel_rfl) (by kernel_rfl) fun _ => by kernel_rfl
def sRolesOf.x : Fx := ⟨[.tmp 10], [R34], [.val, .val, .val, .val, .val], [R19, R26, R0, R0, R0], [(0, ([11], [])), (2, ([0, 1, 2, 3, 4, 11, 12], [])), (4, ([15], [])), (1000, ([0, 1, 2, 3, 4, 11, 12], [])), (1002, ([0, 1, 2, 3, 4, 11, 12, 13, 14], [])), (1004, ([11, 15, 16], []))]⟩
def sRolesOf.s (g : List D → Option (List D)) : Sig := ⟨sRolesOf.x.ms, sRolesOf.x.ps, sRolesOf.x.rts, g⟩
theorem sRolesOf.k : FnOk P tt cl 452 (sRolesOf.s sRolesOf.t) := fn_mk (Γ := [(433, sRolesUnder.s sRolesUnder.t), (453, sHoldsAt.s sHoldsAt.t)]) (G := g0) hT hmix g0ok ⟨sRolesUnder.k, sHoldsAt.k, trivial⟩ Tryz.func452 (body := Tryz.f452.body.getD .skip) (fx := sRolesOf.x) (by kernel_rfl) (by kernel_rfl) (by kernel_rfl) fun _ => by kernel_rfl
def sl13Has.x : Fx := ⟨[.tmp 4], [R33], [.val, .val], [R34, R0], [(0, ([], [])), (1000, ([0, 1, 5], []))]⟩
def sl13Has.s (g : List D → Option (List D)) : Sig := ⟨sl13Has.x.ms, sl13Has.x.ps, sl13Has.x.rts, g⟩
theorem sl13Has.k : FnOk P tt cl 346 (sl13Has.s sl13Has.t) := fn_mk (Γ := []) (G := g0) hT hmix g0ok trivial Tryz.func346 (body := Tryz.f346.body.getD .skip) (fx := sl13Has.x) (by kernel_rfl) (by kernel_rfl) (by kernel_rfl) fun _ => by kernel_rfl
def sHasRole.x : Fx := ⟨[.tmp 12], [R33], [.val, .val, .val, .val, .val, .val], [R19, R26, R0, R0, R0, R0], []⟩
def sHasRole.s (g : List D → Option (List D)) : Sig := ⟨sHasRole.x.ms, sHasRole.x.ps, sHasRole.x.rts, g⟩
theorem sHasRole.k : FnOk P tt cl 439 (sHasRole.s sHasRole.t) := fn_mk (Γ := [(346, sl13Has.s sl13Has.t), (452, sRolesOf.s sRolesOf.t)]) (G := g0) hT hmix g0ok ⟨sl13Has.k, sRolesOf.k, trivial⟩ Tryz.func439 (body := Tryz.f439.body.getD .skip) (fx := sHasRole.x) (by kernel_rfl) (by kernel_rfl) (by kernel_rfl) fun _ => by kernel_rfl
def sFindFact.x : Fx := ⟨[.tmp 12], [R0], [.val, .val, .val, .val, .val, .val], [R26, R0, R0, R0, R0, R0], [(0, ([], [])), (1000, ([0, 1, 2, 3, 4, 5, 13], []))]⟩
def sFindFact.s (g : List D → Option (List D)) : Sig := ⟨sFindFact.x.ms, sFindFact.x.ps, sFindFact.x.rts, g⟩
theorem sFindFact.k : FnOk P tt cl 440 (sFindFact.s sFindFact.t) := fn_mk (Γ := [(453, sHoldsAt.s sHoldsAt.t)]) (G := g0) hT hmix g0ok ⟨sHoldsAt.k, trivial⟩ Tryz.func440 (body := Tryz.f440.body.getD .skip) (fx := sFindFact.x) (by kernel_rfl) (by kernel_rfl) (by kernel_rfl) fun _ => by kernel_rfl
def sMax.x : Fx := ⟨[.tmp 4], [R0], [.val, .val], [R0, R0], []⟩
def sMax.s (g : List D → Option (List D)) : Sig := ⟨sMax.x.ms, sMax.x.ps, sMax.x.rts, g⟩
theorem sMax.k : FnOk P tt cl 266 (sMax.s sMax.t) := fn_mk (Γ := []) (G := g0) hT hmix g0ok trivial Tryz.func266 (body := Tryz.f266.body.getD .skip) (fx := sMax.x) (by kernel_rfl) (by kernel_rfl) (by kernel_rfl) fun _ => by kernel_rfl
def sBestValue.x : Fx := ⟨[.tmp 10], [R0], [.val, .val, .val, .val, .val], [R26, R0, R0, R0, R0], [(0, ([11], [])), (1000, ([0, 1, 2, 3, 4, 11, 12], []))]⟩
def sBestValue.s (g : List D → Option (List D)) : Sig := ⟨sBestValue.x.ms, sBestValue.x.ps, sBestValue.x.rts, g⟩
theorem sBestValue.k : FnOk P tt cl 441 (sBestValue.s sBestValue.t) := fn_mk (Γ := [(266, sMax.s sMax.t), (453, sHoldsAt.s sHoldsAt.t)]) (G := g0) hT hmix g0ok ⟨sMax.k, sHoldsAt.k, trivial⟩ Tryz.func441 (body := Tryz.f441.body.getD .skip) (fx := sBestValue.x) (by kernel_rfl) (by kernel_rfl) (by kernel_rfl) fun _ => by kernel_rfl
def sLeafHolds.x : Fx := ⟨[.tmp 8], [R33], [.val, .val, .val, .val], [R19, R26, R21, R15], []⟩
def sLeafHolds.s (g : List D → Option (List D)) : Sig := ⟨sLeafHolds.x.ms, sLeafHolds.x.ps, sLeafHolds.x.rts, g⟩
theorem sLeafHolds.k : FnOk P tt cl 426 (sLeafHolds.s sLeafHolds.t) := fn_mk (Γ := [(439, sHasRole.s sHasRole.t), (440, sFindFact.s sFindFact.t), (441, sBestValue.s sBestValue.t)]) (G := g0) hT hmix g0ok ⟨sHasRole.k, sFindFact.k, sBestValue.k, trivial⟩ Tryz.func426 (body := Tryz.f426.body.getD .skip) (fx := sLeafHolds.x) (by kernel_rfl) (by kernel_rfl) (by kernel_rfl) fun _ => by kernel_rfl
def sl18Eval.x : Fx := ⟨[.tmp 8], [R33], [.val, .val, .val, .val], [R19, R26, R21, R15], []⟩
def sl18Eval.s (g : List D → Option (List D)) : Sig := ⟨sl18Eval.x.ms, sl18Eval.x.ps, sl18Eval.x.rts, g⟩
theorem sl18Eval.kF : ∀ n, FnOk P tt cl 408 (sl18Eval.s (sl18Eval.F n sl18Eval.n))
  | 0 => FnOk.none (callable_of (by kernel_rfl)) fun _ => rfl
  | n + 1 => by
    have ih := sl18Eval.kF n
    exact fn_mk (Γ := [(408, sl18Eval.s (sl18Eval.F n sl18Eval.n)), (426, sLeafHolds.s sLeafHolds.t)]) (G := g0) hT hmix g0ok ⟨ih, sLeafHolds.k, trivial⟩ Tryz.func408 (body := Tryz.f408.body.getD .skip) (fx := sl18Eval.x) (by kernel_rfl) (by kernel_rfl) (by kernel_rfl) fun _ => by kernel_rfl
theorem sl18Eval.k : FnOk P tt cl 408 (sl18Eval.s sl18Eval.t) := FnOk.lim fun n => (sl18Eval.kF n)
def sEvalCond.x : Fx := ⟨[.tmp 8], [R33], [.val, .val, .val, .val], [R19, R26, R21, R15], []⟩
def sEvalCond.s (g : List D → Option (List D)) : Sig := ⟨sEvalCond.x.ms, sEvalCond.x.ps, sEvalCond.x.rts, g⟩
theorem sEvalCond.k : FnOk P tt cl 380 (sEvalCond.s sEvalCond.t) := fn_mk (Γ := [(407, sIsCond.s sIsCond.t), (408, sl18Eval.s sl18Eval.t)]) (G := g0) hT hmix g0ok ⟨sIsCond.k, sl18Eval.k, trivial⟩ Tryz.func380 (body := Tryz.f380.body.getD .skip) (fx := sEvalCond.x) (by kernel_rfl) (by kernel_rfl) (by kernel_rfl) fun _ => by kernel_rfl
def sRulesThatHold.x : Fx := ⟨[.tmp 8], [R34], [.val, .val, .val, .val], [R19, R26, R24, R15], [(0, ([9], [])), (1000, ([0, 1, 6, 7, 9, 10], []))]⟩
def sRulesThatHold.s (g : List D → Option (List D)) : Sig := ⟨sRulesThatHold.x.ms, sRulesThatHold.x.ps, sRulesThatHold.x.rts, g⟩
theorem sRulesThatHold.k : FnOk P tt cl 325 (sRulesThatHold.s sRulesThatHold.t) := fn_mk (Γ := [(379, sIsFor.s sIsFor.t), (380, sEvalCond.s sEvalCond.t)]) (G := g0) hT hmix g0ok ⟨sIsFor.k, sEvalCond.k, trivial⟩ Tryz.func325 (body := Tryz.f325.body.getD .skip) (fx := sRulesThatHold.x) (by kernel_rfl) (by kernel_rfl) (by kernel_rfl) fun _ => by kernel_rfl
def sDecideBy.x : Fx := ⟨[.tmp 8], [R0], [.val, .val, .val, .val], [R19, R26, R24, R15], [(0, ([9], [])), (1000, ([6, 9, 10], []))]⟩
def sDecideBy.s (g : List D → Option (List D)) : Sig := ⟨sDecideBy.x.ms, sDecideBy.x.ps, sDecideBy.x.rts, g⟩
theorem sDecideBy.k : FnOk P tt cl 252 (sDecideBy.s sDecideBy.t) := fn_mk (Γ := [(146, sIsRequest.s sIsRequest.t), (324, sIsPolicy.s sIsPolicy.t), (325, sRulesThatHold.s sRulesThatHold.t)]) (G := g0) hT hmix g0ok ⟨sIsRequest.k, sIsPolicy.k, sRulesThatHold.k, trivial⟩ Tryz.func252 (body := Tryz.f252.body.getD .skip) (fx := sDecideBy.x) (by kernel_rfl) (by kernel_rfl) (by kernel_rfl) fun _ => by kernel_rfl
def sDecisionUntil.x : Fx := ⟨[.tmp 10], [R0], [.val, .val, .val, .val, .val], [R19, R26, R24, R15, R0], [(0, ([12], [])), (1000, ([0, 1, 4, 7, 8, 11, 12], []))]⟩
def sDecisionUntil.s (g : List D → Option (List D)) : Sig := ⟨sDecisionUntil.x.ms, sDecisionUntil.x.ps, sDecisionUntil.x.rts, g⟩
theorem sDecisionUntil.k : FnOk P tt cl 253 (sDecisionUntil.s sDecisionUntil.t) := fn_mk (Γ := [(137, sAtTime.s sAtTime.t), (146, sIsRequest.s sIsRequest.t), (228, sl1In.s sl1In.t), (252, sDecideBy.s sDecideBy.t), (324, sIsPolicy.s sIsPolicy.t)]) (G := g0) hT hmix g0ok ⟨sAtTime.k, sIsRequest.k, sl1In.k, sDecideBy.k, sIsPolicy.k, trivial⟩ Tryz.func253 (body := Tryz.f253.body.getD .skip) (fx := sDecisionUntil.x) (by kernel_rfl) (by kernel_rfl) (by kernel_rfl) fun _ => by kernel_rfl
def sSaveDecision.x : Fx := ⟨[.cell 10 216], [R28], [.val, .val, .val, .val, .val], [R19, R26, R24, R15, R0], []⟩
def sSaveDecision.s (g : List D → Option (List D)) : Sig := ⟨sSaveDecision.x.ms, sSaveDecision.x.ps, sSaveDecision.x.rts, g⟩
theorem sSaveDecision.k : FnOk P tt cl 153 (sSaveDecision.s sSaveDecision.t) := fn_mk (Γ := [(252, sDecideBy.s sDecideBy.t), (253, sDecisionUntil.s sDecisionUntil.t)]) (G := g0) hT hmix g0ok ⟨sDecideBy.k, sDecisionUntil.k, trivial⟩ Tryz.func153 (body := Tryz.f153.body.getD .skip) (fx := sSaveDecision.x) (by kernel_rfl) (by kernel_rfl) (by kernel_rfl) fun _ => by kernel_rfl
def sPutSaved.x : Fx := ⟨[.tmp 4], [R29], [.val, .val], [R29, R28], [(0, ([3, 5], [])), (1000, ([0, 3, 5, 6], []))]⟩
def sPutSaved.s (g : List D → Option (List D)) : Sig := ⟨sPutSaved.x.ms, sPutSaved.x.ps, sPutSaved.x.rts, g⟩
theorem sPutSaved.k : FnOk P tt cl 154 (sPutSaved.s sPutSaved.t) := fn_mk (Γ := [(251, sSameQuestion.s sSameQuestion.t)]) (G := g0) hT hmix g0ok ⟨sSameQuestion.k, trivial⟩ Tryz.func154 (body := Tryz.f154.body.getD .skip) (fx := sPutSaved.x) (by kernel_rfl) (by kernel_rfl) (by kernel_rfl) fun _ => by kernel_rfl
def sAskPoint.x : Fx := ⟨[.cell 8 69, .tmp 9], [R30, R0], [.val, .val, .val, .val], [R30, R0, R15, R15], []⟩
def sAskPoint.s (g : List D → Option (List D)) : Sig := ⟨sAskPoint.x.ms, sAskPoint.x.ps, sAskPoint.x.rts, g⟩
theorem sAskPoint.k : FnOk P tt cl 71 (sAskPoint.s sAskPoint.t) := fn_mk (Γ := [(70, sl27Copy.s sl27Copy.t), (146, sIsRequest.s sIsRequest.t), (149, sCheckCert.s sCheckCert.t), (150, sIsCurrent.s sIsCurrent.t), (151, sIsRevoked.s sIsRevoked.t), (152, sFindSaved.s sFindSaved.t), (153, sSaveDecision.s sSaveDecision.t), (154, sPutSaved.s sPutSaved.t)]) (G := g0) hT hmix g0ok ⟨sl27Copy.k, sIsRequest.k, sCheckCert.k, sIsCurrent.k, sIsRevoked.k, sFindSaved.k, sSaveDecision.k, sPutSaved.k, trivial⟩ Tryz.func71 (body := Tryz.f71.body.getD .skip) (fx := sAskPoint.x) (by kernel_rfl) (by kernel_rfl) (by kernel_rfl) fun _ => by kernel_rfl
def sIsStillGood.x : Fx := ⟨[.tmp 10], [R33], [.val, .val, .val, .val, .val], [R16, R30, R0, R15, R0], []⟩
def sIsStillGood.s (g : List D → Option (List D)) : Sig := ⟨sIsStillGood.x.ms, sIsStillGood.x.ps, sIsStillGood.x.rts, g⟩
theorem sIsStillGood.k : FnOk P tt cl 54 (sIsStillGood.s sIsStillGood.t) := fn_mk (Γ := [(71, sAskPoint.s sAskPoint.t), (137, sAtTime.s sAtTime.t)]) (G := g0) hT hmix g0ok ⟨sAskPoint.k, sAtTime.k, trivial⟩ Tryz.func54 (body := Tryz.f54.body.getD .skip) (fx := sIsStillGood.x) (by kernel_rfl) (by kernel_rfl) (by kernel_rfl) fun _ => by kernel_rfl
def sReviewSessions.x : Fx := ⟨[.tmp 10, .tmp 11], [R17, R0], [.val, .val, .val, .val, .val], [R17, R31, R0, R32, R0], [(0, ([12, 13], [])), (1000, ([0, 1, 2, 3, 4, 12, 13, 14], []))]⟩
def sReviewSessions.s (g : List D → Option (List D)) : Sig := ⟨sReviewSessions.x.ms, sReviewSessions.x.ps, sReviewSessions.x.rts, g⟩
theorem sReviewSessions.k : FnOk P tt cl 11 (sReviewSessions.s sReviewSessions.t) := fn_mk (Γ := [(52, sl35Point.s sl35Point.t), (53, sl35Cert.s sl35Cert.t), (54, sIsStillGood.s sIsStillGood.t)]) (G := g0) hT hmix g0ok ⟨sl35Point.k, sl35Cert.k, sIsStillGood.k, trivial⟩ Tryz.func11 (body := Tryz.f11.body.getD .skip) (fx := sReviewSessions.x) (by kernel_rfl) (by kernel_rfl) (by kernel_rfl) fun _ => by kernel_rfl
def IndexFunc_Point.x : Fx := ⟨[.tmp 4], [R0], [.val, .val], [R31, R35], [(0, ([], [])), (1000, ([0, 1, 7, 8], []))]⟩
def IndexFunc_Point.s (g : List D → Option (List D)) : Sig := ⟨IndexFunc_Point.x.ms, IndexFunc_Point.x.ps, IndexFunc_Point.x.rts, g⟩
theorem IndexFunc_Point.k (G : GF) (hG : GOk P tt cl G) : FnOk P tt cl 138 (IndexFunc_Point.s (IndexFunc_Point.t G)) := fn_mk (Γ := []) (G := G) hT hmix hG trivial Tryz.func138 (body := Tryz.f138.body.getD .skip) (fx := IndexFunc_Point.x) (by kernel_rfl) (by kernel_rfl) (by kernel_rfl) fun _ => by kernel_rfl
def ipointOf_c1.x : Fx := ⟨[.tmp 3], [R33], [.val, .val], [R30, R36], []⟩
def ipointOf_c1.s (g : List D → Option (List D)) : Sig := ⟨ipointOf_c1.x.ms, ipointOf_c1.x.ps, ipointOf_c1.x.rts, g⟩
theorem ipointOf_c1.k : FnOk P tt cl 139 (ipointOf_c1.s ipointOf_c1.t) := fn_mk (Γ := []) (G := g0) hT hmix g0ok trivial Tryz.func139 (body := Tryz.f139.body.getD .skip) (fx := ipointOf_c1.x) (by kernel_rfl) (by kernel_rfl) (by kernel_rfl) fun _ => by kernel_rfl
def ipointOf.x : Fx := ⟨[.tmp 4], [R0], [.val, .val], [R31, R0], []⟩
def ipointOf.s (g : List D → Option (List D)) : Sig := ⟨ipointOf.x.ms, ipointOf.x.ps, ipointOf.x.rts, g⟩
theorem ipointOf.k : FnOk P tt cl 56 (ipointOf.s ipointOf.t) := fn_mk (Γ := [(138, IndexFunc_Point.s (IndexFunc_Point.t (gf [(ipointOf_c1.n, ipointOf_c1.t)])))]) (G := (gf [(ipointOf_c1.n, ipointOf_c1.t)])) hT hmix (gok clok ⟨cl_ok 163 [3] [69] [4] (by kernel_rfl) (by kernel_rfl) (by kernel_rfl) (ipointOf_c1.k), trivial⟩) ⟨IndexFunc_Point.k _ (gok clok ⟨cl_ok 163 [3] [69] [4] (by kernel_rfl) (by kernel_rfl) (by kernel_rfl) (ipointOf_c1.k), trivial⟩), trivial⟩ Tryz.func56 (body := Tryz.f56.body.getD .skip) (fx := ipointOf.x) (by kernel_rfl) (by kernel_rfl) (by kernel_rfl) fun _ => by kernel_rfl
def IndexFunc_Cert.x : Fx := ⟨[.tmp 4], [R0], [.val, .val], [R32, R37], [(0, ([], [])), (1000, ([0, 1, 7, 8], []))]⟩
def IndexFunc_Cert.s (g : List D → Option (List D)) : Sig := ⟨IndexFunc_Cert.x.ms, IndexFunc_Cert.x.ps, IndexFunc_Cert.x.rts, g⟩
theorem IndexFunc_Cert.k (G : GF) (hG : GOk P tt cl G) : FnOk P tt cl 140 (IndexFunc_Cert.s (IndexFunc_Cert.t G)) := fn_mk (Γ := []) (G := G) hT hmix hG trivial Tryz.func140 (body := Tryz.f140.body.getD .skip) (fx := IndexFunc_Cert.x) (by kernel_rfl) (by kernel_rfl) (by kernel_rfl) fun _ => by kernel_rfl
def icertOf_c1.x : Fx := ⟨[.tmp 3], [R33], [.val, .val], [R15, R36], []⟩
def icertOf_c1.s (g : List D → Option (List D)) : Sig := ⟨icertOf_c1.x.ms, icertOf_c1.x.ps, icertOf_c1.x.rts, g⟩
theorem icertOf_c1.k : FnOk P tt cl 141 (icertOf_c1.s icertOf_c1.t) := fn_mk (Γ := []) (G := g0) hT hmix g0ok trivial Tryz.func141 (body := Tryz.f141.body.getD .skip) (fx := icertOf_c1.x) (by kernel_rfl) (by kernel_rfl) (by kernel_rfl) fun _ => by kernel_rfl
def icertOf.x : Fx := ⟨[.tmp 4], [R0], [.val, .val], [R32, R0], []⟩
def icertOf.s (g : List D → Option (List D)) : Sig := ⟨icertOf.x.ms, icertOf.x.ps, icertOf.x.rts, g⟩
theorem icertOf.k : FnOk P tt cl 57 (icertOf.s icertOf.t) := fn_mk (Γ := [(140, IndexFunc_Cert.s (IndexFunc_Cert.t (gf [(icertOf_c1.n, icertOf_c1.t)])))]) (G := (gf [(icertOf_c1.n, icertOf_c1.t)])) hT hmix (gok clok ⟨cl_ok 201 [3] [73] [4] (by kernel_rfl) (by kernel_rfl) (by kernel_rfl) (icertOf_c1.k), trivial⟩) ⟨IndexFunc_Cert.k _ (gok clok ⟨cl_ok 201 [3] [73] [4] (by kernel_rfl) (by kernel_rfl) (by kernel_rfl) (icertOf_c1.k), trivial⟩), trivial⟩ Tryz.func57 (body := Tryz.f57.body.getD .skip) (fx := icertOf.x) (by kernel_rfl) (by kernel_rfl) (by kernel_rfl) fun _ => by kernel_rfl
def iAtTime.x : Fx := ⟨[.cell 4 75], [R15], [.val, .val], [R15, R0], []⟩
def iAtTime.s (g : List D → Option (List D)) : Sig := ⟨iAtTime.x.ms, iAtTime.x.ps, iAtTime.x.rts, g⟩
theorem iAtTime.k : FnOk P tt cl 127 (iAtTime.s iAtTime.t) := fn_mk (Γ := []) (G := g0) hT hmix g0ok trivial Tryz.func127 (body := Tryz.f127.body.getD .skip) (fx := iAtTime.x) (by kernel_rfl) (by kernel_rfl) (by kernel_rfl) fun _ => by kernel_rfl
def icopyCond.x : Fx := ⟨[.cell 2 207], [R21], [.val], [R21], [(0, ([2, 3], [.nilC 3 3 206])), (1000, ([2, 3, 14, 15, 16], [.nilC 3 3 206]))]⟩
def icopyCond.s (g : List D → Option (List D)) : Sig := ⟨icopyCond.x.ms, icopyCond.x.ps, icopyCond.x.rts, g⟩
theorem icopyCond.kF : ∀ n, FnOk P tt cl 382 (icopyCond.s (icopyCond.F n icopyCond.n))
  | 0 => FnOk.none (callable_of (by kernel_rfl)) fun _ => rfl
  | n + 1 => by
    have ih := icopyCond.kF n
    exact fn_mk (Γ := [(382, icopyCond.s (icopyCond.F n icopyCond.n))]) (G := g0) hT hmix g0ok ⟨ih, trivial⟩ Tryz.func382 (body := Tryz.f382.body.getD .skip) (fx := icopyCond.x) (by kernel_rfl) (by kernel_rfl) (by kernel_rfl) fun _ => by kernel_rfl
theorem icopyCond.k : FnOk P tt cl 382 (icopyCond.s icopyCond.t) := FnOk.lim fun n => (icopyCond.kF n)
def icopyRules.x : Fx := ⟨[.tmp 2], [R23], [.val], [R23], [(0, ([3], [])), (1000, ([3, 7, 8, 9], []))]⟩
def icopyRules.s (g : List D → Option (List D)) : Sig := ⟨icopyRules.x.ms, icopyRules.x.ps, icopyRules.x.rts, g⟩
theorem icopyRules.k : FnOk P tt cl 327 (icopyRules.s icopyRules.t) := fn_mk (Γ := [(382, icopyCond.s icopyCond.t)]) (G := g0) hT hmix g0ok ⟨icopyCond.k, trivial⟩ Tryz.func327 (body := Tryz.f327.body.getD .skip) (fx := icopyRules.x) (by kernel_rfl) (by kernel_rfl) (by kernel_rfl) fun _ => by kernel_rfl
def icopyPolicy.x : Fx := ⟨[.cell 2 62], [R24], [.val], [R24], []⟩
def icopyPolicy.s (g : List D → Option (List D)) : Sig := ⟨icopyPolicy.x.ms, icopyPolicy.x.ps, icopyPolicy.x.rts, g⟩
theorem icopyPolicy.k : FnOk P tt cl 256 (icopyPolicy.s icopyPolicy.t) := fn_mk (Γ := [(327, icopyRules.s icopyRules.t)]) (G := g0) hT hmix g0ok ⟨icopyRules.k, trivial⟩ Tryz.func256 (body := Tryz.f256.body.getD .skip) (fx := icopyPolicy.x) (by kernel_rfl) (by kernel_rfl) (by kernel_rfl) fun _ => by kernel_rfl
def icopyEpoch.x : Fx := ⟨[.cell 2 64], [R25], [.val], [R25], []⟩
def icopyEpoch.s (g : List D → Option (List D)) : Sig := ⟨icopyEpoch.x.ms, icopyEpoch.x.ps, icopyEpoch.x.rts, g⟩
theorem icopyEpoch.k : FnOk P tt cl 161 (icopyEpoch.s icopyEpoch.t) := fn_mk (Γ := [(256, icopyPolicy.s icopyPolicy.t)]) (G := g0) hT hmix g0ok ⟨icopyPolicy.k, trivial⟩ Tryz.func161 (body := Tryz.f161.body.getD .skip) (fx := icopyEpoch.x) (by kernel_rfl) (by kernel_rfl) (by kernel_rfl) fun _ => by kernel_rfl
def icopyFacts.x : Fx := ⟨[.tmp 2], [R26], [.val], [R26], []⟩
def icopyFacts.s (g : List D → Option (List D)) : Sig := ⟨icopyFacts.x.ms, icopyFacts.x.ps, icopyFacts.x.rts, g⟩
theorem icopyFacts.k : FnOk P tt cl 162 (icopyFacts.s icopyFacts.t) := fn_mk (Γ := []) (G := g0) hT hmix g0ok trivial Tryz.func162 (body := Tryz.f162.body.getD .skip) (fx := icopyFacts.x) (by kernel_rfl) (by kernel_rfl) (by kernel_rfl) fun _ => by kernel_rfl
def icopyPoint.x : Fx := ⟨[.cell 2 69], [R30], [.val], [R30], []⟩
def icopyPoint.s (g : List D → Option (List D)) : Sig := ⟨icopyPoint.x.ms, icopyPoint.x.ps, icopyPoint.x.rts, g⟩
theorem icopyPoint.k : FnOk P tt cl 77 (icopyPoint.s icopyPoint.t) := fn_mk (Γ := [(161, icopyEpoch.s icopyEpoch.t), (162, icopyFacts.s icopyFacts.t)]) (G := g0) hT hmix g0ok ⟨icopyEpoch.k, icopyFacts.k, trivial⟩ Tryz.func77 (body := Tryz.f77.body.getD .skip) (fx := icopyPoint.x) (by kernel_rfl) (by kernel_rfl) (by kernel_rfl) fun _ => by kernel_rfl
def iInRange.x : Fx := ⟨[.tmp 6], [R33], [.val, .val, .val], [R0, R0, R0], []⟩
def iInRange.s (g : List D → Option (List D)) : Sig := ⟨iInRange.x.ms, iInRange.x.ps, iInRange.x.rts, g⟩
theorem iInRange.k : FnOk P tt cl 102 (iInRange.s iInRange.t) := fn_mk (Γ := []) (G := g0) hT hmix g0ok trivial Tryz.func102 (body := Tryz.f102.body.getD .skip) (fx := iInRange.x) (by kernel_rfl) (by kernel_rfl) (by kernel_rfl) fun _ => by kernel_rfl
def iIsName.x : Fx := ⟨[.tmp 2], [R33], [.val], [R0], []⟩
def iIsName.s (g : List D → Option (List D)) : Sig := ⟨iIsName.x.ms, iIsName.x.ps, iIsName.x.rts, g⟩
theorem iIsName.k : FnOk P tt cl 288 (iIsName.s iIsName.t) := fn_mk (Γ := [(102, iInRange.s iInRange.t)]) (G := g0) hT hmix g0ok ⟨iInRange.k, trivial⟩ Tryz.func288 (body := Tryz.f288.body.getD .skip) (fx := iIsName.x) (by kernel_rfl) (by kernel_rfl) (by kernel_rfl) fun _ => by kernel_rfl
def iKindOf.x : Fx := ⟨[.tmp 2], [R0], [.val], [R0], []⟩
def iKindOf.s (g : List D → Option (List D)) : Sig := ⟨iKindOf.x.ms, iKindOf.x.ps, iKindOf.x.rts, g⟩
theorem iKindOf.k : FnOk P tt cl 293 (iKindOf.s iKindOf.t) := fn_mk (Γ := [(288, iIsName.s iIsName.t)]) (G := g0) hT hmix g0ok ⟨iIsName.k, trivial⟩ Tryz.func293 (body := Tryz.f293.body.getD .skip) (fx := iKindOf.x) (by kernel_rfl) (by kernel_rfl) (by kernel_rfl) fun _ => by kernel_rfl
def iHasKind.x : Fx := ⟨[.tmp 4], [R33], [.val, .val], [R0, R0], []⟩
def iHasKind.s (g : List D → Option (List D)) : Sig := ⟨iHasKind.x.ms, iHasKind.x.ps, iHasKind.x.rts, g⟩
theorem iHasKind.k : FnOk P tt cl 197 (iHasKind.s iHasKind.t) := fn_mk (Γ := [(288, iIsName.s iIsName.t), (293, iKindOf.s iKindOf.t)]) (G := g0) hT hmix g0ok ⟨iIsName.k, iKindOf.k, trivial⟩ Tryz.func197 (body := Tryz.f197.body.getD .skip) (fx := iHasKind.x) (by kernel_rfl) (by kernel_rfl) (by kernel_rfl) fun _ => by kernel_rfl
def iIsTime.x : Fx := ⟨[.tmp 2], [R33], [.val], [R0], []⟩
def iIsTime.s (g : List D → Option (List D)) : Sig := ⟨iIsTime.x.ms, iIsTime.x.ps, iIsTime.x.rts, g⟩
theorem iIsTime.k : FnOk P tt cl 96 (iIsTime.s iIsTime.t) := fn_mk (Γ := [(102, iInRange.s iInRange.t)]) (G := g0) hT hmix g0ok ⟨iInRange.k, trivial⟩ Tryz.func96 (body := Tryz.f96.body.getD .skip) (fx := iIsTime.x) (by kernel_rfl) (by kernel_rfl) (by kernel_rfl) fun _ => by kernel_rfl
def iIsRequest.x : Fx := ⟨[.tmp 2], [R33], [.val], [R15], []⟩
def iIsRequest.s (g : List D → Option (List D)) : Sig := ⟨iIsRequest.x.ms, iIsRequest.x.ps, iIsRequest.x.rts, g⟩
theorem iIsRequest.k : FnOk P tt cl 160 (iIsRequest.s iIsRequest.t) := fn_mk (Γ := [(96, iIsTime.s iIsTime.t), (102, iInRange.s iInRange.t), (197, iHasKind.s iHasKind.t)]) (G := g0) hT hmix g0ok ⟨iIsTime.k, iInRange.k, iHasKind.k, trivial⟩ Tryz.func160 (body := Tryz.f160.body.getD .skip) (fx := iIsRequest.x) (by kernel_rfl) (by kernel_rfl) (by kernel_rfl) fun _ => by kernel_rfl
def iIsValidKey.x : Fx := ⟨[.tmp 2], [R33], [.val], [R0], []⟩
def iIsValidKey.s (g : List D → Option (List D)) : Sig := ⟨iIsValidKey.x.ms, iIsValidKey.x.ps, iIsValidKey.x.rts, g⟩
theorem iIsValidKey.k : FnOk P tt cl 196 (iIsValidKey.s iIsValidKey.t) := fn_mk (Γ := [(102, iInRange.s iInRange.t)]) (G := g0) hT hmix g0ok ⟨iInRange.k, trivial⟩ Tryz.func196 (body := Tryz.f196.body.getD .skip) (fx := iIsValidKey.x) (by kernel_rfl) (by kernel_rfl) (by kernel_rfl) fun _ => by kernel_rfl
def iIsCert.x : Fx := ⟨[.tmp 2], [R33], [.val], [R15], []⟩
def iIsCert.s (g : List D → Option (List D)) : Sig := ⟨iIsCert.x.ms, iIsCert.x.ps, iIsCert.x.rts, g⟩
theorem iIsCert.k : FnOk P tt cl 190 (iIsCert.s iIsCert.t) := fn_mk (Γ := [(96, iIsTime.s iIsTime.t), (102, iInRange.s iInRange.t), (196, iIsValidKey.s iIsValidKey.t), (288, iIsName.s iIsName.t)]) (G := g0) hT hmix g0ok ⟨iIsTime.k, iInRange.k, iIsValidKey.k, iIsName.k, trivial⟩ Tryz.func190 (body := Tryz.f190.body.getD .skip) (fx := iIsCert.x) (by kernel_rfl) (by kernel_rfl) (by kernel_rfl) fun _ => by kernel_rfl
def iIsWithin.x : Fx := ⟨[.tmp 6], [R33], [.val, .val, .val], [R0, R0, R0], []⟩
def iIsWithin.s (g : List D → Option (List D)) : Sig := ⟨iIsWithin.x.ms, iIsWithin.x.ps, iIsWithin.x.rts, g⟩
theorem iIsWithin.k : FnOk P tt cl 240 (iIsWithin.s iIsWithin.t) := fn_mk (Γ := [(96, iIsTime.s iIsTime.t), (102, iInRange.s iInRange.t)]) (G := g0) hT hmix g0ok ⟨iIsTime.k, iInRange.k, trivial⟩ Tryz.func240 (body := Tryz.f240.body.getD .skip) (fx := iIsWithin.x) (by kernel_rfl) (by kernel_rfl) (by kernel_rfl) fun _ => by kernel_rfl
def Grow_int.x : Fx := ⟨[.tmp 4], [R34], [.nilp, .val], [R34, R0], []⟩
def Grow_int.s (g : List D → Option (List D)) : Sig := ⟨Grow_int.x.ms, Grow_int.x.ps, Grow_int.x.rts, g⟩
theorem Grow_int.k : FnOk P tt cl 395 (Grow_int.s Grow_int.t) := fn_mk (Γ := []) (G := g0) hT hmix g0ok trivial Tryz.func395 (body := Tryz.f395.body.getD .skip) (fx := Grow_int.x) (by kernel_rfl) (by kernel_rfl) (by kernel_rfl) fun _ => by kernel_rfl
def Concat_int.x : Fx := ⟨[.tmp 2], [R34], [.val], [R38], [(0, ([0, 3], [])), (2, ([6], [])), (1000, ([0, 3, 9, 10, 11], [])), (1002, ([6, 25, 26, 27], []))]⟩
def Concat_int.s (g : List D → Option (List D)) : Sig := ⟨Concat_int.x.ms, Concat_int.x.ps, Concat_int.x.rts, g⟩
theorem Concat_int.k : FnOk P tt cl 347 (Concat_int.s Concat_int.t) := fn_mk (Γ := [(395, Grow_int.s Grow_int.t)]) (G := g0) hT hmix g0ok ⟨Grow_int.k, trivial⟩ Tryz.func347 (body := Tryz.f347.body.getD .skip) (fx := Concat_int.x) (by kernel_rfl) (by kernel_rfl) (by kernel_rfl) fun _ => by kernel_rfl
def iMod.x : Fx := ⟨[.tmp 4], [R0], [.val, .val], [R0, R0], []⟩
def iMod.s (g : List D → Option (List D)) : Sig := ⟨iMod.x.ms, iMod.x.ps, iMod.x.rts, g⟩
theorem iMod.k : FnOk P tt cl 356 (iMod.s iMod.t) := fn_mk (Γ := [(102, iInRange.s iInRange.t)]) (G := g0) hT hmix g0ok ⟨iInRange.k, trivial⟩ Tryz.func356 (body := Tryz.f356.body.getD .skip) (fx := iMod.x) (by kernel_rfl) (by kernel_rfl) (by kernel_rfl) fun _ => by kernel_rfl
def iHash.x : Fx := ⟨[.tmp 2], [R0], [.val], [R34], [(0, ([3], [])), (1000, ([3, 6, 7, 8], []))]⟩
def iHash.s (g : List D → Option (List D)) : Sig := ⟨iHash.x.ms, iHash.x.ps, iHash.x.rts, g⟩
theorem iHash.k : FnOk P tt cl 300 (iHash.s iHash.t) := fn_mk (Γ := [(356, iMod.s iMod.t)]) (G := g0) hT hmix g0ok ⟨iMod.k, trivial⟩ Tryz.func300 (body := Tryz.f300.body.getD .skip) (fx := iHash.x) (by kernel_rfl) (by kernel_rfl) (by kernel_rfl) fun _ => by kernel_rfl
def iKeyedHash.x : Fx := ⟨[.tmp 4], [R0], [.val, .val], [R0, R34], []⟩
def iKeyedHash.s (g : List D → Option (List D)) : Sig := ⟨iKeyedHash.x.ms, iKeyedHash.x.ps, iKeyedHash.x.rts, g⟩
theorem iKeyedHash.k : FnOk P tt cl 289 (iKeyedHash.s iKeyedHash.t) := fn_mk (Γ := [(300, iHash.s iHash.t), (347, Concat_int.s Concat_int.t)]) (G := g0) hT hmix g0ok ⟨iHash.k, Concat_int.k, trivial⟩ Tryz.func289 (body := Tryz.f289.body.getD .skip) (fx := iKeyedHash.x) (by kernel_rfl) (by kernel_rfl) (by kernel_rfl) fun _ => by kernel_rfl
def iMarkCert.x : Fx := ⟨[.cell 4 73], [R15], [.val, .val], [R0, R15], []⟩
def iMarkCert.s (g : List D → Option (List D)) : Sig := ⟨iMarkCert.x.ms, iMarkCert.x.ps, iMarkCert.x.rts, g⟩
theorem iMarkCert.k : FnOk P tt cl 191 (iMarkCert.s iMarkCert.t) := fn_mk (Γ := [(289, iKeyedHash.s iKeyedHash.t)]) (G := g0) hT hmix g0ok ⟨iKeyedHash.k, trivial⟩ Tryz.func191 (body := Tryz.f191.body.getD .skip) (fx := iMarkCert.x) (by kernel_rfl) (by kernel_rfl) (by kernel_rfl) fun _ => by kernel_rfl
def iCheckCert.x : Fx := ⟨[.tmp 6], [R33], [.val, .val, .val], [R0, R15, R0], []⟩
def iCheckCert.s (g : List D → Option (List D)) : Sig := ⟨iCheckCert.x.ms, iCheckCert.x.ps, iCheckCert.x.rts, g⟩
theorem iCheckCert.k : FnOk P tt cl 163 (iCheckCert.s iCheckCert.t) := fn_mk (Γ := [(190, iIsCert.s iIsCert.t), (191, iMarkCert.s iMarkCert.t), (240, iIsWithin.s iIsWithin.t)]) (G := g0) hT hmix g0ok ⟨iIsCert.k, iMarkCert.k, iIsWithin.k, trivial⟩ Tryz.func163 (body := Tryz.f163.body.getD .skip) (fx := iCheckCert.x) (by kernel_rfl) (by kernel_rfl) (by kernel_rfl) fun _ => by kernel_rfl
def iAgeOf.x : Fx := ⟨[.tmp 4], [R0], [.val, .val], [R0, R0], []⟩
def iAgeOf.s (g : List D → Option (List D)) : Sig := ⟨iAgeOf.x.ms, iAgeOf.x.ps, iAgeOf.x.rts, g⟩
theorem iAgeOf.k : FnOk P tt cl 328 (iAgeOf.s iAgeOf.t) := fn_mk (Γ := [(96, iIsTime.s iIsTime.t)]) (G := g0) hT hmix g0ok ⟨iIsTime.k, trivial⟩ Tryz.func328 (body := Tryz.f328.body.getD .skip) (fx := iAgeOf.x) (by kernel_rfl) (by kernel_rfl) (by kernel_rfl) fun _ => by kernel_rfl
def iIsFresh.x : Fx := ⟨[.tmp 6], [R33], [.val, .val, .val], [R0, R0, R0], []⟩
def iIsFresh.s (g : List D → Option (List D)) : Sig := ⟨iIsFresh.x.ms, iIsFresh.x.ps, iIsFresh.x.rts, g⟩
theorem iIsFresh.k : FnOk P tt cl 257 (iIsFresh.s iIsFresh.t) := fn_mk (Γ := [(328, iAgeOf.s iAgeOf.t)]) (G := g0) hT hmix g0ok ⟨iAgeOf.k, trivial⟩ Tryz.func257 (body := Tryz.f257.body.getD .skip) (fx := iIsFresh.x) (by kernel_rfl) (by kernel_rfl) (by kernel_rfl) fun _ => by kernel_rfl
def iIsCurrent.x : Fx := ⟨[.tmp 4], [R33], [.val, .val], [R30, R0], []⟩
def iIsCurrent.s (g : List D → Option (List D)) : Sig := ⟨iIsCurrent.x.ms, iIsCurrent.x.ps, iIsCurrent.x.rts, g⟩
theorem iIsCurrent.k : FnOk P tt cl 164 (iIsCurrent.s iIsCurrent.t) := fn_mk (Γ := [(257, iIsFresh.s iIsFresh.t)]) (G := g0) hT hmix g0ok ⟨iIsFresh.k, trivial⟩ Tryz.func164 (body := Tryz.f164.body.getD .skip) (fx := iIsCurrent.x) (by kernel_rfl) (by kernel_rfl) (by kernel_rfl) fun _ => by kernel_rfl
def IndexFunc_Revoked.x : Fx := ⟨[.tmp 4], [R0], [.val, .val], [R27, R39], [(0, ([], [])), (1000, ([0, 1, 7, 8], []))]⟩
def IndexFunc_Revoked.s (g : List D → Option (List D)) : Sig := ⟨IndexFunc_Revoked.x.ms, IndexFunc_Revoked.x.ps, IndexFunc_Revoked.x.rts, g⟩
theorem IndexFunc_Revoked.k (G : GF) (hG : GOk P tt cl G) : FnOk P tt cl 237 (IndexFunc_Revoked.s (IndexFunc_Revoked.t G)) := fn_mk (Γ := []) (G := G) hT hmix hG trivial Tryz.func237 (body := Tryz.f237.body.getD .skip) (fx := IndexFunc_Revoked.x) (by kernel_rfl) (by kernel_rfl) (by kernel_rfl) fun _ => by kernel_rfl
def iRevokedAt_c1.x : Fx := ⟨[.tmp 3], [R33], [.val, .val], [R18, R36], []⟩
def iRevokedAt_c1.s (g : List D → Option (List D)) : Sig := ⟨iRevokedAt_c1.x.ms, iRevokedAt_c1.x.ps, iRevokedAt_c1.x.rts, g⟩
theorem iRevokedAt_c1.k : FnOk P tt cl 238 (iRevokedAt_c1.s iRevokedAt_c1.t) := fn_mk (Γ := []) (G := g0) hT hmix g0ok trivial Tryz.func238 (body := Tryz.f238.body.getD .skip) (fx := iRevokedAt_c1.x) (by kernel_rfl) (by kernel_rfl) (by kernel_rfl) fun _ => by kernel_rfl
def iRevokedAt.x : Fx := ⟨[.tmp 4], [R0], [.val, .val], [R27, R0], []⟩
def iRevokedAt.s (g : List D → Option (List D)) : Sig := ⟨iRevokedAt.x.ms, iRevokedAt.x.ps, iRevokedAt.x.rts, g⟩
theorem iRevokedAt.k : FnOk P tt cl 132 (iRevokedAt.s iRevokedAt.t) := fn_mk (Γ := [(237, IndexFunc_Revoked.s (IndexFunc_Revoked.t (gf [(iRevokedAt_c1.n, iRevokedAt_c1.t)])))]) (G := (gf [(iRevokedAt_c1.n, iRevokedAt_c1.t)])) hT hmix (gok clok ⟨cl_ok 297 [3] [214] [4] (by kernel_rfl) (by kernel_rfl) (by kernel_rfl) (iRevokedAt_c1.k), trivial⟩) ⟨IndexFunc_Revoked.k _ (gok clok ⟨cl_ok 297 [3] [214] [4] (by kernel_rfl) (by kernel_rfl) (by kernel_rfl) (iRevokedAt_c1.k), trivial⟩), trivial⟩ Tryz.func132 (body := Tryz.f132.body.getD .skip) (fx := iRevokedAt.x) (by kernel_rfl) (by kernel_rfl) (by kernel_rfl) fun _ => by kernel_rfl
def iIsRevoked.x : Fx := ⟨[.tmp 6], [R33], [.val, .val, .val], [R27, R0, R0], []⟩
def iIsRevoked.s (g : List D → Option (List D)) : Sig := ⟨iIsRevoked.x.ms, iIsRevoked.x.ps, iIsRevoked.x.rts, g⟩
theorem iIsRevoked.k : FnOk P tt cl 165 (iIsRevoked.s iIsRevoked.t) := fn_mk (Γ := [(102, iInRange.s iInRange.t), (132, iRevokedAt.s iRevokedAt.t)]) (G := g0) hT hmix g0ok ⟨iInRange.k, iRevokedAt.k, trivial⟩ Tryz.func165 (body := Tryz.f165.body.getD .skip) (fx := iIsRevoked.x) (by kernel_rfl) (by kernel_rfl) (by kernel_rfl) fun _ => by kernel_rfl
def IndexFunc_Saved.x : Fx := ⟨[.tmp 4], [R0], [.val, .val], [R29, R40], [(0, ([], [])), (1000, ([0, 1, 7, 8], []))]⟩
def IndexFunc_Saved.s (g : List D → Option (List D)) : Sig := ⟨IndexFunc_Saved.x.ms, IndexFunc_Saved.x.ps, IndexFunc_Saved.x.rts, g⟩
theorem IndexFunc_Saved.k (G : GF) (hG : GOk P tt cl G) : FnOk P tt cl 258 (IndexFunc_Saved.s (IndexFunc_Saved.t G)) := fn_mk (Γ := []) (G := G) hT hmix hG trivial Tryz.func258 (body := Tryz.f258.body.getD .skip) (fx := IndexFunc_Saved.x) (by kernel_rfl) (by kernel_rfl) (by kernel_rfl) fun _ => by kernel_rfl
def iSameQuestion.x : Fx := ⟨[.tmp 4], [R33], [.val, .val], [R15, R15], []⟩
def iSameQuestion.s (g : List D → Option (List D)) : Sig := ⟨iSameQuestion.x.ms, iSameQuestion.x.ps, iSameQuestion.x.rts, g⟩
theorem iSameQuestion.k : FnOk P tt cl 260 (iSameQuestion.s iSameQuestion.t) := fn_mk (Γ := [(127, iAtTime.s iAtTime.t)]) (G := g0) hT hmix g0ok ⟨iAtTime.k, trivial⟩ Tryz.func260 (body := Tryz.f260.body.getD .skip) (fx := iSameQuestion.x) (by kernel_rfl) (by kernel_rfl) (by kernel_rfl) fun _ => by kernel_rfl
def iFindSaved_c1.x : Fx := ⟨[.tmp 3], [R33], [.val, .val], [R28, R41], []⟩
def iFindSaved_c1.s (g : List D → Option (List D)) : Sig := ⟨iFindSaved_c1.x.ms, iFindSaved_c1.x.ps, iFindSaved_c1.x.rts, g⟩
theorem iFindSaved_c1.k : FnOk P tt cl 259 (iFindSaved_c1.s iFindSaved_c1.t) := fn_mk (Γ := [(260, iSameQuestion.s iSameQuestion.t)]) (G := g0) hT hmix g0ok ⟨iSameQuestion.k, trivial⟩ Tryz.func259 (body := Tryz.f259.body.getD .skip) (fx := iFindSaved_c1.x) (by kernel_rfl) (by kernel_rfl) (by kernel_rfl) fun _ => by kernel_rfl
def iFindSaved.x : Fx := ⟨[.tmp 4], [R0], [.val, .val], [R29, R15], []⟩
def iFindSaved.s (g : List D → Option (List D)) : Sig := ⟨iFindSaved.x.ms, iFindSaved.x.ps, iFindSaved.x.rts, g⟩
theorem iFindSaved.k : FnOk P tt cl 166 (iFindSaved.s iFindSaved.t) := fn_mk (Γ := [(258, IndexFunc_Saved.s (IndexFunc_Saved.t (gf [(iFindSaved_c1.n, iFindSaved_c1.t)])))]) (G := (gf [(iFindSaved_c1.n, iFindSaved_c1.t)])) hT hmix (gok clok ⟨cl_ok 274 [75] [216] [4] (by kernel_rfl) (by kernel_rfl) (by kernel_rfl) (iFindSaved_c1.k), trivial⟩) ⟨IndexFunc_Saved.k _ (gok clok ⟨cl_ok 274 [75] [216] [4] (by kernel_rfl) (by kernel_rfl) (by kernel_rfl) (iFindSaved_c1.k), trivial⟩), trivial⟩ Tryz.func166 (body := Tryz.f166.body.getD .skip) (fx := iFindSaved.x) (by kernel_rfl) (by kernel_rfl) (by kernel_rfl) fun _ => by kernel_rfl
def IndexFunc_Rule.x : Fx := ⟨[.tmp 4], [R0], [.val, .val], [R23, R42], [(0, ([], [])), (1000, ([0, 1, 7, 8], []))]⟩
def IndexFunc_Rule.s (g : List D → Option (List D)) : Sig := ⟨IndexFunc_Rule.x.ms, IndexFunc_Rule.x.ps, IndexFunc_Rule.x.rts, g⟩
theorem IndexFunc_Rule.k (G : GF) (hG : GOk P tt cl G) : FnOk P tt cl 396 (IndexFunc_Rule.s (IndexFunc_Rule.t G)) := fn_mk (Γ := []) (G := G) hT hmix hG trivial Tryz.func396 (body := Tryz.f396.body.getD .skip) (fx := IndexFunc_Rule.x) (by kernel_rfl) (by kernel_rfl) (by kernel_rfl) fun _ => by kernel_rfl
def ContainsFunc_Rule.x : Fx := ⟨[.tmp 4], [R33], [.val, .val], [R23, R42], []⟩
def ContainsFunc_Rule.s (g : List D → Option (List D)) : Sig := ⟨ContainsFunc_Rule.x.ms, ContainsFunc_Rule.x.ps, ContainsFunc_Rule.x.rts, g⟩
theorem ContainsFunc_Rule.k (G : GF) (hG : GOk P tt cl G) : FnOk P tt cl 353 (ContainsFunc_Rule.s (ContainsFunc_Rule.t G)) := fn_mk (Γ := [(396, IndexFunc_Rule.s (IndexFunc_Rule.t G))]) (G := G) hT hmix hG ⟨IndexFunc_Rule.k _ hG, trivial⟩ Tryz.func353 (body := Tryz.f353.body.getD .skip) (fx := ContainsFunc_Rule.x) (by kernel_rfl) (by kernel_rfl) (by kernel_rfl) fun _ => by kernel_rfl
def iSizeOf.x : Fx := ⟨[.tmp 2], [R0], [.val], [R21], [(0, ([3], [])), (1000, ([3, 7, 8, 9], []))]⟩
def iSizeOf.s (g : List D → Option (List D)) : Sig := ⟨iSizeOf.x.ms, iSizeOf.x.ps, iSizeOf.x.rts, g⟩
theorem iSizeOf.kF : ∀ n, FnOk P tt cl 415 (iSizeOf.s (iSizeOf.F n iSizeOf.n))
  | 0 => FnOk.none (callable_of (by kernel_rfl)) fun _ => rfl
  | n + 1 => by
    have ih := iSizeOf.kF n
    exact fn_mk (Γ := [(415, iSizeOf.s (iSizeOf.F n iSizeOf.n))]) (G := g0) hT hmix g0ok ⟨ih, trivial⟩ Tryz.func415 (body := Tryz.f415.body.getD .skip) (fx := iSizeOf.x) (by kernel_rfl) (by kernel_rfl) (by kernel_rfl) fun _ => by kernel_rfl
theorem iSizeOf.k : FnOk P tt cl 415 (iSizeOf.s iSizeOf.t) := FnOk.lim fun n => (iSizeOf.kF n)
def iArityOf.x : Fx := ⟨[.tmp 2], [R0], [.val], [R0], []⟩
def iArityOf.s (g : List D → Option (List D)) : Sig := ⟨iArityOf.x.ms, iArityOf.x.ps, iArityOf.x.rts, g⟩
theorem iArityOf.k : FnOk P tt cl 446 (iArityOf.s iArityOf.t) := fn_mk (Γ := [(102, iInRange.s iInRange.t)]) (G := g0) hT hmix g0ok ⟨iInRange.k, trivial⟩ Tryz.func446 (body := Tryz.f446.body.getD .skip) (fx := iArityOf.x) (by kernel_rfl) (by kernel_rfl) (by kernel_rfl) fun _ => by kernel_rfl
def iisNode.x : Fx := ⟨[.tmp 2], [R33], [.val], [R21], []⟩
def iisNode.s (g : List D → Option (List D)) : Sig := ⟨iisNode.x.ms, iisNode.x.ps, iisNode.x.rts, g⟩
theorem iisNode.k : FnOk P tt cl 430 (iisNode.s iisNode.t) := fn_mk (Γ := [(102, iInRange.s iInRange.t), (446, iArityOf.s iArityOf.t)]) (G := g0) hT hmix g0ok ⟨iInRange.k, iArityOf.k, trivial⟩ Tryz.func430 (body := Tryz.f430.body.getD .skip) (fx := iisNode.x) (by kernel_rfl) (by kernel_rfl) (by kernel_rfl) fun _ => by kernel_rfl
def IndexFunc_Cond.x : Fx := ⟨[.tmp 4], [R0], [.val, .val], [R20, R43], [(0, ([], [])), (1000, ([0, 1, 7, 8], []))]⟩
def IndexFunc_Cond.s (g : List D → Option (List D)) : Sig := ⟨IndexFunc_Cond.x.ms, IndexFunc_Cond.x.ps, IndexFunc_Cond.x.rts, g⟩
theorem IndexFunc_Cond.k (G : GF) (hG : GOk P tt cl G) : FnOk P tt cl 447 (IndexFunc_Cond.s (IndexFunc_Cond.t G)) := fn_mk (Γ := []) (G := G) hT hmix hG trivial Tryz.func447 (body := Tryz.f447.body.getD .skip) (fx := IndexFunc_Cond.x) (by kernel_rfl) (by kernel_rfl) (by kernel_rfl) fun _ => by kernel_rfl
def ContainsFunc_Cond.x : Fx := ⟨[.tmp 4], [R33], [.val, .val], [R20, R43], []⟩
def ContainsFunc_Cond.s (g : List D → Option (List D)) : Sig := ⟨ContainsFunc_Cond.x.ms, ContainsFunc_Cond.x.ps, ContainsFunc_Cond.x.rts, g⟩
theorem ContainsFunc_Cond.k (G : GF) (hG : GOk P tt cl G) : FnOk P tt cl 431 (ContainsFunc_Cond.s (ContainsFunc_Cond.t G)) := fn_mk (Γ := [(447, IndexFunc_Cond.s (IndexFunc_Cond.t G))]) (G := G) hT hmix hG ⟨IndexFunc_Cond.k _ hG, trivial⟩ Tryz.func431 (body := Tryz.f431.body.getD .skip) (fx := ContainsFunc_Cond.x) (by kernel_rfl) (by kernel_rfl) (by kernel_rfl) fun _ => by kernel_rfl
def iareNodes_c1.x : Fx := ⟨[.tmp 2], [R33], [.val], [R21], []⟩
def iareNodes_c1.s (g : List D → Option (List D)) : Sig := ⟨iareNodes_c1.x.ms, iareNodes_c1.x.ps, iareNodes_c1.x.rts, g⟩
def iareNodes.x : Fx := ⟨[.tmp 2], [R33], [.val], [R21], []⟩
def iareNodes.s (g : List D → Option (List D)) : Sig := ⟨iareNodes.x.ms, iareNodes.x.ps, iareNodes.x.rts, g⟩
theorem iareNodes_c1.kF : ∀ n, FnOk P tt cl 432 (iareNodes_c1.s (iareNodes_c1.F n iareNodes_c1.n)) ∧ FnOk P tt cl 416 (iareNodes.s (iareNodes_c1.F n iareNodes.n))
  | 0 => ⟨FnOk.none (callable_of (by kernel_rfl)) fun _ => rfl, FnOk.none (callable_of (by kernel_rfl)) fun _ => rfl⟩
  | n + 1 => by
    have ih := iareNodes_c1.kF n
    exact ⟨fn_mk (Γ := [(416, iareNodes.s (iareNodes_c1.F n iareNodes.n))]) (G := g0) hT hmix g0ok ⟨ih.2, trivial⟩ Tryz.func432 (body := Tryz.f432.body.getD .skip) (fx := iareNodes_c1.x) (by kernel_rfl) (by kernel_rfl) (by kernel_rfl) fun _ => by kernel_rfl, fn_mk (Γ := [(430, iisNode.s iisNode.t), (431, ContainsFunc_Cond.s (ContainsFunc_Cond.t (gf [(iareNodes_c1.n, iareNodes_c1.F n iareNodes_c1.n)])))]) (G := (gf [(iareNodes_c1.n, iareNodes_c1.F n iareNodes_c1.n)])) hT hmix (gok clok ⟨cl_ok 403 [] [207] [4] (by kernel_rfl) (by kernel_rfl) (by kernel_rfl) (ih.1), trivial⟩) ⟨iisNode.k, ContainsFunc_Cond.k _ (gok clok ⟨cl_ok 403 [] [207] [4] (by kernel_rfl) (by kernel_rfl) (by kernel_rfl) (ih.1), trivial⟩), trivial⟩ Tryz.func416 (body := Tryz.f416.body.getD .skip) (fx := iareNodes.x) (by kernel_rfl) (by kernel_rfl) (by kernel_rfl) fun _ => by kernel_rfl⟩
theorem iareNodes_c1.k : FnOk P tt cl 432 (iareNodes_c1.s iareNodes_c1.t) := FnOk.lim fun n => (iareNodes_c1.kF n).1
theorem iareNodes.k : FnOk P tt cl 416 (iareNodes.s iareNodes.t) := FnOk.lim fun n => (iareNodes_c1.kF n).2
def iIsCond.x : Fx := ⟨[.tmp 2], [R33], [.val], [R21], []⟩
def iIsCond.s (g : List D → Option (List D)) : Sig := ⟨iIsCond.x.ms, iIsCond.x.ps, iIsCond.x.rts, g⟩
theorem iIsCond.k : FnOk P tt cl 397 (iIsCond.s iIsCond.t) := fn_mk (Γ := [(415, iSizeOf.s iSizeOf.t), (416, iareNodes.s iareNodes.t)]) (G := g0) hT hmix g0ok ⟨iSizeOf.k, iareNodes.k, trivial⟩ Tryz.func397 (body := Tryz.f397.body.getD .skip) (fx := iIsCond.x) (by kernel_rfl) (by kernel_rfl) (by kernel_rfl) fun _ => by kernel_rfl
def iIsRule.x : Fx := ⟨[.tmp 2], [R33], [.val], [R22], []⟩
def iIsRule.s (g : List D → Option (List D)) : Sig := ⟨iIsRule.x.ms, iIsRule.x.ps, iIsRule.x.rts, g⟩
theorem iIsRule.k : FnOk P tt cl 355 (iIsRule.s iIsRule.t) := fn_mk (Γ := [(102, iInRange.s iInRange.t), (197, iHasKind.s iHasKind.t), (397, iIsCond.s iIsCond.t)]) (G := g0) hT hmix g0ok ⟨iInRange.k, iHasKind.k, iIsCond.k, trivial⟩ Tryz.func355 (body := Tryz.f355.body.getD .skip) (fx := iIsRule.x) (by kernel_rfl) (by kernel_rfl) (by kernel_rfl) fun _ => by kernel_rfl
def iIsPolicy_c1.x : Fx := ⟨[.tmp 2], [R33], [.val], [R22], []⟩
def iIsPolicy_c1.s (g : List D → Option (List D)) : Sig := ⟨iIsPolicy_c1.x.ms, iIsPolicy_c1.x.ps, iIsPolicy_c1.x.rts, g⟩
theorem iIsPolicy_c1.k : FnOk P tt cl 354 (iIsPolicy_c1.s iIsPolicy_c1.t) := fn_mk (Γ := [(355, iIsRule.s iIsRule.t)]) (G := g0) hT hmix g0ok ⟨iIsRule.k, trivial⟩ Tryz.func354 (body := Tryz.f354.body.getD .skip) (fx := iIsPolicy_c1.x) (by kernel_rfl) (by kernel_rfl) (by kernel_rfl) fun _ => by kernel_rfl
def iIsPolicy.x : Fx := ⟨[.tmp 2], [R33], [.val], [R24], []⟩
def iIsPolicy.s (g : List D → Option (List D)) : Sig := ⟨iIsPolicy.x.ms, iIsPolicy.x.ps, iIsPolicy.x.rts, g⟩
theorem iIsPolicy.k : FnOk P tt cl 299 (iIsPolicy.s iIsPolicy.t) := fn_mk (Γ := [(102, iInRange.s iInRange.t), (353, ContainsFunc_Rule.s (ContainsFunc_Rule.t (gf [(iIsPolicy_c1.n, iIsPolicy_c1.t)])))]) (G := (gf [(iIsPolicy_c1.n, iIsPolicy_c1.t)])) hT hmix (gok clok ⟨cl_ok 380 [] [209] [4] (by kernel_rfl) (by kernel_rfl) (by kernel_rfl) (iIsPolicy_c1.k), trivial⟩) ⟨iInRange.k, ContainsFunc_Rule.k _ (gok clok ⟨cl_ok 380 [] [209] [4] (by kernel_rfl) (by kernel_rfl) (by kernel_rfl) (iIsPolicy_c1.k), trivial⟩), trivial⟩ Tryz.func299 (body := Tryz.f299.body.getD .skip) (fx := iIsPolicy.x) (by kernel_rfl) (by kernel_rfl) (by kernel_rfl) fun _ => by kernel_rfl
def iIsFor.x : Fx := ⟨[.tmp 6], [R33], [.val, .val, .val], [R22, R0, R0], []⟩
def iIsFor.s (g : List D → Option (List D)) : Sig := ⟨iIsFor.x.ms, iIsFor.x.ps, iIsFor.x.rts, g⟩
theorem iIsFor.k : FnOk P tt cl 383 (iIsFor.s iIsFor.t) := fn_mk (Γ := []) (G := g0) hT hmix g0ok trivial Tryz.func383 (body := Tryz.f383.body.getD .skip) (fx := iIsFor.x) (by kernel_rfl) (by kernel_rfl) (by kernel_rfl) fun _ => by kernel_rfl
def ievalWith.x : Fx := ⟨[.tmp 4], [R33], [.val, .val], [R21, R43], []⟩
def ievalWith.s (g : List D → Option (List D)) : Sig := ⟨ievalWith.x.ms, ievalWith.x.ps, ievalWith.x.rts, g⟩
theorem ievalWith.kF (G : GF) (hG : GOk P tt cl G) : ∀ n, FnOk P tt cl 410 (ievalWith.s (ievalWith.F G n ievalWith.n))
  | 0 => FnOk.none (callable_of (by kernel_rfl)) fun _ => rfl
  | n + 1 => by
    have ih := ievalWith.kF G hG n
    exact fn_mk (Γ := [(410, ievalWith.s (ievalWith.F G n ievalWith.n))]) (G := G) hT hmix hG ⟨ih, trivial⟩ Tryz.func410 (body := Tryz.f410.body.getD .skip) (fx := ievalWith.x) (by kernel_rfl) (by kernel_rfl) (by kernel_rfl) fun _ => by kernel_rfl
theorem ievalWith.k (G : GF) (hG : GOk P tt cl G) : FnOk P tt cl 410 (ievalWith.s (ievalWith.t G)) := FnOk.lim fun n => (ievalWith.kF G hG n)
def iisClaim.x : Fx := ⟨[.tmp 2], [R33], [.val], [R15], []⟩
def iisClaim.s (g : List D → Option (List D)) : Sig := ⟨iisClaim.x.ms, iisClaim.x.ps, iisClaim.x.rts, g⟩
theorem iisClaim.k : FnOk P tt cl 348 (iisClaim.s iisClaim.t) := fn_mk (Γ := [(102, iInRange.s iInRange.t), (197, iHasKind.s iHasKind.t)]) (G := g0) hT hmix g0ok ⟨iInRange.k, iHasKind.k, trivial⟩ Tryz.func348 (body := Tryz.f348.body.getD .skip) (fx := iisClaim.x) (by kernel_rfl) (by kernel_rfl) (by kernel_rfl) fun _ => by kernel_rfl
def iIsFact.x : Fx := ⟨[.tmp 2], [R33], [.val], [R15], []⟩
def iIsFact.s (g : List D → Option (List D)) : Sig := ⟨iIsFact.x.ms, iIsFact.x.ps, iIsFact.x.rts, g⟩
theorem iIsFact.k : FnOk P tt cl 291 (iIsFact.s iIsFact.t) := fn_mk (Γ := [(96, iIsTime.s iIsTime.t), (102, iInRange.s iInRange.t), (348, iisClaim.s iisClaim.t)]) (G := g0) hT hmix g0ok ⟨iIsTime.k, iInRange.k, iisClaim.k, trivial⟩ Tryz.func291 (body := Tryz.f291.body.getD .skip) (fx := iIsFact.x) (by kernel_rfl) (by kernel_rfl) (by kernel_rfl) fun _ => by kernel_rfl
def iHoldsAt.x : Fx := ⟨[.tmp 6], [R33], [.val, .val, .val], [R15, R0, R0], []⟩
def iHoldsAt.s (g : List D → Option (List D)) : Sig := ⟨iHoldsAt.x.ms, iHoldsAt.x.ps, iHoldsAt.x.rts, g⟩
theorem iHoldsAt.k : FnOk P tt cl 445 (iHoldsAt.s iHoldsAt.t) := fn_mk (Γ := [(240, iIsWithin.s iIsWithin.t), (291, iIsFact.s iIsFact.t), (328, iAgeOf.s iAgeOf.t)]) (G := g0) hT hmix g0ok ⟨iIsWithin.k, iIsFact.k, iAgeOf.k, trivial⟩ Tryz.func445 (body := Tryz.f445.body.getD .skip) (fx := iHoldsAt.x) (by kernel_rfl) (by kernel_rfl) (by kernel_rfl) fun _ => by kernel_rfl
def iisRole.x : Fx := ⟨[.tmp 2], [R33], [.val], [R0], []⟩
def iisRole.s (g : List D → Option (List D)) : Sig := ⟨iisRole.x.ms, iisRole.x.ps, iisRole.x.rts, g⟩
theorem iisRole.k : FnOk P tt cl 351 (iisRole.s iisRole.t) := fn_mk (Γ := [(102, iInRange.s iInRange.t)]) (G := g0) hT hmix g0ok ⟨iInRange.k, trivial⟩ Tryz.func351 (body := Tryz.f351.body.getD .skip) (fx := iisRole.x) (by kernel_rfl) (by kernel_rfl) (by kernel_rfl) fun _ => by kernel_rfl
def ibelow.x : Fx := ⟨[.cell 4 377], [R44], [.val, .val], [R19, R0], [(0, ([4, 5], [.sl 6])), (2, ([0, 4, 5, 6], [.sl 6])), (1000, ([0, 4, 5, 6], [.sl 6])), (1002, ([0, 4, 5, 6, 7, 21, 22, 23], [.sl 6]))]⟩
def ibelow.s (g : List D → Option (List D)) : Sig := ⟨ibelow.x.ms, ibelow.x.ps, ibelow.x.rts, g⟩
theorem ibelow.k : FnOk P tt cl 352 (ibelow.s ibelow.t) := fn_mk (Γ := [(351, iisRole.s iisRole.t)]) (G := g0) hT hmix g0ok ⟨iisRole.k, trivial⟩ Tryz.func352 (body := Tryz.f352.body.getD .skip) (fx := ibelow.x) (by kernel_rfl) (by kernel_rfl) (by kernel_rfl) fun _ => by kernel_rfl
def iRolesUnder.x : Fx := ⟨[.tmp 4], [R34], [.val, .val], [R19, R0], [(0, ([5], [])), (1000, ([1, 5, 15, 16], []))]⟩
def iRolesUnder.s (g : List D → Option (List D)) : Sig := ⟨iRolesUnder.x.ms, iRolesUnder.x.ps, iRolesUnder.x.rts, g⟩
theorem iRolesUnder.k : FnOk P tt cl 454 (iRolesUnder.s iRolesUnder.t) := fn_mk (Γ := [(351, iisRole.s iisRole.t), (352, ibelow.s ibelow.t)]) (G := g0) hT hmix g0ok ⟨iisRole.k, ibelow.k, trivial⟩ Tryz.func454 (body := Tryz.f454.body.getD .skip) (fx := iRolesUnder.x) (by kernel_rfl) (by kernel_rfl) (by kernel_rfl) fun _ => by kernel_rfl
def Sort_int.s (g : List D → Option (List D)) : Sig := ⟨[.io], [⟨false, [.sl 3]⟩], [], g⟩
theorem Sort_int.k : FnOk P tt cl 455 (Sort_int.s Sort_int.t) := sort_ok (e := 3) (callable_of (by kernel_rfl)) (by kernel_rfl) Tryz.slices_Sort_int Tryz.slices_Sort_int_none
def Compact_int.s (g : List D → Option (List D)) : Sig := ⟨[.own], [⟨false, [.sl 3]⟩], [⟨false, [.sl 3]⟩], g⟩
theorem Compact_int.k : FnOk P tt cl 456 (Compact_int.s Compact_int.t) := compact_ok (e := 3) (callable_of (by kernel_rfl)) (by kernel_rfl) Tryz.slices_Compact_int Tryz.slices_Compact_int_empty
def iRolesOf.x : Fx := ⟨[.tmp 10], [R34], [.val, .val, .val, .val, .val], [R19, R26, R0, R0, R0], [(0, ([11], [])), (1000, ([0, 2, 3, 4, 11, 15, 16, 17], []))]⟩
def iRolesOf.s (g : List D → Option (List D)) : Sig := ⟨iRolesOf.x.ms, iRolesOf.x.ps, iRolesOf.x.rts, g⟩
theorem iRolesOf.k : FnOk P tt cl 442 (iRolesOf.s iRolesOf.t) := fn_mk (Γ := [(445, iHoldsAt.s iHoldsAt.t), (454, iRolesUnder.s iRolesUnder.t), (455, Sort_int.s Sort_int.t), (456, Compact_int.s Compact_int.t)]) (G := g0) hT hmix g0ok ⟨iHoldsAt.k, iRolesUnder.k, Sort_int.k, Compact_int.k, trivial⟩ Tryz.func442 (body := Tryz.f442.body.getD .skip) (fx := iRolesOf.x) (by kernel_rfl) (by kernel_rfl) (by kernel_rfl) fun _ => by kernel_rfl
def Index_int.x : Fx := ⟨[.tmp 4], [R0], [.val, .val], [R34, R0], [(0, ([], [])), (1000, ([0, 1, 7, 8], []))]⟩
def Index_int.s (g : List D → Option (List D)) : Sig := ⟨Index_int.x.ms, Index_int.x.ps, Index_int.x.rts, g⟩
theorem Index_int.k : FnOk P tt cl 317 (Index_int.s Index_int.t) := fn_mk (Γ := []) (G := g0) hT hmix g0ok trivial Tryz.func317 (body := Tryz.f317.body.getD .skip) (fx := Index_int.x) (by kernel_rfl) (by kernel_rfl) (by kernel_rfl) fun _ => by kernel_rfl
def Contains_int.x : Fx := ⟨[.tmp 4], [R33], [.val, .val], [R34, R0], []⟩
def Contains_int.s (g : List D → Option (List D)) : Sig := ⟨Contains_int.x.ms, Contains_int.x.ps, Contains_int.x.rts, g⟩
theorem Contains_int.k : FnOk P tt cl 239 (Contains_int.s Contains_int.t) := fn_mk (Γ := [(317, Index_int.s Index_int.t)]) (G := g0) hT hmix g0ok ⟨Index_int.k, trivial⟩ Tryz.func239 (body := Tryz.f239.body.getD .skip) (fx := Contains_int.x) (by kernel_rfl) (by kernel_rfl) (by kernel_rfl) fun _ => by kernel_rfl
def iHasRole.x : Fx := ⟨[.tmp 12], [R33], [.val, .val, .val, .val, .val, .val], [R19, R26, R0, R0, R0, R0], []⟩
def iHasRole.s (g : List D → Option (List D)) : Sig := ⟨iHasRole.x.ms, iHasRole.x.ps, iHasRole.x.rts, g⟩
theorem iHasRole.k : FnOk P tt cl 427 (iHasRole.s iHasRole.t) := fn_mk (Γ := [(239, Contains_int.s Contains_int.t), (442, iRolesOf.s iRolesOf.t)]) (G := g0) hT hmix g0ok ⟨Contains_int.k, iRolesOf.k, trivial⟩ Tryz.func427 (body := Tryz.f427.body.getD .skip) (fx := iHasRole.x) (by kernel_rfl) (by kernel_rfl) (by kernel_rfl) fun _ => by kernel_rfl
def IndexFunc_Fact.x : Fx := ⟨[.tmp 4], [R0], [.val, .val], [R26, R45], [(0, ([], [])), (1000, ([0, 1, 7, 8], []))]⟩
def IndexFunc_Fact.s (g : List D → Option (List D)) : Sig := ⟨IndexFunc_Fact.x.ms, IndexFunc_Fact.x.ps, IndexFunc_Fact.x.rts, g⟩
theorem IndexFunc_Fact.k (G : GF) (hG : GOk P tt cl G) : FnOk P tt cl 443 (IndexFunc_Fact.s (IndexFunc_Fact.t G)) := fn_mk (Γ := []) (G := G) hT hmix hG trivial Tryz.func443 (body := Tryz.f443.body.getD .skip) (fx := IndexFunc_Fact.x) (by kernel_rfl) (by kernel_rfl) (by kernel_rfl) fun _ => by kernel_rfl
def iFindFact_c1.x : Fx := ⟨[.tmp 7], [R33], [.val, .val, .val, .val, .val, .val], [R15, R36, R36, R36, R36, R36], []⟩
def iFindFact_c1.s (g : List D → Option (List D)) : Sig := ⟨iFindFact_c1.x.ms, iFindFact_c1.x.ps, iFindFact_c1.x.rts, g⟩
theorem iFindFact_c1.k : FnOk P tt cl 444 (iFindFact_c1.s iFindFact_c1.t) := fn_mk (Γ := [(445, iHoldsAt.s iHoldsAt.t)]) (G := g0) hT hmix g0ok ⟨iHoldsAt.k, trivial⟩ Tryz.func444 (body := Tryz.f444.body.getD .skip) (fx := iFindFact_c1.x) (by kernel_rfl) (by kernel_rfl) (by kernel_rfl) fun _ => by kernel_rfl
def iFindFact.x : Fx := ⟨[.tmp 12], [R0], [.val, .val, .val, .val, .val, .val], [R26, R0, R0, R0, R0, R0], []⟩
def iFindFact.s (g : List D → Option (List D)) : Sig := ⟨iFindFact.x.ms, iFindFact.x.ps, iFindFact.x.rts, g⟩
theorem iFindFact.k : FnOk P tt cl 428 (iFindFact.s iFindFact.t) := fn_mk (Γ := [(443, IndexFunc_Fact.s (IndexFunc_Fact.t (gf [(iFindFact_c1.n, iFindFact_c1.t)])))]) (G := (gf [(iFindFact_c1.n, iFindFact_c1.t)])) hT hmix (gok clok ⟨cl_ok 330 [3, 3, 3, 3, 3] [212] [4] (by kernel_rfl) (by kernel_rfl) (by kernel_rfl) (iFindFact_c1.k), trivial⟩) ⟨IndexFunc_Fact.k _ (gok clok ⟨cl_ok 330 [3, 3, 3, 3, 3] [212] [4] (by kernel_rfl) (by kernel_rfl) (by kernel_rfl) (iFindFact_c1.k), trivial⟩), trivial⟩ Tryz.func428 (body := Tryz.f428.body.getD .skip) (fx := iFindFact.x) (by kernel_rfl) (by kernel_rfl) (by kernel_rfl) fun _ => by kernel_rfl
def iBestValue.x : Fx := ⟨[.tmp 10], [R0], [.val, .val, .val, .val, .val], [R26, R0, R0, R0, R0], [(0, ([11], [])), (1000, ([1, 2, 3, 4, 11, 14, 15, 16], []))]⟩
def iBestValue.s (g : List D → Option (List D)) : Sig := ⟨iBestValue.x.ms, iBestValue.x.ps, iBestValue.x.rts, g⟩
theorem iBestValue.k : FnOk P tt cl 429 (iBestValue.s iBestValue.t) := fn_mk (Γ := [(445, iHoldsAt.s iHoldsAt.t)]) (G := g0) hT hmix g0ok ⟨iHoldsAt.k, trivial⟩ Tryz.func429 (body := Tryz.f429.body.getD .skip) (fx := iBestValue.x) (by kernel_rfl) (by kernel_rfl) (by kernel_rfl) fun _ => by kernel_rfl
def iLeafHolds.x : Fx := ⟨[.tmp 8], [R33], [.val, .val, .val, .val], [R19, R26, R21, R15], []⟩
def iLeafHolds.s (g : List D → Option (List D)) : Sig := ⟨iLeafHolds.x.ms, iLeafHolds.x.ps, iLeafHolds.x.rts, g⟩
theorem iLeafHolds.k : FnOk P tt cl 412 (iLeafHolds.s iLeafHolds.t) := fn_mk (Γ := [(427, iHasRole.s iHasRole.t), (428, iFindFact.s iFindFact.t), (429, iBestValue.s iBestValue.t)]) (G := g0) hT hmix g0ok ⟨iHasRole.k, iFindFact.k, iBestValue.k, trivial⟩ Tryz.func412 (body := Tryz.f412.body.getD .skip) (fx := iLeafHolds.x) (by kernel_rfl) (by kernel_rfl) (by kernel_rfl) fun _ => by kernel_rfl
def iEvalCond_c1.x : Fx := ⟨[.tmp 5], [R33], [.val, .val, .val, .val], [R21, R46, R47, R41], []⟩
def iEvalCond_c1.s (g : List D → Option (List D)) : Sig := ⟨iEvalCond_c1.x.ms, iEvalCond_c1.x.ps, iEvalCond_c1.x.rts, g⟩
theorem iEvalCond_c1.k : FnOk P tt cl 411 (iEvalCond_c1.s iEvalCond_c1.t) := fn_mk (Γ := [(412, iLeafHolds.s iLeafHolds.t)]) (G := g0) hT hmix g0ok ⟨iLeafHolds.k, trivial⟩ Tryz.func411 (body := Tryz.f411.body.getD .skip) (fx := iEvalCond_c1.x) (by kernel_rfl) (by kernel_rfl) (by kernel_rfl) fun _ => by kernel_rfl
def iEvalCond.x : Fx := ⟨[.tmp 8], [R33], [.val, .val, .val, .val], [R19, R26, R21, R15], []⟩
def iEvalCond.s (g : List D → Option (List D)) : Sig := ⟨iEvalCond.x.ms, iEvalCond.x.ps, iEvalCond.x.rts, g⟩
theorem iEvalCond.k : FnOk P tt cl 384 (iEvalCond.s iEvalCond.t) := fn_mk (Γ := [(397, iIsCond.s iIsCond.t), (410, ievalWith.s (ievalWith.t (gf [(iEvalCond_c1.n, iEvalCond_c1.t)])))]) (G := (gf [(iEvalCond_c1.n, iEvalCond_c1.t)])) hT hmix (gok clok ⟨cl_ok 403 [59, 65, 75] [207] [4] (by kernel_rfl) (by kernel_rfl) (by kernel_rfl) (iEvalCond_c1.k), trivial⟩) ⟨iIsCond.k, ievalWith.k _ (gok clok ⟨cl_ok 403 [59, 65, 75] [207] [4] (by kernel_rfl) (by kernel_rfl) (by kernel_rfl) (iEvalCond_c1.k), trivial⟩), trivial⟩ Tryz.func384 (body := Tryz.f384.body.getD .skip) (fx := iEvalCond.x) (by kernel_rfl) (by kernel_rfl) (by kernel_rfl) fun _ => by kernel_rfl
def iRulesThatHold.x : Fx := ⟨[.tmp 8], [R34], [.val, .val, .val, .val], [R19, R26, R24, R15], [(0, ([9], [])), (1000, ([0, 1, 7, 9, 14, 15, 16], []))]⟩
def iRulesThatHold.s (g : List D → Option (List D)) : Sig := ⟨iRulesThatHold.x.ms, iRulesThatHold.x.ps, iRulesThatHold.x.rts, g⟩
theorem iRulesThatHold.k : FnOk P tt cl 330 (iRulesThatHold.s iRulesThatHold.t) := fn_mk (Γ := [(383, iIsFor.s iIsFor.t), (384, iEvalCond.s iEvalCond.t)]) (G := g0) hT hmix g0ok ⟨iIsFor.k, iEvalCond.k, trivial⟩ Tryz.func330 (body := Tryz.f330.body.getD .skip) (fx := iRulesThatHold.x) (by kernel_rfl) (by kernel_rfl) (by kernel_rfl) fun _ => by kernel_rfl
def idecided.x : Fx := ⟨[.tmp 4], [R0], [.val, .val], [R24, R34], [(0, ([5], [])), (1000, ([2, 5, 8, 9, 10], []))]⟩
def idecided.s (g : List D → Option (List D)) : Sig := ⟨idecided.x.ms, idecided.x.ps, idecided.x.rts, g⟩
theorem idecided.k : FnOk P tt cl 329 (idecided.s idecided.t) := fn_mk (Γ := []) (G := g0) hT hmix g0ok trivial Tryz.func329 (body := Tryz.f329.body.getD .skip) (fx := idecided.x) (by kernel_rfl) (by kernel_rfl) (by kernel_rfl) fun _ => by kernel_rfl
def iDecideBy.x : Fx := ⟨[.tmp 8], [R0], [.val, .val, .val, .val], [R19, R26, R24, R15], []⟩
def iDecideBy.s (g : List D → Option (List D)) : Sig := ⟨iDecideBy.x.ms, iDecideBy.x.ps, iDecideBy.x.rts, g⟩
theorem iDecideBy.k : FnOk P tt cl 261 (iDecideBy.s iDecideBy.t) := fn_mk (Γ := [(160, iIsRequest.s iIsRequest.t), (299, iIsPolicy.s iIsPolicy.t), (329, idecided.s idecided.t), (330, iRulesThatHold.s iRulesThatHold.t)]) (G := g0) hT hmix g0ok ⟨iIsRequest.k, iIsPolicy.k, idecided.k, iRulesThatHold.k, trivial⟩ Tryz.func261 (body := Tryz.f261.body.getD .skip) (fx := iDecideBy.x) (by kernel_rfl) (by kernel_rfl) (by kernel_rfl) fun _ => by kernel_rfl
def iDecisionUntil.x : Fx := ⟨[.tmp 10], [R0], [.val, .val, .val, .val, .val], [R19, R26, R24, R15, R0], [(0, ([11], [])), (1000, ([0, 1, 4, 7, 8, 11, 12], []))]⟩
def iDecisionUntil.s (g : List D → Option (List D)) : Sig := ⟨iDecisionUntil.x.ms, iDecisionUntil.x.ps, iDecisionUntil.x.rts, g⟩
theorem iDecisionUntil.k : FnOk P tt cl 262 (iDecisionUntil.s iDecisionUntil.t) := fn_mk (Γ := [(102, iInRange.s iInRange.t), (127, iAtTime.s iAtTime.t), (160, iIsRequest.s iIsRequest.t), (261, iDecideBy.s iDecideBy.t), (299, iIsPolicy.s iIsPolicy.t)]) (G := g0) hT hmix g0ok ⟨iInRange.k, iAtTime.k, iIsRequest.k, iDecideBy.k, iIsPolicy.k, trivial⟩ Tryz.func262 (body := Tryz.f262.body.getD .skip) (fx := iDecisionUntil.x) (by kernel_rfl) (by kernel_rfl) (by kernel_rfl) fun _ => by kernel_rfl
def iSaveDecision.x : Fx := ⟨[.cell 10 216], [R28], [.val, .val, .val, .val, .val], [R19, R26, R24, R15, R0], []⟩
def iSaveDecision.s (g : List D → Option (List D)) : Sig := ⟨iSaveDecision.x.ms, iSaveDecision.x.ps, iSaveDecision.x.rts, g⟩
theorem iSaveDecision.k : FnOk P tt cl 167 (iSaveDecision.s iSaveDecision.t) := fn_mk (Γ := [(261, iDecideBy.s iDecideBy.t), (262, iDecisionUntil.s iDecisionUntil.t)]) (G := g0) hT hmix g0ok ⟨iDecideBy.k, iDecisionUntil.k, trivial⟩ Tryz.func167 (body := Tryz.f167.body.getD .skip) (fx := iSaveDecision.x) (by kernel_rfl) (by kernel_rfl) (by kernel_rfl) fun _ => by kernel_rfl
def iPutSaved.x : Fx := ⟨[.tmp 4], [R29], [.val, .val], [R29, R28], [(0, ([3, 5], [])), (1000, ([3, 5, 9, 10, 11], []))]⟩
def iPutSaved.s (g : List D → Option (List D)) : Sig := ⟨iPutSaved.x.ms, iPutSaved.x.ps, iPutSaved.x.rts, g⟩
theorem iPutSaved.k : FnOk P tt cl 168 (iPutSaved.s iPutSaved.t) := fn_mk (Γ := [(260, iSameQuestion.s iSameQuestion.t)]) (G := g0) hT hmix g0ok ⟨iSameQuestion.k, trivial⟩ Tryz.func168 (body := Tryz.f168.body.getD .skip) (fx := iPutSaved.x) (by kernel_rfl) (by kernel_rfl) (by kernel_rfl) fun _ => by kernel_rfl
def iAskPoint.x : Fx := ⟨[.cell 8 69, .tmp 9], [R30, R0], [.val, .val, .val, .val], [R30, R0, R15, R15], []⟩
def iAskPoint.s (g : List D → Option (List D)) : Sig := ⟨iAskPoint.x.ms, iAskPoint.x.ps, iAskPoint.x.rts, g⟩
theorem iAskPoint.k : FnOk P tt cl 78 (iAskPoint.s iAskPoint.t) := fn_mk (Γ := [(77, icopyPoint.s icopyPoint.t), (160, iIsRequest.s iIsRequest.t), (163, iCheckCert.s iCheckCert.t), (164, iIsCurrent.s iIsCurrent.t), (165, iIsRevoked.s iIsRevoked.t), (166, iFindSaved.s iFindSaved.t), (167, iSaveDecision.s iSaveDecision.t), (168, iPutSaved.s iPutSaved.t)]) (G := g0) hT hmix g0ok ⟨icopyPoint.k, iIsRequest.k, iCheckCert.k, iIsCurrent.k, iIsRevoked.k, iFindSaved.k, iSaveDecision.k, iPutSaved.k, trivial⟩ Tryz.func78 (body := Tryz.f78.body.getD .skip) (fx := iAskPoint.x) (by kernel_rfl) (by kernel_rfl) (by kernel_rfl) fun _ => by kernel_rfl
def iIsStillGood.x : Fx := ⟨[.tmp 10], [R33], [.val, .val, .val, .val, .val], [R16, R30, R0, R15, R0], []⟩
def iIsStillGood.s (g : List D → Option (List D)) : Sig := ⟨iIsStillGood.x.ms, iIsStillGood.x.ps, iIsStillGood.x.rts, g⟩
theorem iIsStillGood.k : FnOk P tt cl 43 (iIsStillGood.s iIsStillGood.t) := fn_mk (Γ := [(78, iAskPoint.s iAskPoint.t), (127, iAtTime.s iAtTime.t)]) (G := g0) hT hmix g0ok ⟨iAskPoint.k, iAtTime.k, trivial⟩ Tryz.func43 (body := Tryz.f43.body.getD .skip) (fx := iIsStillGood.x) (by kernel_rfl) (by kernel_rfl) (by kernel_rfl) fun _ => by kernel_rfl
def iReviewSessions.x : Fx := ⟨[.tmp 10, .tmp 11], [R17, R0], [.val, .val, .val, .val, .val], [R17, R31, R0, R32, R0], [(0, ([12, 13], [])), (1000, ([1, 2, 3, 4, 12, 13, 21, 22, 23], []))]⟩
def iReviewSessions.s (g : List D → Option (List D)) : Sig := ⟨iReviewSessions.x.ms, iReviewSessions.x.ps, iReviewSessions.x.rts, g⟩
theorem iReviewSessions.k : FnOk P tt cl 15 (iReviewSessions.s iReviewSessions.t) := fn_mk (Γ := [(43, iIsStillGood.s iIsStillGood.t), (56, ipointOf.s ipointOf.t), (57, icertOf.s icertOf.t)]) (G := g0) hT hmix g0ok ⟨iIsStillGood.k, ipointOf.k, icertOf.k, trivial⟩ Tryz.func15 (body := Tryz.f15.body.getD .skip) (fx := iReviewSessions.x) (by kernel_rfl) (by kernel_rfl) (by kernel_rfl) fun _ => by kernel_rfl
def weqRequest.x : Fx := ⟨[.tmp 4], [R33], [.val, .val], [R15, R15], []⟩
def weqRequest.s (g : List D → Option (List D)) : Sig := ⟨weqRequest.x.ms, weqRequest.x.ps, weqRequest.x.rts, g⟩
theorem weqRequest.k : FnOk P tt cl 142 (weqRequest.s weqRequest.t) := fn_mk (Γ := []) (G := g0) hT hmix g0ok trivial Tryz.func142 (body := Tryz.f142.body.getD .skip) (fx := weqRequest.x) (by kernel_rfl) (by kernel_rfl) (by kernel_rfl) fun _ => by kernel_rfl
def weqSession.x : Fx := ⟨[.tmp 4], [R33], [.val, .val], [R16, R16], []⟩
def weqSession.s (g : List D → Option (List D)) : Sig := ⟨weqSession.x.ms, weqSession.x.ps, weqSession.x.rts, g⟩
theorem weqSession.k : FnOk P tt cl 58 (weqSession.s weqSession.t) := fn_mk (Γ := [(142, weqRequest.s weqRequest.t)]) (G := g0) hT hmix g0ok ⟨weqRequest.k, trivial⟩ Tryz.func58 (body := Tryz.f58.body.getD .skip) (fx := weqSession.x) (by kernel_rfl) (by kernel_rfl) (by kernel_rfl) fun _ => by kernel_rfl
def weqSessionS.x : Fx := ⟨[.tmp 4], [R33], [.val, .val], [R17, R17], [(0, ([], [])), (1000, ([0, 1, 5], []))]⟩
def weqSessionS.s (g : List D → Option (List D)) : Sig := ⟨weqSessionS.x.ms, weqSessionS.x.ps, weqSessionS.x.rts, g⟩
theorem weqSessionS.k : FnOk P tt cl 16 (weqSessionS.s weqSessionS.t) := fn_mk (Γ := [(58, weqSession.s weqSession.t)]) (G := g0) hT hmix g0ok ⟨weqSession.k, trivial⟩ Tryz.func16 (body := Tryz.f16.body.getD .skip) (fx := weqSessionS.x) (by kernel_rfl) (by kernel_rfl) (by kernel_rfl) fun _ => by kernel_rfl
def weqIncludes.x : Fx := ⟨[.tmp 4], [R33], [.val, .val], [R18, R18], []⟩
def weqIncludes.s (g : List D → Option (List D)) : Sig := ⟨weqIncludes.x.ms, weqIncludes.x.ps, weqIncludes.x.rts, g⟩
theorem weqIncludes.k : FnOk P tt cl 263 (weqIncludes.s weqIncludes.t) := fn_mk (Γ := []) (G := g0) hT hmix g0ok trivial Tryz.func263 (body := Tryz.f263.body.getD .skip) (fx := weqIncludes.x) (by kernel_rfl) (by kernel_rfl) (by kernel_rfl) fun _ => by kernel_rfl
def weqIncludesS.x : Fx := ⟨[.tmp 4], [R33], [.val, .val], [R19, R19], [(0, ([], [])), (1000, ([0, 1, 5], []))]⟩
def weqIncludesS.s (g : List D → Option (List D)) : Sig := ⟨weqIncludesS.x.ms, weqIncludesS.x.ps, weqIncludesS.x.rts, g⟩
theorem weqIncludesS.k : FnOk P tt cl 169 (weqIncludesS.s weqIncludesS.t) := fn_mk (Γ := [(263, weqIncludes.s weqIncludes.t)]) (G := g0) hT hmix g0ok ⟨weqIncludes.k, trivial⟩ Tryz.func169 (body := Tryz.f169.body.getD .skip) (fx := weqIncludesS.x) (by kernel_rfl) (by kernel_rfl) (by kernel_rfl) fun _ => by kernel_rfl
def weqCondS.x : Fx := ⟨[.tmp 4], [R33], [.val, .val], [R20, R20], [(0, ([], [])), (1000, ([0, 1, 5], []))]⟩
def weqCondS.s (g : List D → Option (List D)) : Sig := ⟨weqCondS.x.ms, weqCondS.x.ps, weqCondS.x.rts, g⟩
def weqCond.x : Fx := ⟨[.tmp 4], [R33], [.val, .val], [R21, R21], []⟩
def weqCond.s (g : List D → Option (List D)) : Sig := ⟨weqCond.x.ms, weqCond.x.ps, weqCond.x.rts, g⟩
theorem weqCondS.kF : ∀ n, FnOk P tt cl 413 (weqCondS.s (weqCondS.F n weqCondS.n)) ∧ FnOk P tt cl 385 (weqCond.s (weqCondS.F n weqCond.n))
  | 0 => ⟨FnOk.none (callable_of (by kernel_rfl)) fun _ => rfl, FnOk.none (callable_of (by kernel_rfl)) fun _ => rfl⟩
  | n + 1 => by
    have ih := weqCondS.kF n
    exact ⟨fn_mk (Γ := [(385, weqCond.s (weqCondS.F n weqCond.n))]) (G := g0) hT hmix g0ok ⟨ih.2, trivial⟩ Tryz.func413 (body := Tryz.f413.body.getD .skip) (fx := weqCondS.x) (by kernel_rfl) (by kernel_rfl) (by kernel_rfl) fun _ => by kernel_rfl, fn_mk (Γ := [(413, weqCondS.s (weqCondS.F n weqCondS.n))]) (G := g0) hT hmix g0ok ⟨ih.1, trivial⟩ Tryz.func385 (body := Tryz.f385.body.getD .skip) (fx := weqCond.x) (by kernel_rfl) (by kernel_rfl) (by kernel_rfl) fun _ => by kernel_rfl⟩
theorem weqCondS.k : FnOk P tt cl 413 (weqCondS.s weqCondS.t) := FnOk.lim fun n => (weqCondS.kF n).1
theorem weqCond.k : FnOk P tt cl 385 (weqCond.s weqCond.t) := FnOk.lim fun n => (weqCondS.kF n).2
def weqRule.x : Fx := ⟨[.tmp 4], [R33], [.val, .val], [R22, R22], []⟩
def weqRule.s (g : List D → Option (List D)) : Sig := ⟨weqRule.x.ms, weqRule.x.ps, weqRule.x.rts, g⟩
theorem weqRule.k : FnOk P tt cl 331 (weqRule.s weqRule.t) := fn_mk (Γ := [(385, weqCond.s weqCond.t)]) (G := g0) hT hmix g0ok ⟨weqCond.k, trivial⟩ Tryz.func331 (body := Tryz.f331.body.getD .skip) (fx := weqRule.x) (by kernel_rfl) (by kernel_rfl) (by kernel_rfl) fun _ => by kernel_rfl
def weqRuleS.x : Fx := ⟨[.tmp 4], [R33], [.val, .val], [R23, R23], [(0, ([], [])), (1000, ([0, 1, 5], []))]⟩
def weqRuleS.s (g : List D → Option (List D)) : Sig := ⟨weqRuleS.x.ms, weqRuleS.x.ps, weqRuleS.x.rts, g⟩
theorem weqRuleS.k : FnOk P tt cl 264 (weqRuleS.s weqRuleS.t) := fn_mk (Γ := [(331, weqRule.s weqRule.t)]) (G := g0) hT hmix g0ok ⟨weqRule.k, trivial⟩ Tryz.func264 (body := Tryz.f264.body.getD .skip) (fx := weqRuleS.x) (by kernel_rfl) (by kernel_rfl) (by kernel_rfl) fun _ => by kernel_rfl
def weqPolicy.x : Fx := ⟨[.tmp 4], [R33], [.val, .val], [R24, R24], []⟩
def weqPolicy.s (g : List D → Option (List D)) : Sig := ⟨weqPolicy.x.ms, weqPolicy.x.ps, weqPolicy.x.rts, g⟩
theorem weqPolicy.k : FnOk P tt cl 170 (weqPolicy.s weqPolicy.t) := fn_mk (Γ := [(264, weqRuleS.s weqRuleS.t)]) (G := g0) hT hmix g0ok ⟨weqRuleS.k, trivial⟩ Tryz.func170 (body := Tryz.f170.body.getD .skip) (fx := weqPolicy.x) (by kernel_rfl) (by kernel_rfl) (by kernel_rfl) fun _ => by kernel_rfl
def weqEpoch.x : Fx := ⟨[.tmp 4], [R33], [.val, .val], [R25, R25], []⟩
def weqEpoch.s (g : List D → Option (List D)) : Sig := ⟨weqEpoch.x.ms, weqEpoch.x.ps, weqEpoch.x.rts, g⟩
theorem weqEpoch.k : FnOk P tt cl 79 (weqEpoch.s weqEpoch.t) := fn_mk (Γ := [(169, weqIncludesS.s weqIncludesS.t), (170, weqPolicy.s weqPolicy.t)]) (G := g0) hT hmix g0ok ⟨weqIncludesS.k, weqPolicy.k, trivial⟩ Tryz.func79 (body := Tryz.f79.body.getD .skip) (fx := weqEpoch.x) (by kernel_rfl) (by kernel_rfl) (by kernel_rfl) fun _ => by kernel_rfl
def weqFact.x : Fx := ⟨[.tmp 4], [R33], [.val, .val], [R15, R15], []⟩
def weqFact.s (g : List D → Option (List D)) : Sig := ⟨weqFact.x.ms, weqFact.x.ps, weqFact.x.rts, g⟩
theorem weqFact.k : FnOk P tt cl 171 (weqFact.s weqFact.t) := fn_mk (Γ := []) (G := g0) hT hmix g0ok trivial Tryz.func171 (body := Tryz.f171.body.getD .skip) (fx := weqFact.x) (by kernel_rfl) (by kernel_rfl) (by kernel_rfl) fun _ => by kernel_rfl
def weqFactS.x : Fx := ⟨[.tmp 4], [R33], [.val, .val], [R26, R26], [(0, ([], [])), (1000, ([0, 1, 5], []))]⟩
def weqFactS.s (g : List D → Option (List D)) : Sig := ⟨weqFactS.x.ms, weqFactS.x.ps, weqFactS.x.rts, g⟩
theorem weqFactS.k : FnOk P tt cl 80 (weqFactS.s weqFactS.t) := fn_mk (Γ := [(171, weqFact.s weqFact.t)]) (G := g0) hT hmix g0ok ⟨weqFact.k, trivial⟩ Tryz.func80 (body := Tryz.f80.body.getD .skip) (fx := weqFactS.x) (by kernel_rfl) (by kernel_rfl) (by kernel_rfl) fun _ => by kernel_rfl
def weqRevoked.x : Fx := ⟨[.tmp 4], [R33], [.val, .val], [R18, R18], []⟩
def weqRevoked.s (g : List D → Option (List D)) : Sig := ⟨weqRevoked.x.ms, weqRevoked.x.ps, weqRevoked.x.rts, g⟩
theorem weqRevoked.k : FnOk P tt cl 172 (weqRevoked.s weqRevoked.t) := fn_mk (Γ := []) (G := g0) hT hmix g0ok trivial Tryz.func172 (body := Tryz.f172.body.getD .skip) (fx := weqRevoked.x) (by kernel_rfl) (by kernel_rfl) (by kernel_rfl) fun _ => by kernel_rfl
def weqRevokedS.x : Fx := ⟨[.tmp 4], [R33], [.val, .val], [R27, R27], [(0, ([], [])), (1000, ([0, 1, 5], []))]⟩
def weqRevokedS.s (g : List D → Option (List D)) : Sig := ⟨weqRevokedS.x.ms, weqRevokedS.x.ps, weqRevokedS.x.rts, g⟩
theorem weqRevokedS.k : FnOk P tt cl 81 (weqRevokedS.s weqRevokedS.t) := fn_mk (Γ := [(172, weqRevoked.s weqRevoked.t)]) (G := g0) hT hmix g0ok ⟨weqRevoked.k, trivial⟩ Tryz.func81 (body := Tryz.f81.body.getD .skip) (fx := weqRevokedS.x) (by kernel_rfl) (by kernel_rfl) (by kernel_rfl) fun _ => by kernel_rfl
def weqSaved.x : Fx := ⟨[.tmp 4], [R33], [.val, .val], [R28, R28], []⟩
def weqSaved.s (g : List D → Option (List D)) : Sig := ⟨weqSaved.x.ms, weqSaved.x.ps, weqSaved.x.rts, g⟩
theorem weqSaved.k : FnOk P tt cl 173 (weqSaved.s weqSaved.t) := fn_mk (Γ := [(142, weqRequest.s weqRequest.t)]) (G := g0) hT hmix g0ok ⟨weqRequest.k, trivial⟩ Tryz.func173 (body := Tryz.f173.body.getD .skip) (fx := weqSaved.x) (by kernel_rfl) (by kernel_rfl) (by kernel_rfl) fun _ => by kernel_rfl
def weqSavedS.x : Fx := ⟨[.tmp 4], [R33], [.val, .val], [R29, R29], [(0, ([], [])), (1000, ([0, 1, 5], []))]⟩
def weqSavedS.s (g : List D → Option (List D)) : Sig := ⟨weqSavedS.x.ms, weqSavedS.x.ps, weqSavedS.x.rts, g⟩
theorem weqSavedS.k : FnOk P tt cl 82 (weqSavedS.s weqSavedS.t) := fn_mk (Γ := [(173, weqSaved.s weqSaved.t)]) (G := g0) hT hmix g0ok ⟨weqSaved.k, trivial⟩ Tryz.func82 (body := Tryz.f82.body.getD .skip) (fx := weqSavedS.x) (by kernel_rfl) (by kernel_rfl) (by kernel_rfl) fun _ => by kernel_rfl
def weqPoint.x : Fx := ⟨[.tmp 4], [R33], [.val, .val], [R30, R30], []⟩
def weqPoint.s (g : List D → Option (List D)) : Sig := ⟨weqPoint.x.ms, weqPoint.x.ps, weqPoint.x.rts, g⟩
theorem weqPoint.k : FnOk P tt cl 29 (weqPoint.s weqPoint.t) := fn_mk (Γ := [(79, weqEpoch.s weqEpoch.t), (80, weqFactS.s weqFactS.t), (81, weqRevokedS.s weqRevokedS.t), (82, weqSavedS.s weqSavedS.t)]) (G := g0) hT hmix g0ok ⟨weqEpoch.k, weqFactS.k, weqRevokedS.k, weqSavedS.k, trivial⟩ Tryz.func29 (body := Tryz.f29.body.getD .skip) (fx := weqPoint.x) (by kernel_rfl) (by kernel_rfl) (by kernel_rfl) fun _ => by kernel_rfl
def weqPointS.x : Fx := ⟨[.tmp 4], [R33], [.val, .val], [R31, R31], [(0, ([], [])), (1000, ([0, 1, 5], []))]⟩
def weqPointS.s (g : List D → Option (List D)) : Sig := ⟨weqPointS.x.ms, weqPointS.x.ps, weqPointS.x.rts, g⟩
theorem weqPointS.k : FnOk P tt cl 17 (weqPointS.s weqPointS.t) := fn_mk (Γ := [(29, weqPoint.s weqPoint.t)]) (G := g0) hT hmix g0ok ⟨weqPoint.k, trivial⟩ Tryz.func17 (body := Tryz.f17.body.getD .skip) (fx := weqPointS.x) (by kernel_rfl) (by kernel_rfl) (by kernel_rfl) fun _ => by kernel_rfl
def weqCert.x : Fx := ⟨[.tmp 4], [R33], [.val, .val], [R15, R15], []⟩
def weqCert.s (g : List D → Option (List D)) : Sig := ⟨weqCert.x.ms, weqCert.x.ps, weqCert.x.rts, g⟩
theorem weqCert.k : FnOk P tt cl 59 (weqCert.s weqCert.t) := fn_mk (Γ := []) (G := g0) hT hmix g0ok trivial Tryz.func59 (body := Tryz.f59.body.getD .skip) (fx := weqCert.x) (by kernel_rfl) (by kernel_rfl) (by kernel_rfl) fun _ => by kernel_rfl
def weqCertS.x : Fx := ⟨[.tmp 4], [R33], [.val, .val], [R32, R32], [(0, ([], [])), (1000, ([0, 1, 5], []))]⟩
def weqCertS.s (g : List D → Option (List D)) : Sig := ⟨weqCertS.x.ms, weqCertS.x.ps, weqCertS.x.rts, g⟩
theorem weqCertS.k : FnOk P tt cl 18 (weqCertS.s weqCertS.t) := fn_mk (Γ := [(59, weqCert.s weqCert.t)]) (G := g0) hT hmix g0ok ⟨weqCert.k, trivial⟩ Tryz.func18 (body := Tryz.f18.body.getD .skip) (fx := weqCertS.x) (by kernel_rfl) (by kernel_rfl) (by kernel_rfl) fun _ => by kernel_rfl
def wmarkSessionS.x : Fx := ⟨[.tmp 4], [R0], [.io, .val], [R17, R0], [(0, ([1], [])), (1000, ([0, 1, 5], []))]⟩
def wmarkSessionS.s (g : List D → Option (List D)) : Sig := ⟨wmarkSessionS.x.ms, wmarkSessionS.x.ps, wmarkSessionS.x.rts, g⟩
theorem wmarkSessionS.k : FnOk P tt cl 19 (wmarkSessionS.s wmarkSessionS.t) := fn_mk (Γ := []) (G := g0) hT hmix g0ok trivial Tryz.func19 (body := Tryz.f19.body.getD .skip) (fx := wmarkSessionS.x) (by kernel_rfl) (by kernel_rfl) (by kernel_rfl) fun _ => by kernel_rfl
def wmarkIncludesS.x : Fx := ⟨[.tmp 4], [R0], [.io, .val], [R19, R0], [(0, ([1], [])), (1000, ([0, 1, 5], []))]⟩
def wmarkIncludesS.s (g : List D → Option (List D)) : Sig := ⟨wmarkIncludesS.x.ms, wmarkIncludesS.x.ps, wmarkIncludesS.x.rts, g⟩
theorem wmarkIncludesS.k : FnOk P tt cl 60 (wmarkIncludesS.s wmarkIncludesS.t) := fn_mk (Γ := []) (G := g0) hT hmix g0ok trivial Tryz.func60 (body := Tryz.f60.body.getD .skip) (fx := wmarkIncludesS.x) (by kernel_rfl) (by kernel_rfl) (by kernel_rfl) fun _ => by kernel_rfl
def wmarkCondS.x : Fx := ⟨[.tmp 4], [R0], [.io, .val], [R20, R0], [(0, ([1], [])), (1000, ([0, 1, 5], []))]⟩
def wmarkCondS.s (g : List D → Option (List D)) : Sig := ⟨wmarkCondS.x.ms, wmarkCondS.x.ps, wmarkCondS.x.rts, g⟩
theorem wmarkCondS.kF : ∀ n, FnOk P tt cl 143 (wmarkCondS.s (wmarkCondS.F n wmarkCondS.n))
  | 0 => FnOk.none (callable_of (by kernel_rfl)) fun _ => rfl
  | n + 1 => by
    have ih := wmarkCondS.kF n
    exact fn_mk (Γ := [(143, wmarkCondS.s (wmarkCondS.F n wmarkCondS.n))]) (G := g0) hT hmix g0ok ⟨ih, trivial⟩ Tryz.func143 (body := Tryz.f143.body.getD .skip) (fx := wmarkCondS.x) (by kernel_rfl) (by kernel_rfl) (by kernel_rfl) fun _ => by kernel_rfl
theorem wmarkCondS.k : FnOk P tt cl 143 (wmarkCondS.s wmarkCondS.t) := FnOk.lim fun n => (wmarkCondS.kF n)
def wmarkRuleS.x : Fx := ⟨[.tmp 4], [R0], [.io, .val], [R23, R0], [(0, ([1], [])), (1000, ([0, 1, 5], []))]⟩
def wmarkRuleS.s (g : List D → Option (List D)) : Sig := ⟨wmarkRuleS.x.ms, wmarkRuleS.x.ps, wmarkRuleS.x.rts, g⟩
theorem wmarkRuleS.k : FnOk P tt cl 61 (wmarkRuleS.s wmarkRuleS.t) := fn_mk (Γ := [(143, wmarkCondS.s wmarkCondS.t)]) (G := g0) hT hmix g0ok ⟨wmarkCondS.k, trivial⟩ Tryz.func61 (body := Tryz.f61.body.getD .skip) (fx := wmarkRuleS.x) (by kernel_rfl) (by kernel_rfl) (by kernel_rfl) fun _ => by kernel_rfl
def wmarkFactS.x : Fx := ⟨[.tmp 4], [R0], [.io, .val], [R26, R0], [(0, ([1], [])), (1000, ([0, 1, 5], []))]⟩
def wmarkFactS.s (g : List D → Option (List D)) : Sig := ⟨wmarkFactS.x.ms, wmarkFactS.x.ps, wmarkFactS.x.rts, g⟩
theorem wmarkFactS.k : FnOk P tt cl 62 (wmarkFactS.s wmarkFactS.t) := fn_mk (Γ := []) (G := g0) hT hmix g0ok trivial Tryz.func62 (body := Tryz.f62.body.getD .skip) (fx := wmarkFactS.x) (by kernel_rfl) (by kernel_rfl) (by kernel_rfl) fun _ => by kernel_rfl
def wmarkRevokedS.x : Fx := ⟨[.tmp 4], [R0], [.io, .val], [R27, R0], [(0, ([1], [])), (1000, ([0, 1, 5], []))]⟩
def wmarkRevokedS.s (g : List D → Option (List D)) : Sig := ⟨wmarkRevokedS.x.ms, wmarkRevokedS.x.ps, wmarkRevokedS.x.rts, g⟩
theorem wmarkRevokedS.k : FnOk P tt cl 63 (wmarkRevokedS.s wmarkRevokedS.t) := fn_mk (Γ := []) (G := g0) hT hmix g0ok trivial Tryz.func63 (body := Tryz.f63.body.getD .skip) (fx := wmarkRevokedS.x) (by kernel_rfl) (by kernel_rfl) (by kernel_rfl) fun _ => by kernel_rfl
def wmarkSavedS.x : Fx := ⟨[.tmp 4], [R0], [.io, .val], [R29, R0], [(0, ([1], [])), (1000, ([0, 1, 5], []))]⟩
def wmarkSavedS.s (g : List D → Option (List D)) : Sig := ⟨wmarkSavedS.x.ms, wmarkSavedS.x.ps, wmarkSavedS.x.rts, g⟩
theorem wmarkSavedS.k : FnOk P tt cl 64 (wmarkSavedS.s wmarkSavedS.t) := fn_mk (Γ := []) (G := g0) hT hmix g0ok trivial Tryz.func64 (body := Tryz.f64.body.getD .skip) (fx := wmarkSavedS.x) (by kernel_rfl) (by kernel_rfl) (by kernel_rfl) fun _ => by kernel_rfl
def wmarkPointS.x : Fx := ⟨[.tmp 4], [R0], [.io, .val], [R31, R0], [(0, ([1], [])), (1000, ([0, 1, 5], []))]⟩
def wmarkPointS.s (g : List D → Option (List D)) : Sig := ⟨wmarkPointS.x.ms, wmarkPointS.x.ps, wmarkPointS.x.rts, g⟩
theorem wmarkPointS.k : FnOk P tt cl 20 (wmarkPointS.s wmarkPointS.t) := fn_mk (Γ := [(60, wmarkIncludesS.s wmarkIncludesS.t), (61, wmarkRuleS.s wmarkRuleS.t), (62, wmarkFactS.s wmarkFactS.t), (63, wmarkRevokedS.s wmarkRevokedS.t), (64, wmarkSavedS.s wmarkSavedS.t)]) (G := g0) hT hmix g0ok ⟨wmarkIncludesS.k, wmarkRuleS.k, wmarkFactS.k, wmarkRevokedS.k, wmarkSavedS.k, trivial⟩ Tryz.func20 (body := Tryz.f20.body.getD .skip) (fx := wmarkPointS.x) (by kernel_rfl) (by kernel_rfl) (by kernel_rfl) fun _ => by kernel_rfl
def wmarkCertS.x : Fx := ⟨[.tmp 4], [R0], [.io, .val], [R32, R0], [(0, ([1], [])), (1000, ([0, 1, 5], []))]⟩
def wmarkCertS.s (g : List D → Option (List D)) : Sig := ⟨wmarkCertS.x.ms, wmarkCertS.x.ps, wmarkCertS.x.rts, g⟩
theorem wmarkCertS.k : FnOk P tt cl 21 (wmarkCertS.s wmarkCertS.t) := fn_mk (Γ := []) (G := g0) hT hmix g0ok trivial Tryz.func21 (body := Tryz.f21.body.getD .skip) (fx := wmarkCertS.x) (by kernel_rfl) (by kernel_rfl) (by kernel_rfl) fun _ => by kernel_rfl
def wheldSessionS.x : Fx := ⟨[.tmp 4], [R0], [.val, .val], [R17, R0], [(0, ([1], [])), (1000, ([0, 1, 5], []))]⟩
def wheldSessionS.s (g : List D → Option (List D)) : Sig := ⟨wheldSessionS.x.ms, wheldSessionS.x.ps, wheldSessionS.x.rts, g⟩
theorem wheldSessionS.k : FnOk P tt cl 22 (wheldSessionS.s wheldSessionS.t) := fn_mk (Γ := []) (G := g0) hT hmix g0ok trivial Tryz.func22 (body := Tryz.f22.body.getD .skip) (fx := wheldSessionS.x) (by kernel_rfl) (by kernel_rfl) (by kernel_rfl) fun _ => by kernel_rfl
def wFnExactReviewSessions.x : Fx := ⟨[.tmp 10], [R33], [.val, .val, .val, .val, .val], [R1, R13, R0, R14, R0], []⟩
def wFnExactReviewSessions.s (g : List D → Option (List D)) : Sig := ⟨wFnExactReviewSessions.x.ms, wFnExactReviewSessions.x.ps, wFnExactReviewSessions.x.rts, g⟩
theorem wFnExactReviewSessions.k : FnOk P tt cl 3 (wFnExactReviewSessions.s wFnExactReviewSessions.t) := fn_mk (Γ := [(8, wszSessionS.s wszSessionS.t), (9, wszPointS.s wszPointS.t), (10, wszCertS.s wszCertS.t), (11, sReviewSessions.s sReviewSessions.t), (12, wtoSessionS.s wtoSessionS.t), (13, wtoPointS.s wtoPointS.t), (14, wtoCertS.s wtoCertS.t), (15, iReviewSessions.s iReviewSessions.t), (16, weqSessionS.s weqSessionS.t), (17, weqPointS.s weqPointS.t), (18, weqCertS.s weqCertS.t), (19, wmarkSessionS.s wmarkSessionS.t), (20, wmarkPointS.s wmarkPointS.t), (21, wmarkCertS.s wmarkCertS.t), (22, wheldSessionS.s wheldSessionS.t)]) (G := g0) hT hmix g0ok ⟨wszSessionS.k, wszPointS.k, wszCertS.k, sReviewSessions.k, wtoSessionS.k, wtoPointS.k, wtoCertS.k, iReviewSessions.k, weqSessionS.k, weqPointS.k, weqCertS.k, wmarkSessionS.k, wmarkPointS.k, wmarkCertS.k, wheldSessionS.k, trivial⟩ Tryz.func3 (body := Tryz.f3.body.getD .skip) (fx := wFnExactReviewSessions.x) (by kernel_rfl) (by kernel_rfl) (by kernel_rfl) fun _ => by kernel_rfl
def sAreSessions.x : Fx := ⟨[.tmp 2], [R33], [.val], [R17], [(0, ([0], [])), (1000, ([0, 3], []))]⟩
def sAreSessions.s (g : List D → Option (List D)) : Sig := ⟨sAreSessions.x.ms, sAreSessions.x.ps, sAreSessions.x.rts, g⟩
theorem sAreSessions.k : FnOk P tt cl 69 (sAreSessions.s sAreSessions.t) := fn_mk (Γ := [(146, sIsRequest.s sIsRequest.t)]) (G := g0) hT hmix g0ok ⟨sIsRequest.k, trivial⟩ Tryz.func69 (body := Tryz.f69.body.getD .skip) (fx := sAreSessions.x) (by kernel_rfl) (by kernel_rfl) (by kernel_rfl) fun _ => by kernel_rfl
def sStartSession.x : Fx := ⟨[.tmp 10, .cell 11 69, .tmp 12], [R17, R30, R0], [.val, .val, .val, .val, .val], [R17, R30, R0, R15, R15], []⟩
def sStartSession.s (g : List D → Option (List D)) : Sig := ⟨sStartSession.x.ms, sStartSession.x.ps, sStartSession.x.rts, g⟩
theorem sStartSession.k : FnOk P tt cl 24 (sStartSession.s sStartSession.t) := fn_mk (Γ := [(69, sAreSessions.s sAreSessions.t), (70, sl27Copy.s sl27Copy.t), (71, sAskPoint.s sAskPoint.t)]) (G := g0) hT hmix g0ok ⟨sAreSessions.k, sl27Copy.k, sAskPoint.k, trivial⟩ Tryz.func24 (body := Tryz.f24.body.getD .skip) (fx := sStartSession.x) (by kernel_rfl) (by kernel_rfl) (by kernel_rfl) fun _ => by kernel_rfl
def iAreSessions.x : Fx := ⟨[.tmp 2], [R33], [.val], [R17], [(0, ([0], [])), (1000, ([0, 5, 6, 7], []))]⟩
def iAreSessions.s (g : List D → Option (List D)) : Sig := ⟨iAreSessions.x.ms, iAreSessions.x.ps, iAreSessions.x.rts, g⟩
theorem iAreSessions.k : FnOk P tt cl 76 (iAreSessions.s iAreSessions.t) := fn_mk (Γ := [(160, iIsRequest.s iIsRequest.t)]) (G := g0) hT hmix g0ok ⟨iIsRequest.k, trivial⟩ Tryz.func76 (body := Tryz.f76.body.getD .skip) (fx := iAreSessions.x) (by kernel_rfl) (by kernel_rfl) (by kernel_rfl) fun _ => by kernel_rfl
def iStartSession.x : Fx := ⟨[.tmp 10, .cell 11 69, .tmp 12], [R17, R30, R0], [.val, .val, .val, .val, .val], [R17, R30, R0, R15, R15], []⟩
def iStartSession.s (g : List D → Option (List D)) : Sig := ⟨iStartSession.x.ms, iStartSession.x.ps, iStartSession.x.rts, g⟩
theorem iStartSession.k : FnOk P tt cl 28 (iStartSession.s iStartSession.t) := fn_mk (Γ := [(76, iAreSessions.s iAreSessions.t), (77, icopyPoint.s icopyPoint.t), (78, iAskPoint.s iAskPoint.t)]) (G := g0) hT hmix g0ok ⟨iAreSessions.k, icopyPoint.k, iAskPoint.k, trivial⟩ Tryz.func28 (body := Tryz.f28.body.getD .skip) (fx := iStartSession.x) (by kernel_rfl) (by kernel_rfl) (by kernel_rfl) fun _ => by kernel_rfl
def wmarkPolicy.x : Fx := ⟨[.tmp 4], [R0], [.ioa, .val], [R24, R0], []⟩
def wmarkPolicy.s (g : List D → Option (List D)) : Sig := ⟨wmarkPolicy.x.ms, wmarkPolicy.x.ps, wmarkPolicy.x.rts, g⟩
theorem wmarkPolicy.k : FnOk P tt cl 174 (wmarkPolicy.s wmarkPolicy.t) := fn_mk (Γ := [(61, wmarkRuleS.s wmarkRuleS.t)]) (G := g0) hT hmix g0ok ⟨wmarkRuleS.k, trivial⟩ Tryz.func174 (body := Tryz.f174.body.getD .skip) (fx := wmarkPolicy.x) (by kernel_rfl) (by kernel_rfl) (by kernel_rfl) fun _ => by kernel_rfl
def wmarkEpoch.x : Fx := ⟨[.tmp 4], [R0], [.ioa, .val], [R25, R0], []⟩
def wmarkEpoch.s (g : List D → Option (List D)) : Sig := ⟨wmarkEpoch.x.ms, wmarkEpoch.x.ps, wmarkEpoch.x.rts, g⟩
theorem wmarkEpoch.k : FnOk P tt cl 83 (wmarkEpoch.s wmarkEpoch.t) := fn_mk (Γ := [(60, wmarkIncludesS.s wmarkIncludesS.t), (174, wmarkPolicy.s wmarkPolicy.t)]) (G := g0) hT hmix g0ok ⟨wmarkIncludesS.k, wmarkPolicy.k, trivial⟩ Tryz.func83 (body := Tryz.f83.body.getD .skip) (fx := wmarkEpoch.x) (by kernel_rfl) (by kernel_rfl) (by kernel_rfl) fun _ => by kernel_rfl
def wmarkPoint.x : Fx := ⟨[.tmp 4], [R0], [.ioa, .val], [R30, R0], []⟩
def wmarkPoint.s (g : List D → Option (List D)) : Sig := ⟨wmarkPoint.x.ms, wmarkPoint.x.ps, wmarkPoint.x.rts, g⟩
theorem wmarkPoint.k : FnOk P tt cl 30 (wmarkPoint.s wmarkPoint.t) := fn_mk (Γ := [(62, wmarkFactS.s wmarkFactS.t), (63, wmarkRevokedS.s wmarkRevokedS.t), (64, wmarkSavedS.s wmarkSavedS.t), (83, wmarkEpoch.s wmarkEpoch.t)]) (G := g0) hT hmix g0ok ⟨wmarkFactS.k, wmarkRevokedS.k, wmarkSavedS.k, wmarkEpoch.k, trivial⟩ Tryz.func30 (body := Tryz.f30.body.getD .skip) (fx := wmarkPoint.x) (by kernel_rfl) (by kernel_rfl) (by kernel_rfl) fun _ => by kernel_rfl
def wheldIncludesS.x : Fx := ⟨[.tmp 4], [R0], [.val, .val], [R19, R0], [(0, ([1], [])), (1000, ([0, 1, 5], []))]⟩
def wheldIncludesS.s (g : List D → Option (List D)) : Sig := ⟨wheldIncludesS.x.ms, wheldIncludesS.x.ps, wheldIncludesS.x.rts, g⟩
theorem wheldIncludesS.k : FnOk P tt cl 175 (wheldIncludesS.s wheldIncludesS.t) := fn_mk (Γ := []) (G := g0) hT hmix g0ok trivial Tryz.func175 (body := Tryz.f175.body.getD .skip) (fx := wheldIncludesS.x) (by kernel_rfl) (by kernel_rfl) (by kernel_rfl) fun _ => by kernel_rfl
def wheldCondS.x : Fx := ⟨[.tmp 4], [R0], [.val, .val], [R20, R0], [(0, ([1], [])), (1000, ([0, 1, 5], []))]⟩
def wheldCondS.s (g : List D → Option (List D)) : Sig := ⟨wheldCondS.x.ms, wheldCondS.x.ps, wheldCondS.x.rts, g⟩
theorem wheldCondS.kF : ∀ n, FnOk P tt cl 332 (wheldCondS.s (wheldCondS.F n wheldCondS.n))
  | 0 => FnOk.none (callable_of (by kernel_rfl)) fun _ => rfl
  | n + 1 => by
    have ih := wheldCondS.kF n
    exact fn_mk (Γ := [(332, wheldCondS.s (wheldCondS.F n wheldCondS.n))]) (G := g0) hT hmix g0ok ⟨ih, trivial⟩ Tryz.func332 (body := Tryz.f332.body.getD .skip) (fx := wheldCondS.x) (by kernel_rfl) (by kernel_rfl) (by kernel_rfl) fun _ => by kernel_rfl
theorem wheldCondS.k : FnOk P tt cl 332 (wheldCondS.s wheldCondS.t) := FnOk.lim fun n => (wheldCondS.kF n)
def wheldRuleS.x : Fx := ⟨[.tmp 4], [R0], [.val, .val], [R23, R0], [(0, ([1], [])), (1000, ([0, 1, 5], []))]⟩
def wheldRuleS.s (g : List D → Option (List D)) : Sig := ⟨wheldRuleS.x.ms, wheldRuleS.x.ps, wheldRuleS.x.rts, g⟩
theorem wheldRuleS.k : FnOk P tt cl 265 (wheldRuleS.s wheldRuleS.t) := fn_mk (Γ := [(332, wheldCondS.s wheldCondS.t)]) (G := g0) hT hmix g0ok ⟨wheldCondS.k, trivial⟩ Tryz.func265 (body := Tryz.f265.body.getD .skip) (fx := wheldRuleS.x) (by kernel_rfl) (by kernel_rfl) (by kernel_rfl) fun _ => by kernel_rfl
def wheldPolicy.x : Fx := ⟨[.tmp 4], [R0], [.val, .val], [R24, R0], []⟩
def wheldPolicy.s (g : List D → Option (List D)) : Sig := ⟨wheldPolicy.x.ms, wheldPolicy.x.ps, wheldPolicy.x.rts, g⟩
theorem wheldPolicy.k : FnOk P tt cl 176 (wheldPolicy.s wheldPolicy.t) := fn_mk (Γ := [(265, wheldRuleS.s wheldRuleS.t)]) (G := g0) hT hmix g0ok ⟨wheldRuleS.k, trivial⟩ Tryz.func176 (body := Tryz.f176.body.getD .skip) (fx := wheldPolicy.x) (by kernel_rfl) (by kernel_rfl) (by kernel_rfl) fun _ => by kernel_rfl
def wheldEpoch.x : Fx := ⟨[.tmp 4], [R0], [.val, .val], [R25, R0], []⟩
def wheldEpoch.s (g : List D → Option (List D)) : Sig := ⟨wheldEpoch.x.ms, wheldEpoch.x.ps, wheldEpoch.x.rts, g⟩
theorem wheldEpoch.k : FnOk P tt cl 84 (wheldEpoch.s wheldEpoch.t) := fn_mk (Γ := [(175, wheldIncludesS.s wheldIncludesS.t), (176, wheldPolicy.s wheldPolicy.t)]) (G := g0) hT hmix g0ok ⟨wheldIncludesS.k, wheldPolicy.k, trivial⟩ Tryz.func84 (body := Tryz.f84.body.getD .skip) (fx := wheldEpoch.x) (by kernel_rfl) (by kernel_rfl) (by kernel_rfl) fun _ => by kernel_rfl
def wheldFactS.x : Fx := ⟨[.tmp 4], [R0], [.val, .val], [R26, R0], [(0, ([1], [])), (1000, ([0, 1, 5], []))]⟩
def wheldFactS.s (g : List D → Option (List D)) : Sig := ⟨wheldFactS.x.ms, wheldFactS.x.ps, wheldFactS.x.rts, g⟩
theorem wheldFactS.k : FnOk P tt cl 85 (wheldFactS.s wheldFactS.t) := fn_mk (Γ := []) (G := g0) hT hmix g0ok trivial Tryz.func85 (body := Tryz.f85.body.getD .skip) (fx := wheldFactS.x) (by kernel_rfl) (by kernel_rfl) (by kernel_rfl) fun _ => by kernel_rfl
def wheldRevokedS.x : Fx := ⟨[.tmp 4], [R0], [.val, .val], [R27, R0], [(0, ([1], [])), (1000, ([0, 1, 5], []))]⟩
def wheldRevokedS.s (g : List D → Option (List D)) : Sig := ⟨wheldRevokedS.x.ms, wheldRevokedS.x.ps, wheldRevokedS.x.rts, g⟩
theorem wheldRevokedS.k : FnOk P tt cl 86 (wheldRevokedS.s wheldRevokedS.t) := fn_mk (Γ := []) (G := g0) hT hmix g0ok trivial Tryz.func86 (body := Tryz.f86.body.getD .skip) (fx := wheldRevokedS.x) (by kernel_rfl) (by kernel_rfl) (by kernel_rfl) fun _ => by kernel_rfl
def wheldSavedS.x : Fx := ⟨[.tmp 4], [R0], [.val, .val], [R29, R0], [(0, ([1], [])), (1000, ([0, 1, 5], []))]⟩
def wheldSavedS.s (g : List D → Option (List D)) : Sig := ⟨wheldSavedS.x.ms, wheldSavedS.x.ps, wheldSavedS.x.rts, g⟩
theorem wheldSavedS.k : FnOk P tt cl 87 (wheldSavedS.s wheldSavedS.t) := fn_mk (Γ := []) (G := g0) hT hmix g0ok trivial Tryz.func87 (body := Tryz.f87.body.getD .skip) (fx := wheldSavedS.x) (by kernel_rfl) (by kernel_rfl) (by kernel_rfl) fun _ => by kernel_rfl
def wheldPoint.x : Fx := ⟨[.tmp 4], [R0], [.val, .val], [R30, R0], []⟩
def wheldPoint.s (g : List D → Option (List D)) : Sig := ⟨wheldPoint.x.ms, wheldPoint.x.ps, wheldPoint.x.rts, g⟩
theorem wheldPoint.k : FnOk P tt cl 31 (wheldPoint.s wheldPoint.t) := fn_mk (Γ := [(84, wheldEpoch.s wheldEpoch.t), (85, wheldFactS.s wheldFactS.t), (86, wheldRevokedS.s wheldRevokedS.t), (87, wheldSavedS.s wheldSavedS.t)]) (G := g0) hT hmix g0ok ⟨wheldEpoch.k, wheldFactS.k, wheldRevokedS.k, wheldSavedS.k, trivial⟩ Tryz.func31 (body := Tryz.f31.body.getD .skip) (fx := wheldPoint.x) (by kernel_rfl) (by kernel_rfl) (by kernel_rfl) fun _ => by kernel_rfl
def wFnExactStartSession.x : Fx := ⟨[.tmp 10], [R33], [.val, .val, .val, .val, .val], [R1, R12, R0, R15, R15], []⟩
def wFnExactStartSession.s (g : List D → Option (List D)) : Sig := ⟨wFnExactStartSession.x.ms, wFnExactStartSession.x.ps, wFnExactStartSession.x.rts, g⟩
theorem wFnExactStartSession.k : FnOk P tt cl 4 (wFnExactStartSession.s wFnExactStartSession.t) := fn_mk (Γ := [(8, wszSessionS.s wszSessionS.t), (12, wtoSessionS.s wtoSessionS.t), (16, weqSessionS.s weqSessionS.t), (19, wmarkSessionS.s wmarkSessionS.t), (22, wheldSessionS.s wheldSessionS.t), (23, wszPoint.s wszPoint.t), (24, sStartSession.s sStartSession.t), (25, wtoPoint.s wtoPoint.t), (26, wtoCert.s wtoCert.t), (27, wtoRequest.s wtoRequest.t), (28, iStartSession.s iStartSession.t), (29, weqPoint.s weqPoint.t), (30, wmarkPoint.s wmarkPoint.t), (31, wheldPoint.s wheldPoint.t)]) (G := g0) hT hmix g0ok ⟨wszSessionS.k, wtoSessionS.k, weqSessionS.k, wmarkSessionS.k, wheldSessionS.k, wszPoint.k, sStartSession.k, wtoPoint.k, wtoCert.k, wtoRequest.k, iStartSession.k, weqPoint.k, wmarkPoint.k, wheldPoint.k, trivial⟩ Tryz.func4 (body := Tryz.f4.body.getD .skip) (fx := wFnExactStartSession.x) (by kernel_rfl) (by kernel_rfl) (by kernel_rfl) fun _ => by kernel_rfl
end
end Go.Ev
