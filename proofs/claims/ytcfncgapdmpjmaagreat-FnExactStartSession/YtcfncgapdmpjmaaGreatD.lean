/- The functions that the law reaches, over data: printed by program. -/
import Derived.Test.YtcfncgapdmpjmaaGreatEvThree
set_option linter.unusedVariables false
set_option linter.unusedSimpArgs false
namespace Go.Ev
noncomputable section
def g0 : GF := gf []
def wszCondS.n : Nat := 406
def wszCond.n : Nat := 377
def wtoCondS.n : Nat := 409
def wtoCond.n : Nat := 381
def sl15Copy.n : Nat := 320
def sl15Left.n : Nat := 424
def sl15Valid.n : Nat := 425
def sl18Eval.n : Nat := 408
def ipointOf_c1.n : Nat := 139
def icertOf_c1.n : Nat := 141
def icopyCond.n : Nat := 382
def iRevokedAt_c1.n : Nat := 238
def iFindSaved_c1.n : Nat := 259
def iSizeOf.n : Nat := 415
def iareNodes_c1.n : Nat := 432
def iareNodes.n : Nat := 416
def iIsPolicy_c1.n : Nat := 354
def ievalWith.n : Nat := 410
def iFindFact_c1.n : Nat := 444
def iEvalCond_c1.n : Nat := 411
def weqCondS.n : Nat := 413
def weqCond.n : Nat := 385
def wmarkCondS.n : Nat := 143
def wheldCondS.n : Nat := 332
def wszSessionS.b (a0 a1 : D) : Option (List D) :=
  bif ltI (w64 (a1.i - (a0.r.length : Int))) 0 then
    some [D.int (-1)]
  else
    some [D.int (w64 (a1.i - (a0.r.length : Int)))]
def wszSessionS.t (a : List D) : Option (List D) := wszSessionS.b (res a 0) (res a 1)
def wszIncludesS.b (a0 a1 : D) : Option (List D) :=
  bif ltI (w64 (a1.i - (a0.r.length : Int))) 0 then
    some [D.int (-1)]
  else
    some [D.int (w64 (a1.i - (a0.r.length : Int)))]
def wszIncludesS.t (a : List D) : Option (List D) := wszIncludesS.b (res a 0) (res a 1)
def wszCondS.l1 (g : GT) (d1 : List D) : LR :=
  bif ltI (arg d1 1).i ((arg d1 2).r.length : Int) then
    bif leI 0 (arg d1 1).i && ltI (arg d1 1).i ((arg d1 2).r.length : Int) then
      Option.bind (g wszCond.n [D.st [D.int (cell (arg d1 2).r (arg d1 1).i.toNat 0).i, D.int (cell (arg d1 2).r (arg d1 1).i.toNat 1).i, D.int (cell (arg d1 2).r (arg d1 1).i.toNat 2).i, D.rows (cell (arg d1 2).r (arg d1 1).i.toNat 3).r], D.int (arg d1 0).i]) fun r1 =>
        bif ltI (res r1 0).i 0 then
          some (.inr (.inr [D.int (-1)]))
        else
          some (.inl [D.int (res r1 0).i, D.int (w64 ((arg d1 1).i + 1)), D.rows (arg d1 2).r])
    else none
  else
    some (.inr (.inl [D.int (arg d1 0).i]))
def wszCondS.b (g : GT) (a0 a1 : D) : Option (List D) :=
  bif ltI (w64 (a1.i - (a0.r.length : Int))) 0 then
    some [D.int (-1)]
  else
    loop (wszCondS.l1 g) [D.int (w64 (a1.i - (a0.r.length : Int))), D.int 0, D.rows a0.r] (fun x1 =>
      some [D.int (arg x1 0).i]) fun y1 => some y1
def wszCond.b (g : GT) (a0 a1 : D) : Option (List D) :=
  Option.bind (g wszCondS.n [D.rows (a0.f 3).r, D.int a1.i]) fun r1 =>
    bif ltI (res r1 0).i 0 then
      some [D.int (-1)]
    else
      some [D.int (res r1 0).i]
def wszCondS.F : Nat → GT
  | 0 => fun _ _ => none
  | n + 1 => fun k => look (fun _ => none) [(wszCondS.n, fun a => wszCondS.b (wszCondS.F n) (res a 0) (res a 1)), (wszCond.n, fun a => wszCond.b (wszCondS.F n) (res a 0) (res a 1))] k
def wszCondS.t (a : List D) : Option (List D) := lim fun n => wszCondS.F n wszCondS.n a
def wszCond.t (a : List D) : Option (List D) := lim fun n => wszCondS.F n wszCond.n a
def wszRule.b (a0 a1 : D) : Option (List D) :=
  Option.bind (wszCond.t [D.st [D.int (a0.f 3).i, D.int (a0.f 4).i, D.int (a0.f 5).i, D.rows (a0.f 6).r], D.int a1.i]) fun r1 =>
    bif ltI (res r1 0).i 0 then
      some [D.int (-1)]
    else
      some [D.int (res r1 0).i]
def wszRule.t (a : List D) : Option (List D) := wszRule.b (res a 0) (res a 1)
def wszRuleS.l1 (d1 : List D) : LR :=
  bif ltI (arg d1 1).i ((arg d1 2).r.length : Int) then
    bif leI 0 (arg d1 1).i && ltI (arg d1 1).i ((arg d1 2).r.length : Int) then
      Option.bind (wszRule.t [D.st [D.int (cell (arg d1 2).r (arg d1 1).i.toNat 0).i, D.int (cell (arg d1 2).r (arg d1 1).i.toNat 1).i, D.int (cell (arg d1 2).r (arg d1 1).i.toNat 2).i, D.int (cell (arg d1 2).r (arg d1 1).i.toNat 3).i, D.int (cell (arg d1 2).r (arg d1 1).i.toNat 4).i, D.int (cell (arg d1 2).r (arg d1 1).i.toNat 5).i, D.rows (cell (arg d1 2).r (arg d1 1).i.toNat 6).r], D.int (arg d1 0).i]) fun r1 =>
        bif ltI (res r1 0).i 0 then
          some (.inr (.inr [D.int (-1)]))
        else
          some (.inl [D.int (res r1 0).i, D.int (w64 ((arg d1 1).i + 1)), D.rows (arg d1 2).r])
    else none
  else
    some (.inr (.inl [D.int (arg d1 0).i]))
def wszRuleS.b (a0 a1 : D) : Option (List D) :=
  bif ltI (w64 (a1.i - (a0.r.length : Int))) 0 then
    some [D.int (-1)]
  else
    loop (wszRuleS.l1) [D.int (w64 (a1.i - (a0.r.length : Int))), D.int 0, D.rows a0.r] (fun x1 =>
      some [D.int (arg x1 0).i]) fun y1 => some y1
def wszRuleS.t (a : List D) : Option (List D) := wszRuleS.b (res a 0) (res a 1)
def wszPolicy.b (a0 a1 : D) : Option (List D) :=
  Option.bind (wszRuleS.t [D.rows (a0.f 1).r, D.int a1.i]) fun r1 =>
    bif ltI (res r1 0).i 0 then
      some [D.int (-1)]
    else
      some [D.int (res r1 0).i]
def wszPolicy.t (a : List D) : Option (List D) := wszPolicy.b (res a 0) (res a 1)
def wszEpoch.b (a0 a1 : D) : Option (List D) :=
  Option.bind (wszIncludesS.t [D.rows (a0.f 2).r, D.int a1.i]) fun r1 =>
    bif ltI (res r1 0).i 0 then
      some [D.int (-1)]
    else
      Option.bind (wszPolicy.t [D.st [D.int (a0.f 3).i, D.rows (a0.f 4).r], D.int (res r1 0).i]) fun r2 =>
        bif ltI (res r2 0).i 0 then
          some [D.int (-1)]
        else
          some [D.int (res r2 0).i]
def wszEpoch.t (a : List D) : Option (List D) := wszEpoch.b (res a 0) (res a 1)
def wszFactS.b (a0 a1 : D) : Option (List D) :=
  bif ltI (w64 (a1.i - (a0.r.length : Int))) 0 then
    some [D.int (-1)]
  else
    some [D.int (w64 (a1.i - (a0.r.length : Int)))]
def wszFactS.t (a : List D) : Option (List D) := wszFactS.b (res a 0) (res a 1)
def wszRevokedS.b (a0 a1 : D) : Option (List D) :=
  bif ltI (w64 (a1.i - (a0.r.length : Int))) 0 then
    some [D.int (-1)]
  else
    some [D.int (w64 (a1.i - (a0.r.length : Int)))]
def wszRevokedS.t (a : List D) : Option (List D) := wszRevokedS.b (res a 0) (res a 1)
def wszSavedS.b (a0 a1 : D) : Option (List D) :=
  bif ltI (w64 (a1.i - (a0.r.length : Int))) 0 then
    some [D.int (-1)]
  else
    some [D.int (w64 (a1.i - (a0.r.length : Int)))]
def wszSavedS.t (a : List D) : Option (List D) := wszSavedS.b (res a 0) (res a 1)
def wszPoint.b (a0 a1 : D) : Option (List D) :=
  Option.bind (wszEpoch.t [D.st [D.int (a0.f 1).i, D.int (a0.f 2).i, D.rows (a0.f 3).r, D.int (a0.f 4).i, D.rows (a0.f 5).r], D.int a1.i]) fun r1 =>
    bif ltI (res r1 0).i 0 then
      some [D.int (-1)]
    else
      Option.bind (wszFactS.t [D.rows (a0.f 6).r, D.int (res r1 0).i]) fun r2 =>
        bif ltI (res r2 0).i 0 then
          some [D.int (-1)]
        else
          Option.bind (wszRevokedS.t [D.rows (a0.f 7).r, D.int (res r2 0).i]) fun r3 =>
            bif ltI (res r3 0).i 0 then
              some [D.int (-1)]
            else
              Option.bind (wszSavedS.t [D.rows (a0.f 9).r, D.int (res r3 0).i]) fun r4 =>
                bif ltI (res r4 0).i 0 then
                  some [D.int (-1)]
                else
                  some [D.int (res r4 0).i]
def wszPoint.t (a : List D) : Option (List D) := wszPoint.b (res a 0) (res a 1)
def wszPointS.l1 (d1 : List D) : LR :=
  bif ltI (arg d1 1).i ((arg d1 2).r.length : Int) then
    bif leI 0 (arg d1 1).i && ltI (arg d1 1).i ((arg d1 2).r.length : Int) then
      Option.bind (wszPoint.t [D.st [D.int (cell (arg d1 2).r (arg d1 1).i.toNat 0).i, D.int (cell (arg d1 2).r (arg d1 1).i.toNat 1).i, D.int (cell (arg d1 2).r (arg d1 1).i.toNat 2).i, D.rows (cell (arg d1 2).r (arg d1 1).i.toNat 3).r, D.int (cell (arg d1 2).r (arg d1 1).i.toNat 4).i, D.rows (cell (arg d1 2).r (arg d1 1).i.toNat 5).r, D.rows (cell (arg d1 2).r (arg d1 1).i.toNat 6).r, D.rows (cell (arg d1 2).r (arg d1 1).i.toNat 7).r, D.int (cell (arg d1 2).r (arg d1 1).i.toNat 8).i, D.rows (cell (arg d1 2).r (arg d1 1).i.toNat 9).r], D.int (arg d1 0).i]) fun r1 =>
        bif ltI (res r1 0).i 0 then
          some (.inr (.inr [D.int (-1)]))
        else
          some (.inl [D.int (res r1 0).i, D.int (w64 ((arg d1 1).i + 1)), D.rows (arg d1 2).r])
    else none
  else
    some (.inr (.inl [D.int (arg d1 0).i]))
def wszPointS.b (a0 a1 : D) : Option (List D) :=
  bif ltI (w64 (a1.i - (a0.r.length : Int))) 0 then
    some [D.int (-1)]
  else
    loop (wszPointS.l1) [D.int (w64 (a1.i - (a0.r.length : Int))), D.int 0, D.rows a0.r] (fun x1 =>
      some [D.int (arg x1 0).i]) fun y1 => some y1
def wszPointS.t (a : List D) : Option (List D) := wszPointS.b (res a 0) (res a 1)
def wszCertS.b (a0 a1 : D) : Option (List D) :=
  bif ltI (w64 (a1.i - (a0.r.length : Int))) 0 then
    some [D.int (-1)]
  else
    some [D.int (w64 (a1.i - (a0.r.length : Int)))]
def wszCertS.t (a : List D) : Option (List D) := wszCertS.b (res a 0) (res a 1)
def wtoRequest.b (a0 : D) : Option (List D) :=
  some [D.st [D.int (a0.f 0).i, D.int (a0.f 1).i, D.int (a0.f 2).i, D.int (a0.f 3).i, D.int (a0.f 4).i, D.int (a0.f 5).i]]
def wtoRequest.t (a : List D) : Option (List D) := wtoRequest.b (res a 0)
def wtoSession.b (a0 : D) : Option (List D) :=
  Option.bind (wtoRequest.t [D.st [D.int (a0.f 3).i, D.int (a0.f 4).i, D.int (a0.f 5).i, D.int (a0.f 6).i, D.int (a0.f 7).i, D.int (a0.f 8).i]]) fun r1 =>
    some [D.st [D.int (a0.f 0).i, D.int (a0.f 1).i, D.int (a0.f 2).i, D.int ((res r1 0).f 0).i, D.int ((res r1 0).f 1).i, D.int ((res r1 0).f 2).i, D.int ((res r1 0).f 3).i, D.int ((res r1 0).f 4).i, D.int ((res r1 0).f 5).i, D.bool (a0.f 9).b]]
def wtoSession.t (a : List D) : Option (List D) := wtoSession.b (res a 0)
def wtoSessionS.l1 (d1 : List D) : LR :=
  bif ltI (arg d1 0).i ((arg d1 1).r.length : Int) then
    bif leI 0 (arg d1 0).i && ltI (arg d1 0).i ((arg d1 1).r.length : Int) then
      Option.bind (wtoSession.t [D.st [D.int (cell (arg d1 1).r (arg d1 0).i.toNat 0).i, D.int (cell (arg d1 1).r (arg d1 0).i.toNat 1).i, D.int (cell (arg d1 1).r (arg d1 0).i.toNat 2).i, D.int (cell (arg d1 1).r (arg d1 0).i.toNat 3).i, D.int (cell (arg d1 1).r (arg d1 0).i.toNat 4).i, D.int (cell (arg d1 1).r (arg d1 0).i.toNat 5).i, D.int (cell (arg d1 1).r (arg d1 0).i.toNat 6).i, D.int (cell (arg d1 1).r (arg d1 0).i.toNat 7).i, D.int (cell (arg d1 1).r (arg d1 0).i.toNat 8).i, D.bool (cell (arg d1 1).r (arg d1 0).i.toNat 9).b]]) fun r1 =>
        bif leI 0 (arg d1 0).i && ltI (arg d1 0).i ((arg d1 2).r.length : Int) then
          some (.inl [D.int (w64 ((arg d1 0).i + 1)), D.rows (arg d1 1).r, D.rows (setCells (arg d1 2).r (arg d1 0).i.toNat 0 [D.int ((res r1 0).f 0).i, D.int ((res r1 0).f 1).i, D.int ((res r1 0).f 2).i, D.int ((res r1 0).f 3).i, D.int ((res r1 0).f 4).i, D.int ((res r1 0).f 5).i, D.int ((res r1 0).f 6).i, D.int ((res r1 0).f 7).i, D.int ((res r1 0).f 8).i, D.bool ((res r1 0).f 9).b])])
        else none
    else none
  else
    some (.inr (.inl [D.rows (arg d1 2).r]))
def wtoSessionS.b (a0 : D) : Option (List D) :=
  bif leI 0 (a0.r.length : Int) && leI (a0.r.length : Int) (a0.r.length : Int) && leI (a0.r.length : Int) 4294967296 then
    loop (wtoSessionS.l1) [D.int 0, D.rows a0.r, D.rows (List.replicate a0.r.length [D.z, D.z, D.z, D.z, D.z, D.z, D.z, D.z, D.z, D.z])] (fun x1 =>
      some [D.rows (arg x1 0).r]) fun y1 => some y1
  else none
def wtoSessionS.t (a : List D) : Option (List D) := wtoSessionS.b (res a 0)
def wtoIncludes.b (a0 : D) : Option (List D) :=
  some [D.st [D.int (a0.f 0).i, D.int (a0.f 1).i]]
def wtoIncludes.t (a : List D) : Option (List D) := wtoIncludes.b (res a 0)
def wtoIncludesS.l1 (d1 : List D) : LR :=
  bif ltI (arg d1 0).i ((arg d1 1).r.length : Int) then
    bif leI 0 (arg d1 0).i && ltI (arg d1 0).i ((arg d1 1).r.length : Int) then
      Option.bind (wtoIncludes.t [D.st [D.int (cell (arg d1 1).r (arg d1 0).i.toNat 0).i, D.int (cell (arg d1 1).r (arg d1 0).i.toNat 1).i]]) fun r1 =>
        bif leI 0 (arg d1 0).i && ltI (arg d1 0).i ((arg d1 2).r.length : Int) then
          some (.inl [D.int (w64 ((arg d1 0).i + 1)), D.rows (arg d1 1).r, D.rows (setCells (arg d1 2).r (arg d1 0).i.toNat 0 [D.int ((res r1 0).f 0).i, D.int ((res r1 0).f 1).i])])
        else none
    else none
  else
    some (.inr (.inl [D.rows (arg d1 2).r]))
def wtoIncludesS.b (a0 : D) : Option (List D) :=
  bif leI 0 (a0.r.length : Int) && leI (a0.r.length : Int) (a0.r.length : Int) && leI (a0.r.length : Int) 4294967296 then
    loop (wtoIncludesS.l1) [D.int 0, D.rows a0.r, D.rows (List.replicate a0.r.length [D.z, D.z])] (fun x1 =>
      some [D.rows (arg x1 0).r]) fun y1 => some y1
  else none
def wtoIncludesS.t (a : List D) : Option (List D) := wtoIncludesS.b (res a 0)
def wtoCondS.l1 (g : GT) (d1 : List D) : LR :=
  bif ltI (arg d1 0).i ((arg d1 1).r.length : Int) then
    bif leI 0 (arg d1 0).i && ltI (arg d1 0).i ((arg d1 1).r.length : Int) then
      Option.bind (g wtoCond.n [D.st [D.int (cell (arg d1 1).r (arg d1 0).i.toNat 0).i, D.int (cell (arg d1 1).r (arg d1 0).i.toNat 1).i, D.int (cell (arg d1 1).r (arg d1 0).i.toNat 2).i, D.rows (cell (arg d1 1).r (arg d1 0).i.toNat 3).r]]) fun r1 =>
        bif leI 0 (arg d1 0).i && ltI (arg d1 0).i ((arg d1 2).r.length : Int) then
          some (.inl [D.int (w64 ((arg d1 0).i + 1)), D.rows (arg d1 1).r, D.rows (setCells (arg d1 2).r (arg d1 0).i.toNat 0 [D.int ((res r1 0).f 0).i, D.int ((res r1 0).f 1).i, D.int ((res r1 0).f 2).i, D.rows ((res r1 0).f 3).r])])
        else none
    else none
  else
    some (.inr (.inl [D.rows (arg d1 2).r]))
def wtoCondS.b (g : GT) (a0 : D) : Option (List D) :=
  bif leI 0 (a0.r.length : Int) && leI (a0.r.length : Int) (a0.r.length : Int) && leI (a0.r.length : Int) 4294967296 then
    loop (wtoCondS.l1 g) [D.int 0, D.rows a0.r, D.rows (List.replicate a0.r.length [D.z, D.z, D.z, D.z])] (fun x1 =>
      some [D.rows (arg x1 0).r]) fun y1 => some y1
  else none
def wtoCond.b (g : GT) (a0 : D) : Option (List D) :=
  Option.bind (g wtoCondS.n [D.rows (a0.f 3).r]) fun r1 =>
    some [D.st [D.int (a0.f 0).i, D.int (a0.f 1).i, D.int (a0.f 2).i, D.rows (res r1 0).r]]
def wtoCondS.F : Nat → GT
  | 0 => fun _ _ => none
  | n + 1 => fun k => look (fun _ => none) [(wtoCondS.n, fun a => wtoCondS.b (wtoCondS.F n) (res a 0)), (wtoCond.n, fun a => wtoCond.b (wtoCondS.F n) (res a 0))] k
def wtoCondS.t (a : List D) : Option (List D) := lim fun n => wtoCondS.F n wtoCondS.n a
def wtoCond.t (a : List D) : Option (List D) := lim fun n => wtoCondS.F n wtoCond.n a
def wtoRule.b (a0 : D) : Option (List D) :=
  Option.bind (wtoCond.t [D.st [D.int (a0.f 3).i, D.int (a0.f 4).i, D.int (a0.f 5).i, D.rows (a0.f 6).r]]) fun r1 =>
    some [D.st [D.int (a0.f 0).i, D.int (a0.f 1).i, D.int (a0.f 2).i, D.int ((res r1 0).f 0).i, D.int ((res r1 0).f 1).i, D.int ((res r1 0).f 2).i, D.rows ((res r1 0).f 3).r]]
def wtoRule.t (a : List D) : Option (List D) := wtoRule.b (res a 0)
def wtoRuleS.l1 (d1 : List D) : LR :=
  bif ltI (arg d1 0).i ((arg d1 1).r.length : Int) then
    bif leI 0 (arg d1 0).i && ltI (arg d1 0).i ((arg d1 1).r.length : Int) then
      Option.bind (wtoRule.t [D.st [D.int (cell (arg d1 1).r (arg d1 0).i.toNat 0).i, D.int (cell (arg d1 1).r (arg d1 0).i.toNat 1).i, D.int (cell (arg d1 1).r (arg d1 0).i.toNat 2).i, D.int (cell (arg d1 1).r (arg d1 0).i.toNat 3).i, D.int (cell (arg d1 1).r (arg d1 0).i.toNat 4).i, D.int (cell (arg d1 1).r (arg d1 0).i.toNat 5).i, D.rows (cell (arg d1 1).r (arg d1 0).i.toNat 6).r]]) fun r1 =>
        bif leI 0 (arg d1 0).i && ltI (arg d1 0).i ((arg d1 2).r.length : Int) then
          some (.inl [D.int (w64 ((arg d1 0).i + 1)), D.rows (arg d1 1).r, D.rows (setCells (arg d1 2).r (arg d1 0).i.toNat 0 [D.int ((res r1 0).f 0).i, D.int ((res r1 0).f 1).i, D.int ((res r1 0).f 2).i, D.int ((res r1 0).f 3).i, D.int ((res r1 0).f 4).i, D.int ((res r1 0).f 5).i, D.rows ((res r1 0).f 6).r])])
        else none
    else none
  else
    some (.inr (.inl [D.rows (arg d1 2).r]))
def wtoRuleS.b (a0 : D) : Option (List D) :=
  bif leI 0 (a0.r.length : Int) && leI (a0.r.length : Int) (a0.r.length : Int) && leI (a0.r.length : Int) 4294967296 then
    loop (wtoRuleS.l1) [D.int 0, D.rows a0.r, D.rows (List.replicate a0.r.length [D.z, D.z, D.z, D.z, D.z, D.z, D.z])] (fun x1 =>
      some [D.rows (arg x1 0).r]) fun y1 => some y1
  else none
def wtoRuleS.t (a : List D) : Option (List D) := wtoRuleS.b (res a 0)
def wtoPolicy.b (a0 : D) : Option (List D) :=
  Option.bind (wtoRuleS.t [D.rows (a0.f 1).r]) fun r1 =>
    some [D.st [D.int (a0.f 0).i, D.rows (res r1 0).r]]
def wtoPolicy.t (a : List D) : Option (List D) := wtoPolicy.b (res a 0)
def wtoEpoch.b (a0 : D) : Option (List D) :=
  Option.bind (wtoIncludesS.t [D.rows (a0.f 2).r]) fun r1 =>
    Option.bind (wtoPolicy.t [D.st [D.int (a0.f 3).i, D.rows (a0.f 4).r]]) fun r2 =>
      some [D.st [D.int (a0.f 0).i, D.int (a0.f 1).i, D.rows (res r1 0).r, D.int ((res r2 0).f 0).i, D.rows ((res r2 0).f 1).r]]
def wtoEpoch.t (a : List D) : Option (List D) := wtoEpoch.b (res a 0)
def wtoFact.b (a0 : D) : Option (List D) :=
  some [D.st [D.int (a0.f 0).i, D.int (a0.f 1).i, D.int (a0.f 2).i, D.int (a0.f 3).i, D.int (a0.f 4).i, D.int (a0.f 5).i]]
def wtoFact.t (a : List D) : Option (List D) := wtoFact.b (res a 0)
def wtoFactS.l1 (d1 : List D) : LR :=
  bif ltI (arg d1 0).i ((arg d1 1).r.length : Int) then
    bif leI 0 (arg d1 0).i && ltI (arg d1 0).i ((arg d1 1).r.length : Int) then
      Option.bind (wtoFact.t [D.st [D.int (cell (arg d1 1).r (arg d1 0).i.toNat 0).i, D.int (cell (arg d1 1).r (arg d1 0).i.toNat 1).i, D.int (cell (arg d1 1).r (arg d1 0).i.toNat 2).i, D.int (cell (arg d1 1).r (arg d1 0).i.toNat 3).i, D.int (cell (arg d1 1).r (arg d1 0).i.toNat 4).i, D.int (cell (arg d1 1).r (arg d1 0).i.toNat 5).i]]) fun r1 =>
        bif leI 0 (arg d1 0).i && ltI (arg d1 0).i ((arg d1 2).r.length : Int) then
          some (.inl [D.int (w64 ((arg d1 0).i + 1)), D.rows (arg d1 1).r, D.rows (setCells (arg d1 2).r (arg d1 0).i.toNat 0 [D.int ((res r1 0).f 0).i, D.int ((res r1 0).f 1).i, D.int ((res r1 0).f 2).i, D.int ((res r1 0).f 3).i, D.int ((res r1 0).f 4).i, D.int ((res r1 0).f 5).i])])
        else none
    else none
  else
    some (.inr (.inl [D.rows (arg d1 2).r]))
def wtoFactS.b (a0 : D) : Option (List D) :=
  bif leI 0 (a0.r.length : Int) && leI (a0.r.length : Int) (a0.r.length : Int) && leI (a0.r.length : Int) 4294967296 then
    loop (wtoFactS.l1) [D.int 0, D.rows a0.r, D.rows (List.replicate a0.r.length [D.z, D.z, D.z, D.z, D.z, D.z])] (fun x1 =>
      some [D.rows (arg x1 0).r]) fun y1 => some y1
  else none
def wtoFactS.t (a : List D) : Option (List D) := wtoFactS.b (res a 0)
def wtoRevoked.b (a0 : D) : Option (List D) :=
  some [D.st [D.int (a0.f 0).i, D.int (a0.f 1).i]]
def wtoRevoked.t (a : List D) : Option (List D) := wtoRevoked.b (res a 0)
def wtoRevokedS.l1 (d1 : List D) : LR :=
  bif ltI (arg d1 0).i ((arg d1 1).r.length : Int) then
    bif leI 0 (arg d1 0).i && ltI (arg d1 0).i ((arg d1 1).r.length : Int) then
      Option.bind (wtoRevoked.t [D.st [D.int (cell (arg d1 1).r (arg d1 0).i.toNat 0).i, D.int (cell (arg d1 1).r (arg d1 0).i.toNat 1).i]]) fun r1 =>
        bif leI 0 (arg d1 0).i && ltI (arg d1 0).i ((arg d1 2).r.length : Int) then
          some (.inl [D.int (w64 ((arg d1 0).i + 1)), D.rows (arg d1 1).r, D.rows (setCells (arg d1 2).r (arg d1 0).i.toNat 0 [D.int ((res r1 0).f 0).i, D.int ((res r1 0).f 1).i])])
        else none
    else none
  else
    some (.inr (.inl [D.rows (arg d1 2).r]))
def wtoRevokedS.b (a0 : D) : Option (List D) :=
  bif leI 0 (a0.r.length : Int) && leI (a0.r.length : Int) (a0.r.length : Int) && leI (a0.r.length : Int) 4294967296 then
    loop (wtoRevokedS.l1) [D.int 0, D.rows a0.r, D.rows (List.replicate a0.r.length [D.z, D.z])] (fun x1 =>
      some [D.rows (arg x1 0).r]) fun y1 => some y1
  else none
def wtoRevokedS.t (a : List D) : Option (List D) := wtoRevokedS.b (res a 0)
def wtoSaved.b (a0 : D) : Option (List D) :=
  Option.bind (wtoRequest.t [D.st [D.int (a0.f 0).i, D.int (a0.f 1).i, D.int (a0.f 2).i, D.int (a0.f 3).i, D.int (a0.f 4).i, D.int (a0.f 5).i]]) fun r1 =>
    some [D.st [D.int ((res r1 0).f 0).i, D.int ((res r1 0).f 1).i, D.int ((res r1 0).f 2).i, D.int ((res r1 0).f 3).i, D.int ((res r1 0).f 4).i, D.int ((res r1 0).f 5).i, D.int (a0.f 6).i, D.int (a0.f 7).i]]
def wtoSaved.t (a : List D) : Option (List D) := wtoSaved.b (res a 0)
def wtoSavedS.l1 (d1 : List D) : LR :=
  bif ltI (arg d1 0).i ((arg d1 1).r.length : Int) then
    bif leI 0 (arg d1 0).i && ltI (arg d1 0).i ((arg d1 1).r.length : Int) then
      Option.bind (wtoSaved.t [D.st [D.int (cell (arg d1 1).r (arg d1 0).i.toNat 0).i, D.int (cell (arg d1 1).r (arg d1 0).i.toNat 1).i, D.int (cell (arg d1 1).r (arg d1 0).i.toNat 2).i, D.int (cell (arg d1 1).r (arg d1 0).i.toNat 3).i, D.int (cell (arg d1 1).r (arg d1 0).i.toNat 4).i, D.int (cell (arg d1 1).r (arg d1 0).i.toNat 5).i, D.int (cell (arg d1 1).r (arg d1 0).i.toNat 6).i, D.int (cell (arg d1 1).r (arg d1 0).i.toNat 7).i]]) fun r1 =>
        bif leI 0 (arg d1 0).i && ltI (arg d1 0).i ((arg d1 2).r.length : Int) then
          some (.inl [D.int (w64 ((arg d1 0).i + 1)), D.rows (arg d1 1).r, D.rows (setCells (arg d1 2).r (arg d1 0).i.toNat 0 [D.int ((res r1 0).f 0).i, D.int ((res r1 0).f 1).i, D.int ((res r1 0).f 2).i, D.int ((res r1 0).f 3).i, D.int ((res r1 0).f 4).i, D.int ((res r1 0).f 5).i, D.int ((res r1 0).f 6).i, D.int ((res r1 0).f 7).i])])
        else none
    else none
  else
    some (.inr (.inl [D.rows (arg d1 2).r]))
def wtoSavedS.b (a0 : D) : Option (List D) :=
  bif leI 0 (a0.r.length : Int) && leI (a0.r.length : Int) (a0.r.length : Int) && leI (a0.r.length : Int) 4294967296 then
    loop (wtoSavedS.l1) [D.int 0, D.rows a0.r, D.rows (List.replicate a0.r.length [D.z, D.z, D.z, D.z, D.z, D.z, D.z, D.z])] (fun x1 =>
      some [D.rows (arg x1 0).r]) fun y1 => some y1
  else none
def wtoSavedS.t (a : List D) : Option (List D) := wtoSavedS.b (res a 0)
def wtoPoint.b (a0 : D) : Option (List D) :=
  Option.bind (wtoEpoch.t [D.st [D.int (a0.f 1).i, D.int (a0.f 2).i, D.rows (a0.f 3).r, D.int (a0.f 4).i, D.rows (a0.f 5).r]]) fun r1 =>
    Option.bind (wtoFactS.t [D.rows (a0.f 6).r]) fun r2 =>
      Option.bind (wtoRevokedS.t [D.rows (a0.f 7).r]) fun r3 =>
        Option.bind (wtoSavedS.t [D.rows (a0.f 9).r]) fun r4 =>
          some [D.st [D.int (a0.f 0).i, D.int ((res r1 0).f 0).i, D.int ((res r1 0).f 1).i, D.rows ((res r1 0).f 2).r, D.int ((res r1 0).f 3).i, D.rows ((res r1 0).f 4).r, D.rows (res r2 0).r, D.rows (res r3 0).r, D.int (a0.f 8).i, D.rows (res r4 0).r]]
def wtoPoint.t (a : List D) : Option (List D) := wtoPoint.b (res a 0)
def wtoPointS.l1 (d1 : List D) : LR :=
  bif ltI (arg d1 0).i ((arg d1 1).r.length : Int) then
    bif leI 0 (arg d1 0).i && ltI (arg d1 0).i ((arg d1 1).r.length : Int) then
      Option.bind (wtoPoint.t [D.st [D.int (cell (arg d1 1).r (arg d1 0).i.toNat 0).i, D.int (cell (arg d1 1).r (arg d1 0).i.toNat 1).i, D.int (cell (arg d1 1).r (arg d1 0).i.toNat 2).i, D.rows (cell (arg d1 1).r (arg d1 0).i.toNat 3).r, D.int (cell (arg d1 1).r (arg d1 0).i.toNat 4).i, D.rows (cell (arg d1 1).r (arg d1 0).i.toNat 5).r, D.rows (cell (arg d1 1).r (arg d1 0).i.toNat 6).r, D.rows (cell (arg d1 1).r (arg d1 0).i.toNat 7).r, D.int (cell (arg d1 1).r (arg d1 0).i.toNat 8).i, D.rows (cell (arg d1 1).r (arg d1 0).i.toNat 9).r]]) fun r1 =>
        bif leI 0 (arg d1 0).i && ltI (arg d1 0).i ((arg d1 2).r.length : Int) then
          some (.inl [D.int (w64 ((arg d1 0).i + 1)), D.rows (arg d1 1).r, D.rows (setCells (arg d1 2).r (arg d1 0).i.toNat 0 [D.int ((res r1 0).f 0).i, D.int ((res r1 0).f 1).i, D.int ((res r1 0).f 2).i, D.rows ((res r1 0).f 3).r, D.int ((res r1 0).f 4).i, D.rows ((res r1 0).f 5).r, D.rows ((res r1 0).f 6).r, D.rows ((res r1 0).f 7).r, D.int ((res r1 0).f 8).i, D.rows ((res r1 0).f 9).r])])
        else none
    else none
  else
    some (.inr (.inl [D.rows (arg d1 2).r]))
def wtoPointS.b (a0 : D) : Option (List D) :=
  bif leI 0 (a0.r.length : Int) && leI (a0.r.length : Int) (a0.r.length : Int) && leI (a0.r.length : Int) 4294967296 then
    loop (wtoPointS.l1) [D.int 0, D.rows a0.r, D.rows (List.replicate a0.r.length [D.z, D.z, D.z, D.z, D.z, D.z, D.z, D.z, D.z, D.z])] (fun x1 =>
      some [D.rows (arg x1 0).r]) fun y1 => some y1
  else none
def wtoPointS.t (a : List D) : Option (List D) := wtoPointS.b (res a 0)
def wtoCert.b (a0 : D) : Option (List D) :=
  some [D.st [D.int (a0.f 0).i, D.int (a0.f 1).i, D.int (a0.f 2).i, D.int (a0.f 3).i, D.int (a0.f 4).i, D.int (a0.f 5).i]]
def wtoCert.t (a : List D) : Option (List D) := wtoCert.b (res a 0)
def wtoCertS.l1 (d1 : List D) : LR :=
  bif ltI (arg d1 0).i ((arg d1 1).r.length : Int) then
    bif leI 0 (arg d1 0).i && ltI (arg d1 0).i ((arg d1 1).r.length : Int) then
      Option.bind (wtoCert.t [D.st [D.int (cell (arg d1 1).r (arg d1 0).i.toNat 0).i, D.int (cell (arg d1 1).r (arg d1 0).i.toNat 1).i, D.int (cell (arg d1 1).r (arg d1 0).i.toNat 2).i, D.int (cell (arg d1 1).r (arg d1 0).i.toNat 3).i, D.int (cell (arg d1 1).r (arg d1 0).i.toNat 4).i, D.int (cell (arg d1 1).r (arg d1 0).i.toNat 5).i]]) fun r1 =>
        bif leI 0 (arg d1 0).i && ltI (arg d1 0).i ((arg d1 2).r.length : Int) then
          some (.inl [D.int (w64 ((arg d1 0).i + 1)), D.rows (arg d1 1).r, D.rows (setCells (arg d1 2).r (arg d1 0).i.toNat 0 [D.int ((res r1 0).f 0).i, D.int ((res r1 0).f 1).i, D.int ((res r1 0).f 2).i, D.int ((res r1 0).f 3).i, D.int ((res r1 0).f 4).i, D.int ((res r1 0).f 5).i])])
        else none
    else none
  else
    some (.inr (.inl [D.rows (arg d1 2).r]))
def wtoCertS.b (a0 : D) : Option (List D) :=
  bif leI 0 (a0.r.length : Int) && leI (a0.r.length : Int) (a0.r.length : Int) && leI (a0.r.length : Int) 4294967296 then
    loop (wtoCertS.l1) [D.int 0, D.rows a0.r, D.rows (List.replicate a0.r.length [D.z, D.z, D.z, D.z, D.z, D.z])] (fun x1 =>
      some [D.rows (arg x1 0).r]) fun y1 => some y1
  else none
def wtoCertS.t (a : List D) : Option (List D) := wtoCertS.b (res a 0)
def sl35Point.l1 (d1 : List D) : LR :=
  bif ltI (arg d1 1).i ((arg d1 2).r.length : Int) then
    bif leI 0 (arg d1 1).i && ltI (arg d1 1).i ((arg d1 2).r.length : Int) then
      bif ((cell (arg d1 2).r (arg d1 1).i.toNat 0).i == (arg d1 0).i) then
        some (.inr (.inr [D.int (arg d1 1).i]))
      else
        some (.inl [D.int (arg d1 0).i, D.int (w64 ((arg d1 1).i + 1)), D.rows (arg d1 2).r])
    else none
  else
    some (.inr (.inl []))
def sl35Point.b (a0 a1 : D) : Option (List D) :=
  loop (sl35Point.l1) [D.int a1.i, D.int 0, D.rows a0.r] (fun x1 =>
    some [D.int (-1)]) fun y1 => some y1
def sl35Point.t (a : List D) : Option (List D) := sl35Point.b (res a 0) (res a 1)
def sl35Cert.l1 (d1 : List D) : LR :=
  bif ltI (arg d1 1).i ((arg d1 2).r.length : Int) then
    bif leI 0 (arg d1 1).i && ltI (arg d1 1).i ((arg d1 2).r.length : Int) then
      bif ((cell (arg d1 2).r (arg d1 1).i.toNat 0).i == (arg d1 0).i) then
        some (.inr (.inr [D.int (arg d1 1).i]))
      else
        some (.inl [D.int (arg d1 0).i, D.int (w64 ((arg d1 1).i + 1)), D.rows (arg d1 2).r])
    else none
  else
    some (.inr (.inl []))
def sl35Cert.b (a0 a1 : D) : Option (List D) :=
  loop (sl35Cert.l1) [D.int a1.i, D.int 0, D.rows a0.r] (fun x1 =>
    some [D.int (-1)]) fun y1 => some y1
def sl35Cert.t (a : List D) : Option (List D) := sl35Cert.b (res a 0) (res a 1)
def sAtTime.b (a0 a1 : D) : Option (List D) :=
  some [D.st [D.int (a0.f 0).i, D.int (a0.f 1).i, D.int (a0.f 2).i, D.int (a0.f 3).i, D.int (a0.f 4).i, D.int a1.i]]
def sAtTime.t (a : List D) : Option (List D) := sAtTime.b (res a 0) (res a 1)
def sl15Copy.l1 (g : GT) (d1 : List D) : LR :=
  bif ltI (arg d1 0).i ((arg d1 10).r.length : Int) then
    bif leI 0 (arg d1 0).i && ltI (arg d1 0).i ((arg d1 10).r.length : Int) then
      Option.bind (g sl15Copy.n [D.st [D.int (cell (arg d1 10).r (arg d1 0).i.toNat 0).i, D.int (cell (arg d1 10).r (arg d1 0).i.toNat 1).i, D.int (cell (arg d1 10).r (arg d1 0).i.toNat 2).i, D.rows (cell (arg d1 10).r (arg d1 0).i.toNat 3).r]]) fun r1 =>
        bif leN ((arg d1 11).r.length + [[D.int ((res r1 0).f 0).i, D.int ((res r1 0).f 1).i, D.int ((res r1 0).f 2).i, D.rows ((res r1 0).f 3).r]].length) 4294967296 then
          some (.inl [D.int (w64 ((arg d1 0).i + 1)), D.int (arg d1 1).i, D.int (arg d1 2).i, D.int (arg d1 3).i, D.int (arg d1 4).i, D.int (arg d1 5).i, D.int (arg d1 6).i, D.int (arg d1 7).i, D.int (arg d1 8).i, D.int (arg d1 9).i, D.rows (arg d1 10).r, D.rows ((arg d1 11).r ++ [[D.int ((res r1 0).f 0).i, D.int ((res r1 0).f 1).i, D.int ((res r1 0).f 2).i, D.rows ((res r1 0).f 3).r]])])
        else none
    else none
  else
    some (.inr (.inl [D.int (arg d1 4).i, D.int (arg d1 5).i, D.int (arg d1 6).i, D.int (arg d1 7).i, D.int (arg d1 8).i, D.int (arg d1 9).i, D.rows (arg d1 11).r]))
def sl15Copy.b (g : GT) (a0 : D) : Option (List D) :=
  loop (sl15Copy.l1 g) [D.int 0, D.int (a0.f 0).i, D.int (a0.f 1).i, D.int (a0.f 2).i, D.int 0, D.int 0, D.int 0, D.int (a0.f 0).i, D.int (a0.f 1).i, D.int (a0.f 2).i, D.rows (a0.f 3).r, D.rows []] (fun x1 =>
    some [D.st [D.int (arg x1 3).i, D.int (arg x1 4).i, D.int (arg x1 5).i, D.rows (arg x1 6).r]]) fun y1 => some y1
def sl15Copy.F : Nat → GT
  | 0 => fun _ _ => none
  | n + 1 => fun k => look (fun _ => none) [(sl15Copy.n, fun a => sl15Copy.b (sl15Copy.F n) (res a 0))] k
def sl15Copy.t (a : List D) : Option (List D) := lim fun n => sl15Copy.F n sl15Copy.n a
def sl19Copy.l1 (d1 : List D) : LR :=
  bif ltI (arg d1 0).i ((arg d1 4).r.length : Int) then
    bif leI 0 (arg d1 0).i && ltI (arg d1 0).i ((arg d1 4).r.length : Int) then
      bif leI 0 (arg d1 0).i && ltI (arg d1 0).i ((arg d1 4).r.length : Int) then
        Option.bind (sl15Copy.t [D.st [D.int (cell (arg d1 4).r (arg d1 0).i.toNat 3).i, D.int (cell (arg d1 4).r (arg d1 0).i.toNat 4).i, D.int (cell (arg d1 4).r (arg d1 0).i.toNat 5).i, D.rows (cell (arg d1 4).r (arg d1 0).i.toNat 6).r]]) fun r1 =>
          bif leN ((arg d1 5).r.length + [[D.int (cell (arg d1 4).r (arg d1 0).i.toNat 0).i, D.int (cell (arg d1 4).r (arg d1 0).i.toNat 1).i, D.int (cell (arg d1 4).r (arg d1 0).i.toNat 2).i, D.int ((res r1 0).f 0).i, D.int ((res r1 0).f 1).i, D.int ((res r1 0).f 2).i, D.rows ((res r1 0).f 3).r]].length) 4294967296 then
            some (.inl [D.int (w64 ((arg d1 0).i + 1)), D.int (arg d1 1).i, D.int (arg d1 2).i, D.int (arg d1 3).i, D.rows (arg d1 4).r, D.rows ((arg d1 5).r ++ [[D.int (cell (arg d1 4).r (arg d1 0).i.toNat 0).i, D.int (cell (arg d1 4).r (arg d1 0).i.toNat 1).i, D.int (cell (arg d1 4).r (arg d1 0).i.toNat 2).i, D.int ((res r1 0).f 0).i, D.int ((res r1 0).f 1).i, D.int ((res r1 0).f 2).i, D.rows ((res r1 0).f 3).r]])])
          else none
      else none
    else none
  else
    some (.inr (.inl [D.int (arg d1 2).i, D.int (arg d1 3).i, D.rows (arg d1 5).r]))
def sl19Copy.b (a0 : D) : Option (List D) :=
  loop (sl19Copy.l1) [D.int 0, D.int (a0.f 0).i, D.int 0, D.int (a0.f 0).i, D.rows (a0.f 1).r, D.rows []] (fun x1 =>
    some [D.st [D.int (arg x1 1).i, D.rows (arg x1 2).r]]) fun y1 => some y1
def sl19Copy.t (a : List D) : Option (List D) := sl19Copy.b (res a 0)
def sl24Copy.b (a0 : D) : Option (List D) :=
  bif leN (N0.length + (a0.f 2).r.length) 4294967296 then
    Option.bind (sl19Copy.t [D.st [D.int (a0.f 3).i, D.rows (a0.f 4).r]]) fun r1 =>
      some [D.st [D.int (a0.f 0).i, D.int (a0.f 1).i, D.rows (N0 ++ (a0.f 2).r), D.int ((res r1 0).f 0).i, D.rows ((res r1 0).f 1).r]]
  else none
def sl24Copy.t (a : List D) : Option (List D) := sl24Copy.b (res a 0)
def sl7Copy.b (a0 : D) : Option (List D) :=
  bif leN (N0.length + a0.r.length) 4294967296 then
    some [D.rows (N0 ++ a0.r)]
  else none
def sl7Copy.t (a : List D) : Option (List D) := sl7Copy.b (res a 0)
def sl27Copy.b (a0 : D) : Option (List D) :=
  Option.bind (sl24Copy.t [D.st [D.int (a0.f 1).i, D.int (a0.f 2).i, D.rows (a0.f 3).r, D.int (a0.f 4).i, D.rows (a0.f 5).r]]) fun r1 =>
    Option.bind (sl7Copy.t [D.rows (a0.f 6).r]) fun r2 =>
      bif leN (N0.length + (a0.f 7).r.length) 4294967296 then
        bif leN (N0.length + (a0.f 9).r.length) 4294967296 then
          some [D.st [D.int (a0.f 0).i, D.int ((res r1 0).f 0).i, D.int ((res r1 0).f 1).i, D.rows ((res r1 0).f 2).r, D.int ((res r1 0).f 3).i, D.rows ((res r1 0).f 4).r, D.rows (res r2 0).r, D.rows (N0 ++ (a0.f 7).r), D.int (a0.f 8).i, D.rows (N0 ++ (a0.f 9).r)]]
        else none
      else none
def sl27Copy.t (a : List D) : Option (List D) := sl27Copy.b (res a 0)
def sl1In.b (a0 a1 a2 : D) : Option (List D) :=
  bif geI a0.i a1.i then
    some [D.bool (leI a0.i a2.i)]
  else
    some [D.bool false]
def sl1In.t (a : List D) : Option (List D) := sl1In.b (res a 0) (res a 1) (res a 2)
def sIsName.b (a0 : D) : Option (List D) :=
  Option.bind (sl1In.t [D.int a0.i, D.int 10, D.int 49]) fun r1 =>
    some [D.bool (res r1 0).b]
def sIsName.t (a : List D) : Option (List D) := sIsName.b (res a 0)
def sHasKind.b (a0 a1 : D) : Option (List D) :=
  Option.bind (sIsName.t [D.int a0.i]) fun r1 =>
    bif (res r1 0).b then
      some [D.bool (w64 (a0.i.tdiv 10) == a1.i)]
    else
      some [D.bool false]
def sHasKind.t (a : List D) : Option (List D) := sHasKind.b (res a 0) (res a 1)
def sIsTime.b (a0 : D) : Option (List D) :=
  Option.bind (sl1In.t [D.int a0.i, D.int 0, D.int 10000]) fun r1 =>
    some [D.bool (res r1 0).b]
def sIsTime.t (a : List D) : Option (List D) := sIsTime.b (res a 0)
def sIsRequest.b (a0 : D) : Option (List D) :=
  Option.bind (sHasKind.t [D.int (a0.f 0).i, D.int 1]) fun r1 =>
    bif (res r1 0).b then
      Option.bind (sHasKind.t [D.int (a0.f 1).i, D.int 2]) fun r2 =>
        bif (res r2 0).b then
          Option.bind (sHasKind.t [D.int (a0.f 2).i, D.int 3]) fun r3 =>
            bif (res r3 0).b then
              Option.bind (sHasKind.t [D.int (a0.f 4).i, D.int 4]) fun r4 =>
                bif (res r4 0).b then
                  Option.bind (sl1In.t [D.int (a0.f 3).i, D.int 0, D.int 5]) fun r5 =>
                    bif (res r5 0).b then
                      Option.bind (sIsTime.t [D.int (a0.f 5).i]) fun r6 =>
                        some [D.bool (res r6 0).b]
                    else
                      some [D.bool false]
                else
                  some [D.bool false]
            else
              some [D.bool false]
        else
          some [D.bool false]
    else
      some [D.bool false]
def sIsRequest.t (a : List D) : Option (List D) := sIsRequest.b (res a 0)
def sIsValidKey.b (a0 : D) : Option (List D) :=
  Option.bind (sl1In.t [D.int a0.i, D.int 1, D.int 2147483646]) fun r1 =>
    some [D.bool (res r1 0).b]
def sIsValidKey.t (a : List D) : Option (List D) := sIsValidKey.b (res a 0)
def sIsCert.b (a0 : D) : Option (List D) :=
  Option.bind (sl1In.t [D.int (a0.f 0).i, D.int 1, D.int 9999]) fun r1 =>
    bif (res r1 0).b then
      Option.bind (sIsName.t [D.int (a0.f 1).i]) fun r2 =>
        bif (res r2 0).b then
          Option.bind (sIsValidKey.t [D.int (a0.f 2).i]) fun r3 =>
            bif (res r3 0).b then
              Option.bind (sIsTime.t [D.int (a0.f 3).i]) fun r4 =>
                bif (res r4 0).b then
                  Option.bind (sIsTime.t [D.int (a0.f 4).i]) fun r5 =>
                    bif (res r5 0).b then
                      bif leI (a0.f 3).i (a0.f 4).i then
                        some [D.bool (leI (w64 ((a0.f 4).i - (a0.f 3).i)) 50)]
                      else
                        some [D.bool false]
                    else
                      some [D.bool false]
                else
                  some [D.bool false]
            else
              some [D.bool false]
        else
          some [D.bool false]
    else
      some [D.bool false]
def sIsCert.t (a : List D) : Option (List D) := sIsCert.b (res a 0)
def sIsWithin.b (a0 a1 a2 : D) : Option (List D) :=
  Option.bind (sIsTime.t [D.int a0.i]) fun r1 =>
    bif (res r1 0).b then
      Option.bind (sIsTime.t [D.int a1.i]) fun r2 =>
        bif (res r2 0).b then
          Option.bind (sIsTime.t [D.int a2.i]) fun r3 =>
            bif (res r3 0).b then
              bif leI a0.i a2.i then
                some [D.bool (leI a2.i a1.i)]
              else
                some [D.bool false]
            else
              some [D.bool false]
        else
          some [D.bool false]
    else
      some [D.bool false]
def sIsWithin.t (a : List D) : Option (List D) := sIsWithin.b (res a 0) (res a 1) (res a 2)
def sMod.b (a0 a1 : D) : Option (List D) :=
  Option.bind (sl1In.t [D.int a1.i, D.int 1, D.int 1000000000000]) fun r1 =>
    bif !(res r1 0).b then
      some [D.int 0]
    else
      bif !(eqI a1.i 0) then
        bif !(eqI a1.i 0) then
          some [D.int ((w64 ((a0.i.tmod a1.i) + a1.i)).tmod a1.i)]
        else none
      else none
def sMod.t (a : List D) : Option (List D) := sMod.b (res a 0) (res a 1)
def sHash.l1 (d1 : List D) : LR :=
  bif ltI (arg d1 1).i ((arg d1 2).r.length : Int) then
    bif leI 0 (arg d1 1).i && ltI (arg d1 1).i ((arg d1 2).r.length : Int) then
      Option.bind (sMod.t [D.int (cell (arg d1 2).r (arg d1 1).i.toNat 0).i, D.int 2147483647]) fun r1 =>
        some (.inl [D.int ((w64 ((w64 ((w64 ((arg d1 0).i * 1000003)) + (res r1 0).i)) + 13)).tmod 2147483647), D.int (w64 ((arg d1 1).i + 1)), D.rows (arg d1 2).r])
    else none
  else
    some (.inr (.inl [D.int (arg d1 0).i]))
def sHash.b (a0 : D) : Option (List D) :=
  loop (sHash.l1) [D.int 11, D.int 0, D.rows a0.r] (fun x1 =>
    some [D.int (arg x1 0).i]) fun y1 => some y1
def sHash.t (a : List D) : Option (List D) := sHash.b (res a 0)
def sKeyedHash.b (a0 a1 : D) : Option (List D) :=
  bif leN ([[D.int a0.i]].length + a1.r.length) 4294967296 then
    bif leN (([[D.int a0.i]] ++ a1.r).length + [[D.int a0.i]].length) 4294967296 then
      Option.bind (sHash.t [D.rows (([[D.int a0.i]] ++ a1.r) ++ [[D.int a0.i]])]) fun r1 =>
        some [D.int (res r1 0).i]
    else none
  else none
def sKeyedHash.t (a : List D) : Option (List D) := sKeyedHash.b (res a 0) (res a 1)
def sMarkCert.b (a0 a1 : D) : Option (List D) :=
  Option.bind (sKeyedHash.t [D.int a0.i, D.rows [[D.int (a1.f 0).i], [D.int (a1.f 1).i], [D.int (a1.f 2).i], [D.int (a1.f 3).i], [D.int (a1.f 4).i]]]) fun r1 =>
    some [D.st [D.int (a1.f 0).i, D.int (a1.f 1).i, D.int (a1.f 2).i, D.int (a1.f 3).i, D.int (a1.f 4).i, D.int (res r1 0).i]]
def sMarkCert.t (a : List D) : Option (List D) := sMarkCert.b (res a 0) (res a 1)
def sCheckCert.b (a0 a1 a2 : D) : Option (List D) :=
  Option.bind (sIsCert.t [D.st [D.int (a1.f 0).i, D.int (a1.f 1).i, D.int (a1.f 2).i, D.int (a1.f 3).i, D.int (a1.f 4).i, D.int (a1.f 5).i]]) fun r1 =>
    bif (res r1 0).b then
      Option.bind (sIsWithin.t [D.int (a1.f 3).i, D.int (a1.f 4).i, D.int a2.i]) fun r2 =>
        bif (res r2 0).b then
          Option.bind (sMarkCert.t [D.int a0.i, D.st [D.int (a1.f 0).i, D.int (a1.f 1).i, D.int (a1.f 2).i, D.int (a1.f 3).i, D.int (a1.f 4).i, D.int (a1.f 5).i]]) fun r3 =>
            some [D.bool ((((res r3 0).f 0).i == (a1.f 0).i) && ((((res r3 0).f 1).i == (a1.f 1).i) && ((((res r3 0).f 2).i == (a1.f 2).i) && ((((res r3 0).f 3).i == (a1.f 3).i) && ((((res r3 0).f 4).i == (a1.f 4).i) && ((((res r3 0).f 5).i == (a1.f 5).i) && true))))))]
        else
          some [D.bool false]
    else
      some [D.bool false]
def sCheckCert.t (a : List D) : Option (List D) := sCheckCert.b (res a 0) (res a 1) (res a 2)
def sAgeOf.b (a0 a1 : D) : Option (List D) :=
  Option.bind (sIsTime.t [D.int a0.i]) fun r1 =>
    bif !(res r1 0).b then
      some [D.int (-1)]
    else
      Option.bind (sIsTime.t [D.int a1.i]) fun r2 =>
        bif !(res r2 0).b then
          some [D.int (-1)]
        else
          bif gtI a0.i a1.i then
            some [D.int (-1)]
          else
            some [D.int (w64 (a1.i - a0.i))]
def sAgeOf.t (a : List D) : Option (List D) := sAgeOf.b (res a 0) (res a 1)
def sIsFresh.b (a0 a1 a2 : D) : Option (List D) :=
  Option.bind (sAgeOf.t [D.int a0.i, D.int a1.i]) fun r1 =>
    bif geI (res r1 0).i 0 then
      some [D.bool (leI (res r1 0).i a2.i)]
    else
      some [D.bool false]
def sIsFresh.t (a : List D) : Option (List D) := sIsFresh.b (res a 0) (res a 1) (res a 2)
def sIsCurrent.b (a0 a1 : D) : Option (List D) :=
  Option.bind (sIsFresh.t [D.int (a0.f 8).i, D.int a1.i, D.int 10]) fun r1 =>
    some [D.bool (res r1 0).b]
def sIsCurrent.t (a : List D) : Option (List D) := sIsCurrent.b (res a 0) (res a 1)
def sRevokedAt.l1 (d1 : List D) : LR :=
  bif ltI (arg d1 1).i ((arg d1 2).r.length : Int) then
    bif leI 0 (arg d1 1).i && ltI (arg d1 1).i ((arg d1 2).r.length : Int) then
      bif ((cell (arg d1 2).r (arg d1 1).i.toNat 0).i == (arg d1 0).i) then
        bif leI 0 (arg d1 1).i && ltI (arg d1 1).i ((arg d1 2).r.length : Int) then
          some (.inr (.inr [D.int (cell (arg d1 2).r (arg d1 1).i.toNat 1).i]))
        else none
      else
        some (.inl [D.int (arg d1 0).i, D.int (w64 ((arg d1 1).i + 1)), D.rows (arg d1 2).r])
    else none
  else
    some (.inr (.inl []))
def sRevokedAt.b (a0 a1 : D) : Option (List D) :=
  loop (sRevokedAt.l1) [D.int a1.i, D.int 0, D.rows a0.r] (fun x1 =>
    some [D.int (-1)]) fun y1 => some y1
def sRevokedAt.t (a : List D) : Option (List D) := sRevokedAt.b (res a 0) (res a 1)
def sIsRevoked.b (a0 a1 a2 : D) : Option (List D) :=
  Option.bind (sRevokedAt.t [D.rows a0.r, D.int a1.i]) fun r1 =>
    bif geI (res r1 0).i 0 then
      some [D.bool (leI (res r1 0).i a2.i)]
    else
      some [D.bool false]
def sIsRevoked.t (a : List D) : Option (List D) := sIsRevoked.b (res a 0) (res a 1) (res a 2)
def sSameQuestion.b (a0 a1 : D) : Option (List D) :=
  Option.bind (sAtTime.t [D.st [D.int (a0.f 0).i, D.int (a0.f 1).i, D.int (a0.f 2).i, D.int (a0.f 3).i, D.int (a0.f 4).i, D.int (a0.f 5).i], D.int 0]) fun r1 =>
    Option.bind (sAtTime.t [D.st [D.int (a1.f 0).i, D.int (a1.f 1).i, D.int (a1.f 2).i, D.int (a1.f 3).i, D.int (a1.f 4).i, D.int (a1.f 5).i], D.int 0]) fun r2 =>
      some [D.bool ((((res r1 0).f 0).i == ((res r2 0).f 0).i) && ((((res r1 0).f 1).i == ((res r2 0).f 1).i) && ((((res r1 0).f 2).i == ((res r2 0).f 2).i) && ((((res r1 0).f 3).i == ((res r2 0).f 3).i) && ((((res r1 0).f 4).i == ((res r2 0).f 4).i) && ((((res r1 0).f 5).i == ((res r2 0).f 5).i) && true))))))]
def sSameQuestion.t (a : List D) : Option (List D) := sSameQuestion.b (res a 0) (res a 1)
def sFindSaved.l1 (d1 : List D) : LR :=
  bif ltI (arg d1 0).i ((arg d1 1).r.length : Int) then
    bif leI 0 (arg d1 0).i && ltI (arg d1 0).i ((arg d1 1).r.length : Int) then
      Option.bind (sSameQuestion.t [D.st [D.int (cell (arg d1 1).r (arg d1 0).i.toNat 0).i, D.int (cell (arg d1 1).r (arg d1 0).i.toNat 1).i, D.int (cell (arg d1 1).r (arg d1 0).i.toNat 2).i, D.int (cell (arg d1 1).r (arg d1 0).i.toNat 3).i, D.int (cell (arg d1 1).r (arg d1 0).i.toNat 4).i, D.int (cell (arg d1 1).r (arg d1 0).i.toNat 5).i], D.st [D.int (arg d1 2).i, D.int (arg d1 3).i, D.int (arg d1 4).i, D.int (arg d1 5).i, D.int (arg d1 6).i, D.int (arg d1 7).i]]) fun r1 =>
        bif (res r1 0).b then
          bif leI 0 (arg d1 0).i && ltI (arg d1 0).i ((arg d1 1).r.length : Int) then
            bif leI (cell (arg d1 1).r (arg d1 0).i.toNat 5).i (arg d1 7).i then
              bif leI 0 (arg d1 0).i && ltI (arg d1 0).i ((arg d1 1).r.length : Int) then
                bif leI (arg d1 7).i (cell (arg d1 1).r (arg d1 0).i.toNat 7).i then
                  some (.inr (.inr [D.int (arg d1 0).i]))
                else
                  some (.inl [D.int (w64 ((arg d1 0).i + 1)), D.rows (arg d1 1).r, D.int (arg d1 2).i, D.int (arg d1 3).i, D.int (arg d1 4).i, D.int (arg d1 5).i, D.int (arg d1 6).i, D.int (arg d1 7).i])
              else none
            else
              some (.inl [D.int (w64 ((arg d1 0).i + 1)), D.rows (arg d1 1).r, D.int (arg d1 2).i, D.int (arg d1 3).i, D.int (arg d1 4).i, D.int (arg d1 5).i, D.int (arg d1 6).i, D.int (arg d1 7).i])
          else none
        else
          some (.inl [D.int (w64 ((arg d1 0).i + 1)), D.rows (arg d1 1).r, D.int (arg d1 2).i, D.int (arg d1 3).i, D.int (arg d1 4).i, D.int (arg d1 5).i, D.int (arg d1 6).i, D.int (arg d1 7).i])
    else none
  else
    some (.inr (.inl []))
def sFindSaved.b (a0 a1 : D) : Option (List D) :=
  loop (sFindSaved.l1) [D.int 0, D.rows a0.r, D.int (a1.f 0).i, D.int (a1.f 1).i, D.int (a1.f 2).i, D.int (a1.f 3).i, D.int (a1.f 4).i, D.int (a1.f 5).i] (fun x1 =>
    some [D.int (-1)]) fun y1 => some y1
def sFindSaved.t (a : List D) : Option (List D) := sFindSaved.b (res a 0) (res a 1)
def sl15Left.l1 (g : GT) (d1 : List D) : LR :=
  bif ltI (arg d1 1).i ((arg d1 5).r.length : Int) then
    bif geI (arg d1 0).i 0 then
      bif leI 0 (arg d1 1).i && ltI (arg d1 1).i ((arg d1 5).r.length : Int) then
        Option.bind (g sl15Left.n [D.st [D.int (cell (arg d1 5).r (arg d1 1).i.toNat 0).i, D.int (cell (arg d1 5).r (arg d1 1).i.toNat 1).i, D.int (cell (arg d1 5).r (arg d1 1).i.toNat 2).i, D.rows (cell (arg d1 5).r (arg d1 1).i.toNat 3).r], D.int (arg d1 0).i]) fun r1 =>
          some (.inl [D.int (res r1 0).i, D.int (w64 ((arg d1 1).i + 1)), D.int (arg d1 2).i, D.int (arg d1 3).i, D.int (arg d1 4).i, D.rows (arg d1 5).r])
      else none
    else
      some (.inr (.inl [D.int (arg d1 0).i]))
  else
    some (.inr (.inl [D.int (arg d1 0).i]))
def sl15Left.b (g : GT) (a0 a1 : D) : Option (List D) :=
  loop (sl15Left.l1 g) [D.int (w64 (a1.i - 1)), D.int 0, D.int (a0.f 0).i, D.int (a0.f 1).i, D.int (a0.f 2).i, D.rows (a0.f 3).r] (fun x1 =>
    some [D.int (arg x1 0).i]) fun y1 => some y1
def sl15Left.F : Nat → GT
  | 0 => fun _ _ => none
  | n + 1 => fun k => look (fun _ => none) [(sl15Left.n, fun a => sl15Left.b (sl15Left.F n) (res a 0) (res a 1))] k
def sl15Left.t (a : List D) : Option (List D) := lim fun n => sl15Left.F n sl15Left.n a
def sArityOf.b (a0 : D) : Option (List D) :=
  bif (a0.i == 1) then
    some [D.int 0]
  else
    bif (a0.i == 2) then
      some [D.int 0]
    else
      bif (a0.i == 3) then
        some [D.int 0]
      else
        bif (a0.i == 4) then
          some [D.int 0]
        else
          bif (a0.i == 5) then
            some [D.int 0]
          else
            bif (a0.i == 6) then
              some [D.int 0]
            else
              bif (a0.i == 7) then
                some [D.int 1]
              else
                bif (a0.i == 8) then
                  some [D.int 2]
                else
                  bif (a0.i == 9) then
                    some [D.int 2]
                  else
                    some [D.int (-1)]
def sArityOf.t (a : List D) : Option (List D) := sArityOf.b (res a 0)
def sl15Node.b (a0 : D) : Option (List D) :=
  bif ((a0.f 0).i == 2) then
    Option.bind (sl1In.t [D.int (a0.f 1).i, D.int 0, D.int 5]) fun r1 =>
      Option.bind (sl1In.t [D.int (a0.f 0).i, D.int 2, D.int 5]) fun r2 =>
        bif (res r2 0).b then
          Option.bind (sIsTime.t [D.int (a0.f 2).i]) fun r3 =>
            bif (res r1 0).b then
              bif (res r3 0).b then
                Option.bind (sArityOf.t [D.int (a0.f 0).i]) fun r4 =>
                  some [D.bool (((a0.f 3).r.length : Int) == (res r4 0).i)]
              else
                some [D.bool false]
            else
              some [D.bool false]
        else
          bif (res r1 0).b then
            bif ((a0.f 2).i == 0) then
              Option.bind (sArityOf.t [D.int (a0.f 0).i]) fun r5 =>
                some [D.bool (((a0.f 3).r.length : Int) == (res r5 0).i)]
            else
              some [D.bool false]
          else
            some [D.bool false]
  else
    bif ((a0.f 0).i == 4) then
      Option.bind (sl1In.t [D.int (a0.f 1).i, D.int 0, D.int 3]) fun r6 =>
        Option.bind (sl1In.t [D.int (a0.f 0).i, D.int 2, D.int 5]) fun r7 =>
          bif (res r7 0).b then
            Option.bind (sIsTime.t [D.int (a0.f 2).i]) fun r8 =>
              bif (res r6 0).b then
                bif (res r8 0).b then
                  Option.bind (sArityOf.t [D.int (a0.f 0).i]) fun r9 =>
                    some [D.bool (((a0.f 3).r.length : Int) == (res r9 0).i)]
                else
                  some [D.bool false]
              else
                some [D.bool false]
          else
            bif (res r6 0).b then
              bif ((a0.f 2).i == 0) then
                Option.bind (sArityOf.t [D.int (a0.f 0).i]) fun r10 =>
                  some [D.bool (((a0.f 3).r.length : Int) == (res r10 0).i)]
              else
                some [D.bool false]
            else
              some [D.bool false]
    else
      bif ((a0.f 0).i == 5) then
        Option.bind (sl1In.t [D.int (a0.f 1).i, D.int 0, D.int 3]) fun r11 =>
          Option.bind (sl1In.t [D.int (a0.f 0).i, D.int 2, D.int 5]) fun r12 =>
            bif (res r12 0).b then
              Option.bind (sIsTime.t [D.int (a0.f 2).i]) fun r13 =>
                bif (res r11 0).b then
                  bif (res r13 0).b then
                    Option.bind (sArityOf.t [D.int (a0.f 0).i]) fun r14 =>
                      some [D.bool (((a0.f 3).r.length : Int) == (res r14 0).i)]
                  else
                    some [D.bool false]
                else
                  some [D.bool false]
            else
              bif (res r11 0).b then
                bif ((a0.f 2).i == 0) then
                  Option.bind (sArityOf.t [D.int (a0.f 0).i]) fun r15 =>
                    some [D.bool (((a0.f 3).r.length : Int) == (res r15 0).i)]
                else
                  some [D.bool false]
              else
                some [D.bool false]
      else
        bif ((a0.f 0).i == 6) then
          Option.bind (sIsTime.t [D.int (a0.f 1).i]) fun r16 =>
            Option.bind (sl1In.t [D.int (a0.f 0).i, D.int 2, D.int 5]) fun r17 =>
              bif (res r17 0).b then
                Option.bind (sIsTime.t [D.int (a0.f 2).i]) fun r18 =>
                  bif (res r16 0).b then
                    bif (res r18 0).b then
                      Option.bind (sArityOf.t [D.int (a0.f 0).i]) fun r19 =>
                        some [D.bool (((a0.f 3).r.length : Int) == (res r19 0).i)]
                    else
                      some [D.bool false]
                  else
                    some [D.bool false]
              else
                bif (res r16 0).b then
                  bif ((a0.f 2).i == 0) then
                    Option.bind (sArityOf.t [D.int (a0.f 0).i]) fun r20 =>
                      some [D.bool (((a0.f 3).r.length : Int) == (res r20 0).i)]
                  else
                    some [D.bool false]
                else
                  some [D.bool false]
        else
          Option.bind (sl1In.t [D.int (a0.f 0).i, D.int 2, D.int 5]) fun r21 =>
            bif (res r21 0).b then
              Option.bind (sIsTime.t [D.int (a0.f 2).i]) fun r22 =>
                bif ((a0.f 1).i == 0) then
                  bif (res r22 0).b then
                    Option.bind (sArityOf.t [D.int (a0.f 0).i]) fun r23 =>
                      some [D.bool (((a0.f 3).r.length : Int) == (res r23 0).i)]
                  else
                    some [D.bool false]
                else
                  some [D.bool false]
            else
              bif ((a0.f 1).i == 0) then
                bif ((a0.f 2).i == 0) then
                  Option.bind (sArityOf.t [D.int (a0.f 0).i]) fun r24 =>
                    some [D.bool (((a0.f 3).r.length : Int) == (res r24 0).i)]
                else
                  some [D.bool false]
              else
                some [D.bool false]
def sl15Node.t (a : List D) : Option (List D) := sl15Node.b (res a 0)
def sl15Valid.l1 (g : GT) (d1 : List D) : LR :=
  bif ltI (arg d1 0).i ((arg d1 4).r.length : Int) then
    bif leI 0 (arg d1 0).i && ltI (arg d1 0).i ((arg d1 4).r.length : Int) then
      Option.bind (g sl15Valid.n [D.st [D.int (cell (arg d1 4).r (arg d1 0).i.toNat 0).i, D.int (cell (arg d1 4).r (arg d1 0).i.toNat 1).i, D.int (cell (arg d1 4).r (arg d1 0).i.toNat 2).i, D.rows (cell (arg d1 4).r (arg d1 0).i.toNat 3).r]]) fun r2 =>
        bif !(res r2 0).b then
          some (.inr (.inr [D.bool false]))
        else
          some (.inl [D.int (w64 ((arg d1 0).i + 1)), D.int (arg d1 1).i, D.int (arg d1 2).i, D.int (arg d1 3).i, D.rows (arg d1 4).r])
    else none
  else
    some (.inr (.inl []))
def sl15Valid.b (g : GT) (a0 : D) : Option (List D) :=
  Option.bind (sl15Node.t [D.st [D.int (a0.f 0).i, D.int (a0.f 1).i, D.int (a0.f 2).i, D.rows (a0.f 3).r]]) fun r1 =>
    bif !(res r1 0).b then
      some [D.bool false]
    else
      loop (sl15Valid.l1 g) [D.int 0, D.int (a0.f 0).i, D.int (a0.f 1).i, D.int (a0.f 2).i, D.rows (a0.f 3).r] (fun x1 =>
        some [D.bool true]) fun y1 => some y1
def sl15Valid.F : Nat → GT
  | 0 => fun _ _ => none
  | n + 1 => fun k => look (fun _ => none) [(sl15Valid.n, fun a => sl15Valid.b (sl15Valid.F n) (res a 0))] k
def sl15Valid.t (a : List D) : Option (List D) := lim fun n => sl15Valid.F n sl15Valid.n a
def sIsCond.b (a0 : D) : Option (List D) :=
  Option.bind (sl15Left.t [D.st [D.int (a0.f 0).i, D.int (a0.f 1).i, D.int (a0.f 2).i, D.rows (a0.f 3).r], D.int 15]) fun r1 =>
    bif geI (res r1 0).i 0 then
      Option.bind (sl15Valid.t [D.st [D.int (a0.f 0).i, D.int (a0.f 1).i, D.int (a0.f 2).i, D.rows (a0.f 3).r]]) fun r2 =>
        some [D.bool (res r2 0).b]
    else
      some [D.bool false]
def sIsCond.t (a : List D) : Option (List D) := sIsCond.b (res a 0)
def sIsRule.b (a0 : D) : Option (List D) :=
  Option.bind (sl1In.t [D.int (a0.f 0).i, D.int 0, D.int 1]) fun r1 =>
    bif (res r1 0).b then
      Option.bind (sl1In.t [D.int (a0.f 1).i, D.int (-1), D.int 5]) fun r2 =>
        bif (res r2 0).b then
          bif ((a0.f 2).i == (-1)) then
            Option.bind (sIsCond.t [D.st [D.int (a0.f 3).i, D.int (a0.f 4).i, D.int (a0.f 5).i, D.rows (a0.f 6).r]]) fun r3 =>
              some [D.bool (res r3 0).b]
          else
            Option.bind (sHasKind.t [D.int (a0.f 2).i, D.int 4]) fun r4 =>
              bif (res r4 0).b then
                Option.bind (sIsCond.t [D.st [D.int (a0.f 3).i, D.int (a0.f 4).i, D.int (a0.f 5).i, D.rows (a0.f 6).r]]) fun r5 =>
                  some [D.bool (res r5 0).b]
              else
                some [D.bool false]
        else
          some [D.bool false]
    else
      some [D.bool false]
def sIsRule.t (a : List D) : Option (List D) := sIsRule.b (res a 0)
def sIsPolicy.l1 (d1 : List D) : LR :=
  bif ltI (arg d1 0).i ((arg d1 2).r.length : Int) then
    bif leI 0 (arg d1 0).i && ltI (arg d1 0).i ((arg d1 2).r.length : Int) then
      Option.bind (sIsRule.t [D.st [D.int (cell (arg d1 2).r (arg d1 0).i.toNat 0).i, D.int (cell (arg d1 2).r (arg d1 0).i.toNat 1).i, D.int (cell (arg d1 2).r (arg d1 0).i.toNat 2).i, D.int (cell (arg d1 2).r (arg d1 0).i.toNat 3).i, D.int (cell (arg d1 2).r (arg d1 0).i.toNat 4).i, D.int (cell (arg d1 2).r (arg d1 0).i.toNat 5).i, D.rows (cell (arg d1 2).r (arg d1 0).i.toNat 6).r]]) fun r1 =>
        bif !(res r1 0).b then
          some (.inr (.inr [D.bool false]))
        else
          some (.inl [D.int (w64 ((arg d1 0).i + 1)), D.int (arg d1 1).i, D.rows (arg d1 2).r])
    else none
  else
    some (.inr (.inl [D.int (arg d1 1).i, D.rows (arg d1 2).r]))
def sIsPolicy.b (a0 : D) : Option (List D) :=
  loop (sIsPolicy.l1) [D.int 0, D.int (a0.f 0).i, D.rows (a0.f 1).r] (fun x1 =>
    Option.bind (sl1In.t [D.int (arg x1 0).i, D.int 0, D.int 999]) fun r2 =>
      bif (res r2 0).b then
        some [D.bool (leI ((arg x1 1).r.length : Int) 8)]
      else
        some [D.bool false]) fun y1 => some y1
def sIsPolicy.t (a : List D) : Option (List D) := sIsPolicy.b (res a 0)
def sIsFor.b (a0 a1 a2 : D) : Option (List D) :=
  bif ((a0.f 1).i == (-1)) then
    bif ((a0.f 2).i == (-1)) then
      some [D.bool true]
    else
      some [D.bool ((a0.f 2).i == a2.i)]
  else
    bif ((a0.f 1).i == a1.i) then
      bif ((a0.f 2).i == (-1)) then
        some [D.bool true]
      else
        some [D.bool ((a0.f 2).i == a2.i)]
    else
      some [D.bool false]
def sIsFor.t (a : List D) : Option (List D) := sIsFor.b (res a 0) (res a 1) (res a 2)
def sIsFact.b (a0 : D) : Option (List D) :=
  bif ((a0.f 0).i == 1) then
    Option.bind (sHasKind.t [D.int (a0.f 1).i, D.int 1]) fun r1 =>
      bif (res r1 0).b then
        Option.bind (sl1In.t [D.int (a0.f 2).i, D.int 0, D.int 5]) fun r2 =>
          bif (res r2 0).b then
            Option.bind (sl1In.t [D.int (a0.f 3).i, D.int 0, D.int 9]) fun r3 =>
              bif (res r3 0).b then
                Option.bind (sIsTime.t [D.int (a0.f 4).i]) fun r4 =>
                  bif (res r4 0).b then
                    Option.bind (sIsTime.t [D.int (a0.f 5).i]) fun r5 =>
                      bif (res r5 0).b then
                        some [D.bool (leI (a0.f 4).i (a0.f 5).i)]
                      else
                        some [D.bool false]
                  else
                    some [D.bool false]
              else
                some [D.bool false]
          else
            some [D.bool false]
      else
        some [D.bool false]
  else
    bif ((a0.f 0).i == 2) then
      Option.bind (sHasKind.t [D.int (a0.f 1).i, D.int 1]) fun r6 =>
        bif (res r6 0).b then
          Option.bind (sHasKind.t [D.int (a0.f 2).i, D.int 2]) fun r7 =>
            bif (res r7 0).b then
              Option.bind (sl1In.t [D.int (a0.f 3).i, D.int 0, D.int 9]) fun r8 =>
                bif (res r8 0).b then
                  Option.bind (sIsTime.t [D.int (a0.f 4).i]) fun r9 =>
                    bif (res r9 0).b then
                      Option.bind (sIsTime.t [D.int (a0.f 5).i]) fun r10 =>
                        bif (res r10 0).b then
                          some [D.bool (leI (a0.f 4).i (a0.f 5).i)]
                        else
                          some [D.bool false]
                    else
                      some [D.bool false]
                else
                  some [D.bool false]
            else
              some [D.bool false]
        else
          some [D.bool false]
    else
      bif ((a0.f 0).i == 3) then
        Option.bind (sHasKind.t [D.int (a0.f 1).i, D.int 2]) fun r11 =>
          bif (res r11 0).b then
            Option.bind (sl1In.t [D.int (a0.f 2).i, D.int 0, D.int 3]) fun r12 =>
              bif (res r12 0).b then
                Option.bind (sl1In.t [D.int (a0.f 3).i, D.int 0, D.int 9]) fun r13 =>
                  bif (res r13 0).b then
                    Option.bind (sIsTime.t [D.int (a0.f 4).i]) fun r14 =>
                      bif (res r14 0).b then
                        Option.bind (sIsTime.t [D.int (a0.f 5).i]) fun r15 =>
                          bif (res r15 0).b then
                            some [D.bool (leI (a0.f 4).i (a0.f 5).i)]
                          else
                            some [D.bool false]
                      else
                        some [D.bool false]
                  else
                    some [D.bool false]
              else
                some [D.bool false]
          else
            some [D.bool false]
      else
        bif ((a0.f 0).i == 4) then
          Option.bind (sHasKind.t [D.int (a0.f 1).i, D.int 3]) fun r16 =>
            bif (res r16 0).b then
              Option.bind (sl1In.t [D.int (a0.f 2).i, D.int 0, D.int 3]) fun r17 =>
                bif (res r17 0).b then
                  Option.bind (sl1In.t [D.int (a0.f 3).i, D.int 0, D.int 9]) fun r18 =>
                    bif (res r18 0).b then
                      Option.bind (sIsTime.t [D.int (a0.f 4).i]) fun r19 =>
                        bif (res r19 0).b then
                          Option.bind (sIsTime.t [D.int (a0.f 5).i]) fun r20 =>
                            bif (res r20 0).b then
                              some [D.bool (leI (a0.f 4).i (a0.f 5).i)]
                            else
                              some [D.bool false]
                        else
                          some [D.bool false]
                    else
                      some [D.bool false]
                else
                  some [D.bool false]
            else
              some [D.bool false]
        else
          some [D.bool false]
def sIsFact.t (a : List D) : Option (List D) := sIsFact.b (res a 0)
def sHoldsAt.b (a0 a1 a2 : D) : Option (List D) :=
  Option.bind (sIsFact.t [D.st [D.int (a0.f 0).i, D.int (a0.f 1).i, D.int (a0.f 2).i, D.int (a0.f 3).i, D.int (a0.f 4).i, D.int (a0.f 5).i]]) fun r1 =>
    bif (res r1 0).b then
      Option.bind (sIsWithin.t [D.int (a0.f 4).i, D.int (a0.f 5).i, D.int a1.i]) fun r2 =>
        bif (res r2 0).b then
          Option.bind (sIsFresh.t [D.int (a0.f 4).i, D.int a1.i, D.int a2.i]) fun r3 =>
            some [D.bool (res r3 0).b]
        else
          some [D.bool false]
    else
      some [D.bool false]
def sHoldsAt.t (a : List D) : Option (List D) := sHoldsAt.b (res a 0) (res a 1) (res a 2)
def sRolesUnder.l2 (d2 : List D) : LR :=
  bif ltI (arg d2 1).i ((arg d2 2).r.length : Int) then
    bif leI 0 (arg d2 1).i && ltI (arg d2 1).i ((arg d2 2).r.length : Int) then
      Option.bind (sl1In.t [D.int (cell (arg d2 2).r (arg d2 1).i.toNat 0).i, D.int 0, D.int 5]) fun r2 =>
        bif (res r2 0).b then
          bif leI 0 (arg d2 1).i && ltI (arg d2 1).i ((arg d2 2).r.length : Int) then
            Option.bind (sl1In.t [D.int (cell (arg d2 2).r (arg d2 1).i.toNat 1).i, D.int 0, D.int 5]) fun r3 =>
              bif (res r3 0).b then
                bif leI 0 (arg d2 1).i && ltI (arg d2 1).i ((arg d2 2).r.length : Int) then
                  bif leI 0 (cell (arg d2 2).r (arg d2 1).i.toNat 0).i && ltI (cell (arg d2 2).r (arg d2 1).i.toNat 0).i ((arg d2 4).r.length : Int) then
                    bif (cell (arg d2 4).r (cell (arg d2 2).r (arg d2 1).i.toNat 0).i.toNat 0).b then
                      bif leI 0 (arg d2 1).i && ltI (arg d2 1).i ((arg d2 2).r.length : Int) then
                        bif leI 0 (cell (arg d2 2).r (arg d2 1).i.toNat 1).i && ltI (cell (arg d2 2).r (arg d2 1).i.toNat 1).i ((arg d2 4).r.length : Int) then
                          some (.inl [D.int (arg d2 0).i, D.int (w64 ((arg d2 1).i + 1)), D.rows (arg d2 2).r, D.rows (arg d2 3).r, D.rows (setCells (arg d2 4).r (cell (arg d2 2).r (arg d2 1).i.toNat 1).i.toNat 0 [D.bool true])])
                        else none
                      else none
                    else
                      some (.inl [D.int (arg d2 0).i, D.int (w64 ((arg d2 1).i + 1)), D.rows (arg d2 2).r, D.rows (arg d2 3).r, D.rows (arg d2 4).r])
                  else none
                else none
              else
                some (.inl [D.int (arg d2 0).i, D.int (w64 ((arg d2 1).i + 1)), D.rows (arg d2 2).r, D.rows (arg d2 3).r, D.rows (arg d2 4).r])
          else none
        else
          some (.inl [D.int (arg d2 0).i, D.int (w64 ((arg d2 1).i + 1)), D.rows (arg d2 2).r, D.rows (arg d2 3).r, D.rows (arg d2 4).r])
    else none
  else
    some (.inr (.inl [D.int (arg d2 0).i, D.rows (arg d2 2).r, D.rows (arg d2 3).r, D.rows (arg d2 4).r]))
def sRolesUnder.l1 (d1 : List D) : LR :=
  bif leI (arg d1 0).i 5 then
    loop (sRolesUnder.l2) [D.int (arg d1 0).i, D.int 0, D.rows (arg d1 1).r, D.rows (arg d1 2).r, D.rows (arg d1 3).r] (fun x2 =>
      some (.inl [D.int (w64 ((arg x2 0).i + 1)), D.rows (arg x2 1).r, D.rows (arg x2 2).r, D.rows (arg x2 3).r])) fun y2 => some (.inr (.inr y2))
  else
    some (.inr (.inl [D.rows (arg d1 2).r, D.rows (arg d1 3).r]))
def sRolesUnder.l3 (d3 : List D) : LR :=
  bif leI (arg d3 0).i 5 then
    bif leI 0 (arg d3 0).i && ltI (arg d3 0).i ((arg d3 2).r.length : Int) then
      bif (cell (arg d3 2).r (arg d3 0).i.toNat 0).b then
        bif leN ((arg d3 1).r.length + [[D.int (arg d3 0).i]].length) 4294967296 then
          some (.inl [D.int (w64 ((arg d3 0).i + 1)), D.rows ((arg d3 1).r ++ [[D.int (arg d3 0).i]]), D.rows (arg d3 2).r])
        else none
      else
        some (.inl [D.int (w64 ((arg d3 0).i + 1)), D.rows (arg d3 1).r, D.rows (arg d3 2).r])
    else none
  else
    some (.inr (.inl [D.rows (arg d3 1).r]))
def sRolesUnder.b (a0 a1 : D) : Option (List D) :=
  Option.bind (sl1In.t [D.int a1.i, D.int 0, D.int 5]) fun r1 =>
    bif !(res r1 0).b then
      some [D.rows []]
    else
      bif leI 0 a1.i && ltI a1.i ((List.replicate 6 [D.z]).length : Int) then
        loop (sRolesUnder.l1) [D.int 0, D.rows a0.r, D.rows [], D.rows (setCells (List.replicate 6 [D.z]) a1.i.toNat 0 [D.bool true])] (fun x1 =>
          loop (sRolesUnder.l3) [D.int 0, D.rows (arg x1 0).r, D.rows (arg x1 1).r] (fun x3 =>
            some [D.rows (arg x3 0).r]) fun y3 => some y3) fun y1 => some y1
      else none
def sRolesUnder.t (a : List D) : Option (List D) := sRolesUnder.b (res a 0) (res a 1)
def sRolesOf.l2 (d2 : List D) : LR :=
  bif ltI (arg d2 4).i ((arg d2 8).r.length : Int) then
    bif leI 0 (arg d2 4).i && ltI (arg d2 4).i ((arg d2 8).r.length : Int) then
      bif leI 0 (cell (arg d2 8).r (arg d2 4).i.toNat 0).i && ltI (cell (arg d2 8).r (arg d2 4).i.toNat 0).i ((arg d2 7).r.length : Int) then
        some (.inl [D.int (arg d2 0).i, D.int (arg d2 1).i, D.int (arg d2 2).i, D.int (arg d2 3).i, D.int (w64 ((arg d2 4).i + 1)), D.rows (arg d2 5).r, D.rows (arg d2 6).r, D.rows (setCells (arg d2 7).r (cell (arg d2 8).r (arg d2 4).i.toNat 0).i.toNat 0 [D.bool true]), D.rows (arg d2 8).r])
      else none
    else none
  else
    some (.inr (.inl [D.int (arg d2 0).i, D.int (arg d2 1).i, D.int (arg d2 2).i, D.int (arg d2 3).i, D.rows (arg d2 5).r, D.rows (arg d2 6).r, D.rows (arg d2 7).r]))
def sRolesOf.l1 (d1 : List D) : LR :=
  bif ltI (arg d1 3).i ((arg d1 5).r.length : Int) then
    bif leI 0 (arg d1 3).i && ltI (arg d1 3).i ((arg d1 5).r.length : Int) then
      bif ((cell (arg d1 5).r (arg d1 3).i.toNat 0).i != 1) then
        some (.inl [D.int (arg d1 0).i, D.int (arg d1 1).i, D.int (arg d1 2).i, D.int (w64 ((arg d1 3).i + 1)), D.rows (arg d1 4).r, D.rows (arg d1 5).r, D.rows (arg d1 6).r])
      else
        bif leI 0 (arg d1 3).i && ltI (arg d1 3).i ((arg d1 5).r.length : Int) then
          bif ((cell (arg d1 5).r (arg d1 3).i.toNat 1).i != (arg d1 0).i) then
            some (.inl [D.int (arg d1 0).i, D.int (arg d1 1).i, D.int (arg d1 2).i, D.int (w64 ((arg d1 3).i + 1)), D.rows (arg d1 4).r, D.rows (arg d1 5).r, D.rows (arg d1 6).r])
          else
            bif leI 0 (arg d1 3).i && ltI (arg d1 3).i ((arg d1 5).r.length : Int) then
              Option.bind (sHoldsAt.t [D.st [D.int (cell (arg d1 5).r (arg d1 3).i.toNat 0).i, D.int (cell (arg d1 5).r (arg d1 3).i.toNat 1).i, D.int (cell (arg d1 5).r (arg d1 3).i.toNat 2).i, D.int (cell (arg d1 5).r (arg d1 3).i.toNat 3).i, D.int (cell (arg d1 5).r (arg d1 3).i.toNat 4).i, D.int (cell (arg d1 5).r (arg d1 3).i.toNat 5).i], D.int (arg d1 1).i, D.int (arg d1 2).i]) fun r1 =>
                bif !(res r1 0).b then
                  some (.inl [D.int (arg d1 0).i, D.int (arg d1 1).i, D.int (arg d1 2).i, D.int (w64 ((arg d1 3).i + 1)), D.rows (arg d1 4).r, D.rows (arg d1 5).r, D.rows (arg d1 6).r])
                else
                  bif leI 0 (arg d1 3).i && ltI (arg d1 3).i ((arg d1 5).r.length : Int) then
                    Option.bind (sRolesUnder.t [D.rows (arg d1 4).r, D.int (cell (arg d1 5).r (arg d1 3).i.toNat 2).i]) fun r2 =>
                      loop (sRolesOf.l2) [D.int (arg d1 0).i, D.int (arg d1 1).i, D.int (arg d1 2).i, D.int (arg d1 3).i, D.int 0, D.rows (arg d1 4).r, D.rows (arg d1 5).r, D.rows (arg d1 6).r, D.rows (res r2 0).r] (fun x2 =>
                        some (.inl [D.int (arg x2 0).i, D.int (arg x2 1).i, D.int (arg x2 2).i, D.int (w64 ((arg x2 3).i + 1)), D.rows (arg x2 4).r, D.rows (arg x2 5).r, D.rows (arg x2 6).r])) fun y2 => some (.inr (.inr y2))
                  else none
            else none
        else none
    else none
  else
    some (.inr (.inl [D.rows (arg d1 6).r]))
def sRolesOf.l3 (d3 : List D) : LR :=
  bif leI (arg d3 0).i 5 then
    bif leI 0 (arg d3 0).i && ltI (arg d3 0).i ((arg d3 1).r.length : Int) then
      bif (cell (arg d3 1).r (arg d3 0).i.toNat 0).b then
        bif leN ((arg d3 2).r.length + [[D.int (arg d3 0).i]].length) 4294967296 then
          some (.inl [D.int (w64 ((arg d3 0).i + 1)), D.rows (arg d3 1).r, D.rows ((arg d3 2).r ++ [[D.int (arg d3 0).i]])])
        else none
      else
        some (.inl [D.int (w64 ((arg d3 0).i + 1)), D.rows (arg d3 1).r, D.rows (arg d3 2).r])
    else none
  else
    some (.inr (.inl [D.rows (arg d3 2).r]))
def sRolesOf.b (a0 a1 a2 a3 a4 : D) : Option (List D) :=
  loop (sRolesOf.l1) [D.int a2.i, D.int a3.i, D.int a4.i, D.int 0, D.rows a0.r, D.rows a1.r, D.rows (List.replicate 6 [D.z])] (fun x1 =>
    loop (sRolesOf.l3) [D.int 0, D.rows (arg x1 0).r, D.rows []] (fun x3 =>
      some [D.rows (arg x3 0).r]) fun y3 => some y3) fun y1 => some y1
def sRolesOf.t (a : List D) : Option (List D) := sRolesOf.b (res a 0) (res a 1) (res a 2) (res a 3) (res a 4)
def sl13Has.l1 (d1 : List D) : LR :=
  bif ltI (arg d1 1).i ((arg d1 2).r.length : Int) then
    bif leI 0 (arg d1 1).i && ltI (arg d1 1).i ((arg d1 2).r.length : Int) then
      bif ((cell (arg d1 2).r (arg d1 1).i.toNat 0).i == (arg d1 0).i) then
        some (.inr (.inr [D.bool true]))
      else
        some (.inl [D.int (arg d1 0).i, D.int (w64 ((arg d1 1).i + 1)), D.rows (arg d1 2).r])
    else none
  else
    some (.inr (.inl []))
def sl13Has.b (a0 a1 : D) : Option (List D) :=
  loop (sl13Has.l1) [D.int a1.i, D.int 0, D.rows a0.r] (fun x1 =>
    some [D.bool false]) fun y1 => some y1
def sl13Has.t (a : List D) : Option (List D) := sl13Has.b (res a 0) (res a 1)
def sHasRole.b (a0 a1 a2 a3 a4 a5 : D) : Option (List D) :=
  Option.bind (sRolesOf.t [D.rows a0.r, D.rows a1.r, D.int a2.i, D.int a4.i, D.int a5.i]) fun r1 =>
    Option.bind (sl13Has.t [D.rows (res r1 0).r, D.int a3.i]) fun r2 =>
      some [D.bool (res r2 0).b]
def sHasRole.t (a : List D) : Option (List D) := sHasRole.b (res a 0) (res a 1) (res a 2) (res a 3) (res a 4) (res a 5)
def sFindFact.l1 (d1 : List D) : LR :=
  bif ltI (arg d1 5).i ((arg d1 6).r.length : Int) then
    bif leI 0 (arg d1 5).i && ltI (arg d1 5).i ((arg d1 6).r.length : Int) then
      bif ((cell (arg d1 6).r (arg d1 5).i.toNat 0).i == (arg d1 0).i) then
        bif leI 0 (arg d1 5).i && ltI (arg d1 5).i ((arg d1 6).r.length : Int) then
          bif ((cell (arg d1 6).r (arg d1 5).i.toNat 1).i == (arg d1 1).i) then
            bif leI 0 (arg d1 5).i && ltI (arg d1 5).i ((arg d1 6).r.length : Int) then
              bif ((cell (arg d1 6).r (arg d1 5).i.toNat 2).i == (arg d1 2).i) then
                bif leI 0 (arg d1 5).i && ltI (arg d1 5).i ((arg d1 6).r.length : Int) then
                  Option.bind (sHoldsAt.t [D.st [D.int (cell (arg d1 6).r (arg d1 5).i.toNat 0).i, D.int (cell (arg d1 6).r (arg d1 5).i.toNat 1).i, D.int (cell (arg d1 6).r (arg d1 5).i.toNat 2).i, D.int (cell (arg d1 6).r (arg d1 5).i.toNat 3).i, D.int (cell (arg d1 6).r (arg d1 5).i.toNat 4).i, D.int (cell (arg d1 6).r (arg d1 5).i.toNat 5).i], D.int (arg d1 3).i, D.int (arg d1 4).i]) fun r1 =>
                    bif (res r1 0).b then
                      some (.inr (.inr [D.int (arg d1 5).i]))
                    else
                      some (.inl [D.int (arg d1 0).i, D.int (arg d1 1).i, D.int (arg d1 2).i, D.int (arg d1 3).i, D.int (arg d1 4).i, D.int (w64 ((arg d1 5).i + 1)), D.rows (arg d1 6).r])
                else none
              else
                some (.inl [D.int (arg d1 0).i, D.int (arg d1 1).i, D.int (arg d1 2).i, D.int (arg d1 3).i, D.int (arg d1 4).i, D.int (w64 ((arg d1 5).i + 1)), D.rows (arg d1 6).r])
            else none
          else
            some (.inl [D.int (arg d1 0).i, D.int (arg d1 1).i, D.int (arg d1 2).i, D.int (arg d1 3).i, D.int (arg d1 4).i, D.int (w64 ((arg d1 5).i + 1)), D.rows (arg d1 6).r])
        else none
      else
        some (.inl [D.int (arg d1 0).i, D.int (arg d1 1).i, D.int (arg d1 2).i, D.int (arg d1 3).i, D.int (arg d1 4).i, D.int (w64 ((arg d1 5).i + 1)), D.rows (arg d1 6).r])
    else none
  else
    some (.inr (.inl []))
def sFindFact.b (a0 a1 a2 a3 a4 a5 : D) : Option (List D) :=
  loop (sFindFact.l1) [D.int a1.i, D.int a2.i, D.int a3.i, D.int a4.i, D.int a5.i, D.int 0, D.rows a0.r] (fun x1 =>
    some [D.int (-1)]) fun y1 => some y1
def sFindFact.t (a : List D) : Option (List D) := sFindFact.b (res a 0) (res a 1) (res a 2) (res a 3) (res a 4) (res a 5)
def sMax.b (a0 a1 : D) : Option (List D) :=
  bif gtI a1.i a0.i then
    some [D.int a1.i]
  else
    some [D.int a0.i]
def sMax.t (a : List D) : Option (List D) := sMax.b (res a 0) (res a 1)
def sBestValue.l1 (d1 : List D) : LR :=
  bif ltI (arg d1 5).i ((arg d1 6).r.length : Int) then
    bif leI 0 (arg d1 5).i && ltI (arg d1 5).i ((arg d1 6).r.length : Int) then
      bif ((cell (arg d1 6).r (arg d1 5).i.toNat 0).i == (arg d1 0).i) then
        bif leI 0 (arg d1 5).i && ltI (arg d1 5).i ((arg d1 6).r.length : Int) then
          bif ((cell (arg d1 6).r (arg d1 5).i.toNat 1).i == (arg d1 1).i) then
            bif leI 0 (arg d1 5).i && ltI (arg d1 5).i ((arg d1 6).r.length : Int) then
              Option.bind (sHoldsAt.t [D.st [D.int (cell (arg d1 6).r (arg d1 5).i.toNat 0).i, D.int (cell (arg d1 6).r (arg d1 5).i.toNat 1).i, D.int (cell (arg d1 6).r (arg d1 5).i.toNat 2).i, D.int (cell (arg d1 6).r (arg d1 5).i.toNat 3).i, D.int (cell (arg d1 6).r (arg d1 5).i.toNat 4).i, D.int (cell (arg d1 6).r (arg d1 5).i.toNat 5).i], D.int (arg d1 2).i, D.int (arg d1 3).i]) fun r1 =>
                bif (res r1 0).b then
                  bif leI 0 (arg d1 5).i && ltI (arg d1 5).i ((arg d1 6).r.length : Int) then
                    Option.bind (sMax.t [D.int (arg d1 4).i, D.int (cell (arg d1 6).r (arg d1 5).i.toNat 2).i]) fun r2 =>
                      some (.inl [D.int (arg d1 0).i, D.int (arg d1 1).i, D.int (arg d1 2).i, D.int (arg d1 3).i, D.int (res r2 0).i, D.int (w64 ((arg d1 5).i + 1)), D.rows (arg d1 6).r])
                  else none
                else
                  some (.inl [D.int (arg d1 0).i, D.int (arg d1 1).i, D.int (arg d1 2).i, D.int (arg d1 3).i, D.int (arg d1 4).i, D.int (w64 ((arg d1 5).i + 1)), D.rows (arg d1 6).r])
            else none
          else
            some (.inl [D.int (arg d1 0).i, D.int (arg d1 1).i, D.int (arg d1 2).i, D.int (arg d1 3).i, D.int (arg d1 4).i, D.int (w64 ((arg d1 5).i + 1)), D.rows (arg d1 6).r])
        else none
      else
        some (.inl [D.int (arg d1 0).i, D.int (arg d1 1).i, D.int (arg d1 2).i, D.int (arg d1 3).i, D.int (arg d1 4).i, D.int (w64 ((arg d1 5).i + 1)), D.rows (arg d1 6).r])
    else none
  else
    some (.inr (.inl [D.int (arg d1 4).i]))
def sBestValue.b (a0 a1 a2 a3 a4 : D) : Option (List D) :=
  loop (sBestValue.l1) [D.int a1.i, D.int a2.i, D.int a3.i, D.int a4.i, D.int (-1), D.int 0, D.rows a0.r] (fun x1 =>
    some [D.int (arg x1 0).i]) fun y1 => some y1
def sBestValue.t (a : List D) : Option (List D) := sBestValue.b (res a 0) (res a 1) (res a 2) (res a 3) (res a 4)
def sLeafHolds.b (a0 a1 a2 a3 : D) : Option (List D) :=
  bif ((a2.f 0).i == 1) then
    some [D.bool true]
  else
    bif ((a2.f 0).i == 2) then
      Option.bind (sHasRole.t [D.rows a0.r, D.rows a1.r, D.int (a3.f 0).i, D.int (a2.f 1).i, D.int (a3.f 5).i, D.int (a2.f 2).i]) fun r1 =>
        some [D.bool (res r1 0).b]
    else
      bif ((a2.f 0).i == 3) then
        Option.bind (sFindFact.t [D.rows a1.r, D.int 2, D.int (a3.f 0).i, D.int (a3.f 1).i, D.int (a3.f 5).i, D.int (a2.f 2).i]) fun r2 =>
          some [D.bool (geI (res r2 0).i 0)]
      else
        bif ((a2.f 0).i == 4) then
          Option.bind (sBestValue.t [D.rows a1.r, D.int 3, D.int (a3.f 1).i, D.int (a3.f 5).i, D.int (a2.f 2).i]) fun r3 =>
            some [D.bool (geI (res r3 0).i (a2.f 1).i)]
        else
          bif ((a2.f 0).i == 5) then
            Option.bind (sBestValue.t [D.rows a1.r, D.int 4, D.int (a3.f 2).i, D.int (a3.f 5).i, D.int (a2.f 2).i]) fun r4 =>
              some [D.bool (geI (res r4 0).i (a2.f 1).i)]
          else
            bif ((a2.f 0).i == 6) then
              some [D.bool (leI (a3.f 5).i (a2.f 1).i)]
            else
              some [D.bool false]
def sLeafHolds.t (a : List D) : Option (List D) := sLeafHolds.b (res a 0) (res a 1) (res a 2) (res a 3)
def sl18Eval.b (g : GT) (a0 a1 a2 a3 : D) : Option (List D) :=
  bif ((a2.f 0).i == 7) then
    bif ltI 0 ((a2.f 3).r.length : Int) then
      Option.bind (g sl18Eval.n [D.rows a0.r, D.rows a1.r, D.st [D.int (cell (a2.f 3).r 0 0).i, D.int (cell (a2.f 3).r 0 1).i, D.int (cell (a2.f 3).r 0 2).i, D.rows (cell (a2.f 3).r 0 3).r], D.st [D.int (a3.f 0).i, D.int (a3.f 1).i, D.int (a3.f 2).i, D.int (a3.f 3).i, D.int (a3.f 4).i, D.int (a3.f 5).i]]) fun r1 =>
        some [D.bool (!(res r1 0).b)]
    else none
  else
    bif ((a2.f 0).i == 8) then
      bif ltI 0 ((a2.f 3).r.length : Int) then
        Option.bind (g sl18Eval.n [D.rows a0.r, D.rows a1.r, D.st [D.int (cell (a2.f 3).r 0 0).i, D.int (cell (a2.f 3).r 0 1).i, D.int (cell (a2.f 3).r 0 2).i, D.rows (cell (a2.f 3).r 0 3).r], D.st [D.int (a3.f 0).i, D.int (a3.f 1).i, D.int (a3.f 2).i, D.int (a3.f 3).i, D.int (a3.f 4).i, D.int (a3.f 5).i]]) fun r2 =>
          bif (res r2 0).b then
            bif ltI 1 ((a2.f 3).r.length : Int) then
              Option.bind (g sl18Eval.n [D.rows a0.r, D.rows a1.r, D.st [D.int (cell (a2.f 3).r 1 0).i, D.int (cell (a2.f 3).r 1 1).i, D.int (cell (a2.f 3).r 1 2).i, D.rows (cell (a2.f 3).r 1 3).r], D.st [D.int (a3.f 0).i, D.int (a3.f 1).i, D.int (a3.f 2).i, D.int (a3.f 3).i, D.int (a3.f 4).i, D.int (a3.f 5).i]]) fun r3 =>
                some [D.bool (res r3 0).b]
            else none
          else
            some [D.bool false]
      else none
    else
      bif ((a2.f 0).i == 9) then
        bif ltI 0 ((a2.f 3).r.length : Int) then
          Option.bind (g sl18Eval.n [D.rows a0.r, D.rows a1.r, D.st [D.int (cell (a2.f 3).r 0 0).i, D.int (cell (a2.f 3).r 0 1).i, D.int (cell (a2.f 3).r 0 2).i, D.rows (cell (a2.f 3).r 0 3).r], D.st [D.int (a3.f 0).i, D.int (a3.f 1).i, D.int (a3.f 2).i, D.int (a3.f 3).i, D.int (a3.f 4).i, D.int (a3.f 5).i]]) fun r4 =>
            bif (res r4 0).b then
              some [D.bool true]
            else
              bif ltI 1 ((a2.f 3).r.length : Int) then
                Option.bind (g sl18Eval.n [D.rows a0.r, D.rows a1.r, D.st [D.int (cell (a2.f 3).r 1 0).i, D.int (cell (a2.f 3).r 1 1).i, D.int (cell (a2.f 3).r 1 2).i, D.rows (cell (a2.f 3).r 1 3).r], D.st [D.int (a3.f 0).i, D.int (a3.f 1).i, D.int (a3.f 2).i, D.int (a3.f 3).i, D.int (a3.f 4).i, D.int (a3.f 5).i]]) fun r5 =>
                  some [D.bool (res r5 0).b]
              else none
        else none
      else
        Option.bind (sLeafHolds.t [D.rows a0.r, D.rows a1.r, D.st [D.int (a2.f 0).i, D.int (a2.f 1).i, D.int (a2.f 2).i, D.rows (a2.f 3).r], D.st [D.int (a3.f 0).i, D.int (a3.f 1).i, D.int (a3.f 2).i, D.int (a3.f 3).i, D.int (a3.f 4).i, D.int (a3.f 5).i]]) fun r6 =>
          some [D.bool (res r6 0).b]
def sl18Eval.F : Nat → GT
  | 0 => fun _ _ => none
  | n + 1 => fun k => look (fun _ => none) [(sl18Eval.n, fun a => sl18Eval.b (sl18Eval.F n) (res a 0) (res a 1) (res a 2) (res a 3))] k
def sl18Eval.t (a : List D) : Option (List D) := lim fun n => sl18Eval.F n sl18Eval.n a
def sEvalCond.b (a0 a1 a2 a3 : D) : Option (List D) :=
  Option.bind (sIsCond.t [D.st [D.int (a2.f 0).i, D.int (a2.f 1).i, D.int (a2.f 2).i, D.rows (a2.f 3).r]]) fun r1 =>
    bif (res r1 0).b then
      Option.bind (sl18Eval.t [D.rows a0.r, D.rows a1.r, D.st [D.int (a2.f 0).i, D.int (a2.f 1).i, D.int (a2.f 2).i, D.rows (a2.f 3).r], D.st [D.int (a3.f 0).i, D.int (a3.f 1).i, D.int (a3.f 2).i, D.int (a3.f 3).i, D.int (a3.f 4).i, D.int (a3.f 5).i]]) fun r2 =>
        some [D.bool (res r2 0).b]
    else
      some [D.bool false]
def sEvalCond.t (a : List D) : Option (List D) := sEvalCond.b (res a 0) (res a 1) (res a 2) (res a 3)
def sRulesThatHold.l1 (d1 : List D) : LR :=
  bif ltI (arg d1 0).i ((arg d1 11).r.length : Int) then
    bif leI 0 (arg d1 0).i && ltI (arg d1 0).i ((arg d1 11).r.length : Int) then
      Option.bind (sIsFor.t [D.st [D.int (cell (arg d1 11).r (arg d1 0).i.toNat 0).i, D.int (cell (arg d1 11).r (arg d1 0).i.toNat 1).i, D.int (cell (arg d1 11).r (arg d1 0).i.toNat 2).i, D.int (cell (arg d1 11).r (arg d1 0).i.toNat 3).i, D.int (cell (arg d1 11).r (arg d1 0).i.toNat 4).i, D.int (cell (arg d1 11).r (arg d1 0).i.toNat 5).i, D.rows (cell (arg d1 11).r (arg d1 0).i.toNat 6).r], D.int (arg d1 7).i, D.int (arg d1 8).i]) fun r1 =>
        bif (res r1 0).b then
          bif leI 0 (arg d1 0).i && ltI (arg d1 0).i ((arg d1 11).r.length : Int) then
            Option.bind (sEvalCond.t [D.rows (arg d1 1).r, D.rows (arg d1 2).r, D.st [D.int (cell (arg d1 11).r (arg d1 0).i.toNat 3).i, D.int (cell (arg d1 11).r (arg d1 0).i.toNat 4).i, D.int (cell (arg d1 11).r (arg d1 0).i.toNat 5).i, D.rows (cell (arg d1 11).r (arg d1 0).i.toNat 6).r], D.st [D.int (arg d1 4).i, D.int (arg d1 5).i, D.int (arg d1 6).i, D.int (arg d1 7).i, D.int (arg d1 8).i, D.int (arg d1 9).i]]) fun r2 =>
              bif (res r2 0).b then
                bif leN ((arg d1 10).r.length + [[D.int (arg d1 0).i]].length) 4294967296 then
                  some (.inl [D.int (w64 ((arg d1 0).i + 1)), D.rows (arg d1 1).r, D.rows (arg d1 2).r, D.int (arg d1 3).i, D.int (arg d1 4).i, D.int (arg d1 5).i, D.int (arg d1 6).i, D.int (arg d1 7).i, D.int (arg d1 8).i, D.int (arg d1 9).i, D.rows ((arg d1 10).r ++ [[D.int (arg d1 0).i]]), D.rows (arg d1 11).r])
                else none
              else
                some (.inl [D.int (w64 ((arg d1 0).i + 1)), D.rows (arg d1 1).r, D.rows (arg d1 2).r, D.int (arg d1 3).i, D.int (arg d1 4).i, D.int (arg d1 5).i, D.int (arg d1 6).i, D.int (arg d1 7).i, D.int (arg d1 8).i, D.int (arg d1 9).i, D.rows (arg d1 10).r, D.rows (arg d1 11).r])
          else none
        else
          some (.inl [D.int (w64 ((arg d1 0).i + 1)), D.rows (arg d1 1).r, D.rows (arg d1 2).r, D.int (arg d1 3).i, D.int (arg d1 4).i, D.int (arg d1 5).i, D.int (arg d1 6).i, D.int (arg d1 7).i, D.int (arg d1 8).i, D.int (arg d1 9).i, D.rows (arg d1 10).r, D.rows (arg d1 11).r])
    else none
  else
    some (.inr (.inl [D.rows (arg d1 10).r]))
def sRulesThatHold.b (a0 a1 a2 a3 : D) : Option (List D) :=
  loop (sRulesThatHold.l1) [D.int 0, D.rows a0.r, D.rows a1.r, D.int (a2.f 0).i, D.int (a3.f 0).i, D.int (a3.f 1).i, D.int (a3.f 2).i, D.int (a3.f 3).i, D.int (a3.f 4).i, D.int (a3.f 5).i, D.rows [], D.rows (a2.f 1).r] (fun x1 =>
    some [D.rows (arg x1 0).r]) fun y1 => some y1
def sRulesThatHold.t (a : List D) : Option (List D) := sRulesThatHold.b (res a 0) (res a 1) (res a 2) (res a 3)
def sDecideBy.l1 (d1 : List D) : LR :=
  bif ltI (arg d1 0).i ((arg d1 2).r.length : Int) then
    bif leI 0 (arg d1 0).i && ltI (arg d1 0).i ((arg d1 2).r.length : Int) then
      bif leI 0 (cell (arg d1 2).r (arg d1 0).i.toNat 0).i && ltI (cell (arg d1 2).r (arg d1 0).i.toNat 0).i ((arg d1 3).r.length : Int) then
        bif ((cell (arg d1 3).r (cell (arg d1 2).r (arg d1 0).i.toNat 0).i.toNat 0).i == 0) then
          some (.inr (.inr [D.int 0]))
        else
          some (.inl [D.int (w64 ((arg d1 0).i + 1)), D.int (arg d1 1).i, D.rows (arg d1 2).r, D.rows (arg d1 3).r])
      else none
    else none
  else
    some (.inr (.inl [D.rows (arg d1 2).r]))
def sDecideBy.b (a0 a1 a2 a3 : D) : Option (List D) :=
  Option.bind (sIsRequest.t [D.st [D.int (a3.f 0).i, D.int (a3.f 1).i, D.int (a3.f 2).i, D.int (a3.f 3).i, D.int (a3.f 4).i, D.int (a3.f 5).i]]) fun r1 =>
    bif !(res r1 0).b then
      some [D.int 0]
    else
      Option.bind (sIsPolicy.t [D.st [D.int (a2.f 0).i, D.rows (a2.f 1).r]]) fun r2 =>
        bif !(res r2 0).b then
          some [D.int 0]
        else
          Option.bind (sRulesThatHold.t [D.rows a0.r, D.rows a1.r, D.st [D.int (a2.f 0).i, D.rows (a2.f 1).r], D.st [D.int (a3.f 0).i, D.int (a3.f 1).i, D.int (a3.f 2).i, D.int (a3.f 3).i, D.int (a3.f 4).i, D.int (a3.f 5).i]]) fun r3 =>
            loop (sDecideBy.l1) [D.int 0, D.int (a2.f 0).i, D.rows (res r3 0).r, D.rows (a2.f 1).r] (fun x1 =>
              bif (((arg x1 0).r.length : Int) == 0) then
                some [D.int 0]
              else
                some [D.int 1]) fun y1 => some y1
def sDecideBy.t (a : List D) : Option (List D) := sDecideBy.b (res a 0) (res a 1) (res a 2) (res a 3)
def sDecisionUntil.l1 (d1 : List D) : LR :=
  bif ltI (arg d1 2).i (w64 ((arg d1 11).i + (arg d1 0).i)) then
    bif ltI (arg d1 2).i 10000 then
      Option.bind (sAtTime.t [D.st [D.int (arg d1 6).i, D.int (arg d1 7).i, D.int (arg d1 8).i, D.int (arg d1 9).i, D.int (arg d1 10).i, D.int (arg d1 11).i], D.int (w64 ((arg d1 2).i + 1))]) fun r5 =>
        Option.bind (sDecideBy.t [D.rows (arg d1 3).r, D.rows (arg d1 4).r, D.st [D.int (arg d1 5).i, D.rows (arg d1 12).r], D.st [D.int ((res r5 0).f 0).i, D.int ((res r5 0).f 1).i, D.int ((res r5 0).f 2).i, D.int ((res r5 0).f 3).i, D.int ((res r5 0).f 4).i, D.int ((res r5 0).f 5).i]]) fun r6 =>
          bif ((res r6 0).i == (arg d1 1).i) then
            some (.inl [D.int (arg d1 0).i, D.int (arg d1 1).i, D.int (w64 ((arg d1 2).i + 1)), D.rows (arg d1 3).r, D.rows (arg d1 4).r, D.int (arg d1 5).i, D.int (arg d1 6).i, D.int (arg d1 7).i, D.int (arg d1 8).i, D.int (arg d1 9).i, D.int (arg d1 10).i, D.int (arg d1 11).i, D.rows (arg d1 12).r])
          else
            some (.inr (.inl [D.int (arg d1 2).i]))
    else
      some (.inr (.inl [D.int (arg d1 2).i]))
  else
    some (.inr (.inl [D.int (arg d1 2).i]))
def sDecisionUntil.b (a0 a1 a2 a3 a4 : D) : Option (List D) :=
  Option.bind (sIsRequest.t [D.st [D.int (a3.f 0).i, D.int (a3.f 1).i, D.int (a3.f 2).i, D.int (a3.f 3).i, D.int (a3.f 4).i, D.int (a3.f 5).i]]) fun r1 =>
    bif !(res r1 0).b then
      some [D.int (a3.f 5).i]
    else
      Option.bind (sIsPolicy.t [D.st [D.int (a2.f 0).i, D.rows (a2.f 1).r]]) fun r2 =>
        bif !(res r2 0).b then
          some [D.int (a3.f 5).i]
        else
          Option.bind (sl1In.t [D.int a4.i, D.int 0, D.int 60]) fun r3 =>
            bif !(res r3 0).b then
              some [D.int (a3.f 5).i]
            else
              Option.bind (sDecideBy.t [D.rows a0.r, D.rows a1.r, D.st [D.int (a2.f 0).i, D.rows (a2.f 1).r], D.st [D.int (a3.f 0).i, D.int (a3.f 1).i, D.int (a3.f 2).i, D.int (a3.f 3).i, D.int (a3.f 4).i, D.int (a3.f 5).i]]) fun r4 =>
                loop (sDecisionUntil.l1) [D.int a4.i, D.int (res r4 0).i, D.int (a3.f 5).i, D.rows a0.r, D.rows a1.r, D.int (a2.f 0).i, D.int (a3.f 0).i, D.int (a3.f 1).i, D.int (a3.f 2).i, D.int (a3.f 3).i, D.int (a3.f 4).i, D.int (a3.f 5).i, D.rows (a2.f 1).r] (fun x1 =>
                  some [D.int (arg x1 0).i]) fun y1 => some y1
def sDecisionUntil.t (a : List D) : Option (List D) := sDecisionUntil.b (res a 0) (res a 1) (res a 2) (res a 3) (res a 4)
def sSaveDecision.b (a0 a1 a2 a3 a4 : D) : Option (List D) :=
  Option.bind (sDecideBy.t [D.rows a0.r, D.rows a1.r, D.st [D.int (a2.f 0).i, D.rows (a2.f 1).r], D.st [D.int (a3.f 0).i, D.int (a3.f 1).i, D.int (a3.f 2).i, D.int (a3.f 3).i, D.int (a3.f 4).i, D.int (a3.f 5).i]]) fun r1 =>
    Option.bind (sDecisionUntil.t [D.rows a0.r, D.rows a1.r, D.st [D.int (a2.f 0).i, D.rows (a2.f 1).r], D.st [D.int (a3.f 0).i, D.int (a3.f 1).i, D.int (a3.f 2).i, D.int (a3.f 3).i, D.int (a3.f 4).i, D.int (a3.f 5).i], D.int a4.i]) fun r2 =>
      some [D.st [D.int (a3.f 0).i, D.int (a3.f 1).i, D.int (a3.f 2).i, D.int (a3.f 3).i, D.int (a3.f 4).i, D.int (a3.f 5).i, D.int (res r1 0).i, D.int (res r2 0).i]]
def sSaveDecision.t (a : List D) : Option (List D) := sSaveDecision.b (res a 0) (res a 1) (res a 2) (res a 3) (res a 4)
def sPutSaved.l1 (d1 : List D) : LR :=
  bif ltI (arg d1 0).i ((arg d1 1).r.length : Int) then
    bif leI 0 (arg d1 0).i && ltI (arg d1 0).i ((arg d1 1).r.length : Int) then
      Option.bind (sSameQuestion.t [D.st [D.int (cell (arg d1 1).r (arg d1 0).i.toNat 0).i, D.int (cell (arg d1 1).r (arg d1 0).i.toNat 1).i, D.int (cell (arg d1 1).r (arg d1 0).i.toNat 2).i, D.int (cell (arg d1 1).r (arg d1 0).i.toNat 3).i, D.int (cell (arg d1 1).r (arg d1 0).i.toNat 4).i, D.int (cell (arg d1 1).r (arg d1 0).i.toNat 5).i], D.st [D.int (arg d1 2).i, D.int (arg d1 3).i, D.int (arg d1 4).i, D.int (arg d1 5).i, D.int (arg d1 6).i, D.int (arg d1 7).i]]) fun r1 =>
        bif !(res r1 0).b then
          bif leI 0 (arg d1 0).i && ltI (arg d1 0).i ((arg d1 1).r.length : Int) then
            bif leN ((arg d1 10).r.length + [[D.int (cell (arg d1 1).r (arg d1 0).i.toNat 0).i, D.int (cell (arg d1 1).r (arg d1 0).i.toNat 1).i, D.int (cell (arg d1 1).r (arg d1 0).i.toNat 2).i, D.int (cell (arg d1 1).r (arg d1 0).i.toNat 3).i, D.int (cell (arg d1 1).r (arg d1 0).i.toNat 4).i, D.int (cell (arg d1 1).r (arg d1 0).i.toNat 5).i, D.int (cell (arg d1 1).r (arg d1 0).i.toNat 6).i, D.int (cell (arg d1 1).r (arg d1 0).i.toNat 7).i]].length) 4294967296 then
              some (.inl [D.int (w64 ((arg d1 0).i + 1)), D.rows (arg d1 1).r, D.int (arg d1 2).i, D.int (arg d1 3).i, D.int (arg d1 4).i, D.int (arg d1 5).i, D.int (arg d1 6).i, D.int (arg d1 7).i, D.int (arg d1 8).i, D.int (arg d1 9).i, D.rows ((arg d1 10).r ++ [[D.int (cell (arg d1 1).r (arg d1 0).i.toNat 0).i, D.int (cell (arg d1 1).r (arg d1 0).i.toNat 1).i, D.int (cell (arg d1 1).r (arg d1 0).i.toNat 2).i, D.int (cell (arg d1 1).r (arg d1 0).i.toNat 3).i, D.int (cell (arg d1 1).r (arg d1 0).i.toNat 4).i, D.int (cell (arg d1 1).r (arg d1 0).i.toNat 5).i, D.int (cell (arg d1 1).r (arg d1 0).i.toNat 6).i, D.int (cell (arg d1 1).r (arg d1 0).i.toNat 7).i]])])
            else none
          else none
        else
          some (.inl [D.int (w64 ((arg d1 0).i + 1)), D.rows (arg d1 1).r, D.int (arg d1 2).i, D.int (arg d1 3).i, D.int (arg d1 4).i, D.int (arg d1 5).i, D.int (arg d1 6).i, D.int (arg d1 7).i, D.int (arg d1 8).i, D.int (arg d1 9).i, D.rows (arg d1 10).r])
    else none
  else
    some (.inr (.inl [D.int (arg d1 2).i, D.int (arg d1 3).i, D.int (arg d1 4).i, D.int (arg d1 5).i, D.int (arg d1 6).i, D.int (arg d1 7).i, D.int (arg d1 8).i, D.int (arg d1 9).i, D.rows (arg d1 10).r]))
def sPutSaved.b (a0 a1 : D) : Option (List D) :=
  loop (sPutSaved.l1) [D.int 0, D.rows a0.r, D.int (a1.f 0).i, D.int (a1.f 1).i, D.int (a1.f 2).i, D.int (a1.f 3).i, D.int (a1.f 4).i, D.int (a1.f 5).i, D.int (a1.f 6).i, D.int (a1.f 7).i, D.rows []] (fun x1 =>
    bif leN ((arg x1 8).r.length + [[D.int (arg x1 0).i, D.int (arg x1 1).i, D.int (arg x1 2).i, D.int (arg x1 3).i, D.int (arg x1 4).i, D.int (arg x1 5).i, D.int (arg x1 6).i, D.int (arg x1 7).i]].length) 4294967296 then
      bif gtI (((arg x1 8).r ++ [[D.int (arg x1 0).i, D.int (arg x1 1).i, D.int (arg x1 2).i, D.int (arg x1 3).i, D.int (arg x1 4).i, D.int (arg x1 5).i, D.int (arg x1 6).i, D.int (arg x1 7).i]]).length : Int) 8 then
        bif leI 1 (((arg x1 8).r ++ [[D.int (arg x1 0).i, D.int (arg x1 1).i, D.int (arg x1 2).i, D.int (arg x1 3).i, D.int (arg x1 4).i, D.int (arg x1 5).i, D.int (arg x1 6).i, D.int (arg x1 7).i]]).length : Int) && leI (((arg x1 8).r ++ [[D.int (arg x1 0).i, D.int (arg x1 1).i, D.int (arg x1 2).i, D.int (arg x1 3).i, D.int (arg x1 4).i, D.int (arg x1 5).i, D.int (arg x1 6).i, D.int (arg x1 7).i]]).length : Int) (((arg x1 8).r ++ [[D.int (arg x1 0).i, D.int (arg x1 1).i, D.int (arg x1 2).i, D.int (arg x1 3).i, D.int (arg x1 4).i, D.int (arg x1 5).i, D.int (arg x1 6).i, D.int (arg x1 7).i]]).length : Int) then
          some [D.rows ((((arg x1 8).r ++ [[D.int (arg x1 0).i, D.int (arg x1 1).i, D.int (arg x1 2).i, D.int (arg x1 3).i, D.int (arg x1 4).i, D.int (arg x1 5).i, D.int (arg x1 6).i, D.int (arg x1 7).i]]).drop 1).take (((arg x1 8).r ++ [[D.int (arg x1 0).i, D.int (arg x1 1).i, D.int (arg x1 2).i, D.int (arg x1 3).i, D.int (arg x1 4).i, D.int (arg x1 5).i, D.int (arg x1 6).i, D.int (arg x1 7).i]]).length - 1))]
        else none
      else
        some [D.rows ((arg x1 8).r ++ [[D.int (arg x1 0).i, D.int (arg x1 1).i, D.int (arg x1 2).i, D.int (arg x1 3).i, D.int (arg x1 4).i, D.int (arg x1 5).i, D.int (arg x1 6).i, D.int (arg x1 7).i]])]
    else none) fun y1 => some y1
def sPutSaved.t (a : List D) : Option (List D) := sPutSaved.b (res a 0) (res a 1)
def sAskPoint.b (a0 a1 a2 a3 : D) : Option (List D) :=
  Option.bind (sl27Copy.t [D.st [D.int (a0.f 0).i, D.int (a0.f 1).i, D.int (a0.f 2).i, D.rows (a0.f 3).r, D.int (a0.f 4).i, D.rows (a0.f 5).r, D.rows (a0.f 6).r, D.rows (a0.f 7).r, D.int (a0.f 8).i, D.rows (a0.f 9).r]]) fun r1 =>
    Option.bind (sIsRequest.t [D.st [D.int (a3.f 0).i, D.int (a3.f 1).i, D.int (a3.f 2).i, D.int (a3.f 3).i, D.int (a3.f 4).i, D.int (a3.f 5).i]]) fun r2 =>
      bif !(res r2 0).b then
        some [D.st [D.int ((res r1 0).f 0).i, D.int ((res r1 0).f 1).i, D.int ((res r1 0).f 2).i, D.rows ((res r1 0).f 3).r, D.int ((res r1 0).f 4).i, D.rows ((res r1 0).f 5).r, D.rows ((res r1 0).f 6).r, D.rows ((res r1 0).f 7).r, D.int ((res r1 0).f 8).i, D.rows ((res r1 0).f 9).r], D.int 4]
      else
        Option.bind (sCheckCert.t [D.int a1.i, D.st [D.int (a2.f 0).i, D.int (a2.f 1).i, D.int (a2.f 2).i, D.int (a2.f 3).i, D.int (a2.f 4).i, D.int (a2.f 5).i], D.int (a3.f 5).i]) fun r3 =>
          bif !(res r3 0).b then
            some [D.st [D.int ((res r1 0).f 0).i, D.int ((res r1 0).f 1).i, D.int ((res r1 0).f 2).i, D.rows ((res r1 0).f 3).r, D.int ((res r1 0).f 4).i, D.rows ((res r1 0).f 5).r, D.rows ((res r1 0).f 6).r, D.rows ((res r1 0).f 7).r, D.int ((res r1 0).f 8).i, D.rows ((res r1 0).f 9).r], D.int 4]
          else
            bif ((a2.f 1).i != (a3.f 1).i) then
              some [D.st [D.int ((res r1 0).f 0).i, D.int ((res r1 0).f 1).i, D.int ((res r1 0).f 2).i, D.rows ((res r1 0).f 3).r, D.int ((res r1 0).f 4).i, D.rows ((res r1 0).f 5).r, D.rows ((res r1 0).f 6).r, D.rows ((res r1 0).f 7).r, D.int ((res r1 0).f 8).i, D.rows ((res r1 0).f 9).r], D.int 4]
            else
              Option.bind (sIsCurrent.t [D.st [D.int (a0.f 0).i, D.int (a0.f 1).i, D.int (a0.f 2).i, D.rows (a0.f 3).r, D.int (a0.f 4).i, D.rows (a0.f 5).r, D.rows (a0.f 6).r, D.rows (a0.f 7).r, D.int (a0.f 8).i, D.rows (a0.f 9).r], D.int (a3.f 5).i]) fun r4 =>
                bif !(res r4 0).b then
                  some [D.st [D.int ((res r1 0).f 0).i, D.int ((res r1 0).f 1).i, D.int ((res r1 0).f 2).i, D.rows ((res r1 0).f 3).r, D.int ((res r1 0).f 4).i, D.rows ((res r1 0).f 5).r, D.rows ((res r1 0).f 6).r, D.rows ((res r1 0).f 7).r, D.int ((res r1 0).f 8).i, D.rows ((res r1 0).f 9).r], D.int 2]
                else
                  Option.bind (sIsRevoked.t [D.rows (a0.f 7).r, D.int (a2.f 0).i, D.int (a3.f 5).i]) fun r5 =>
                    bif (res r5 0).b then
                      some [D.st [D.int ((res r1 0).f 0).i, D.int ((res r1 0).f 1).i, D.int ((res r1 0).f 2).i, D.rows ((res r1 0).f 3).r, D.int ((res r1 0).f 4).i, D.rows ((res r1 0).f 5).r, D.rows ((res r1 0).f 6).r, D.rows ((res r1 0).f 7).r, D.int ((res r1 0).f 8).i, D.rows ((res r1 0).f 9).r], D.int 3]
                    else
                      Option.bind (sFindSaved.t [D.rows (a0.f 9).r, D.st [D.int (a3.f 0).i, D.int (a3.f 1).i, D.int (a3.f 2).i, D.int (a3.f 3).i, D.int (a3.f 4).i, D.int (a3.f 5).i]]) fun r6 =>
                        bif geI (res r6 0).i 0 then
                          bif leI 0 (res r6 0).i && ltI (res r6 0).i ((a0.f 9).r.length : Int) then
                            some [D.st [D.int ((res r1 0).f 0).i, D.int ((res r1 0).f 1).i, D.int ((res r1 0).f 2).i, D.rows ((res r1 0).f 3).r, D.int ((res r1 0).f 4).i, D.rows ((res r1 0).f 5).r, D.rows ((res r1 0).f 6).r, D.rows ((res r1 0).f 7).r, D.int ((res r1 0).f 8).i, D.rows ((res r1 0).f 9).r], D.int (cell (a0.f 9).r (res r6 0).i.toNat 6).i]
                          else none
                        else
                          Option.bind (sSaveDecision.t [D.rows (a0.f 3).r, D.rows (a0.f 6).r, D.st [D.int (a0.f 4).i, D.rows (a0.f 5).r], D.st [D.int (a3.f 0).i, D.int (a3.f 1).i, D.int (a3.f 2).i, D.int (a3.f 3).i, D.int (a3.f 4).i, D.int (a3.f 5).i], D.int 10]) fun r7 =>
                            Option.bind (sPutSaved.t [D.rows ((res r1 0).f 9).r, D.st [D.int ((res r7 0).f 0).i, D.int ((res r7 0).f 1).i, D.int ((res r7 0).f 2).i, D.int ((res r7 0).f 3).i, D.int ((res r7 0).f 4).i, D.int ((res r7 0).f 5).i, D.int ((res r7 0).f 6).i, D.int ((res r7 0).f 7).i]]) fun r8 =>
                              some [D.st [D.int ((res r1 0).f 0).i, D.int ((res r1 0).f 1).i, D.int ((res r1 0).f 2).i, D.rows ((res r1 0).f 3).r, D.int ((res r1 0).f 4).i, D.rows ((res r1 0).f 5).r, D.rows ((res r1 0).f 6).r, D.rows ((res r1 0).f 7).r, D.int ((res r1 0).f 8).i, D.rows (res r8 0).r], D.int ((res r7 0).f 6).i]
def sAskPoint.t (a : List D) : Option (List D) := sAskPoint.b (res a 0) (res a 1) (res a 2) (res a 3)
def sIsStillGood.b (a0 a1 a2 a3 a4 : D) : Option (List D) :=
  bif !(a0.f 9).b then
    some [D.bool false]
  else
    bif ((a1.f 0).i != (a0.f 1).i) then
      some [D.bool false]
    else
      bif ((a3.f 0).i != (a0.f 2).i) then
        some [D.bool false]
      else
        bif ltI a4.i (a0.f 8).i then
          some [D.bool false]
        else
          Option.bind (sAtTime.t [D.st [D.int (a0.f 3).i, D.int (a0.f 4).i, D.int (a0.f 5).i, D.int (a0.f 6).i, D.int (a0.f 7).i, D.int (a0.f 8).i], D.int a4.i]) fun r1 =>
            Option.bind (sAskPoint.t [D.st [D.int (a1.f 0).i, D.int (a1.f 1).i, D.int (a1.f 2).i, D.rows (a1.f 3).r, D.int (a1.f 4).i, D.rows (a1.f 5).r, D.rows (a1.f 6).r, D.rows (a1.f 7).r, D.int (a1.f 8).i, D.rows (a1.f 9).r], D.int a2.i, D.st [D.int (a3.f 0).i, D.int (a3.f 1).i, D.int (a3.f 2).i, D.int (a3.f 3).i, D.int (a3.f 4).i, D.int (a3.f 5).i], D.st [D.int ((res r1 0).f 0).i, D.int ((res r1 0).f 1).i, D.int ((res r1 0).f 2).i, D.int ((res r1 0).f 3).i, D.int ((res r1 0).f 4).i, D.int ((res r1 0).f 5).i]]) fun r2 =>
              some [D.bool ((res r2 1).i == 1)]
def sIsStillGood.t (a : List D) : Option (List D) := sIsStillGood.b (res a 0) (res a 1) (res a 2) (res a 3) (res a 4)
def sReviewSessions.l1 (d1 : List D) : LR :=
  bif ltI (arg d1 3).i ((arg d1 4).r.length : Int) then
    bif leI 0 (arg d1 3).i && ltI (arg d1 3).i ((arg d1 4).r.length : Int) then
      bif !(cell (arg d1 4).r (arg d1 3).i.toNat 9).b then
        some (.inl [D.int (arg d1 0).i, D.int (arg d1 1).i, D.int (arg d1 2).i, D.int (w64 ((arg d1 3).i + 1)), D.rows (arg d1 4).r, D.rows (arg d1 5).r, D.rows (arg d1 6).r, D.rows (arg d1 7).r])
      else
        bif leI 0 (arg d1 3).i && ltI (arg d1 3).i ((arg d1 4).r.length : Int) then
          Option.bind (sl35Point.t [D.rows (arg d1 5).r, D.int (cell (arg d1 4).r (arg d1 3).i.toNat 1).i]) fun r1 =>
            bif leI 0 (arg d1 3).i && ltI (arg d1 3).i ((arg d1 4).r.length : Int) then
              Option.bind (sl35Cert.t [D.rows (arg d1 6).r, D.int (cell (arg d1 4).r (arg d1 3).i.toNat 2).i]) fun r2 =>
                bif ltI (res r1 0).i 0 then
                  bif leI 0 (arg d1 3).i && ltI (arg d1 3).i ((arg d1 7).r.length : Int) then
                    some (.inl [D.int (arg d1 0).i, D.int (arg d1 1).i, D.int (w64 ((arg d1 2).i + 1)), D.int (w64 ((arg d1 3).i + 1)), D.rows (arg d1 4).r, D.rows (arg d1 5).r, D.rows (arg d1 6).r, D.rows (setCells (arg d1 7).r (arg d1 3).i.toNat 9 [D.bool false])])
                  else none
                else
                  bif ltI (res r2 0).i 0 then
                    bif leI 0 (arg d1 3).i && ltI (arg d1 3).i ((arg d1 7).r.length : Int) then
                      some (.inl [D.int (arg d1 0).i, D.int (arg d1 1).i, D.int (w64 ((arg d1 2).i + 1)), D.int (w64 ((arg d1 3).i + 1)), D.rows (arg d1 4).r, D.rows (arg d1 5).r, D.rows (arg d1 6).r, D.rows (setCells (arg d1 7).r (arg d1 3).i.toNat 9 [D.bool false])])
                    else none
                  else
                    bif leI 0 (arg d1 3).i && ltI (arg d1 3).i ((arg d1 4).r.length : Int) then
                      bif leI 0 (res r1 0).i && ltI (res r1 0).i ((arg d1 5).r.length : Int) then
                        bif leI 0 (res r2 0).i && ltI (res r2 0).i ((arg d1 6).r.length : Int) then
                          Option.bind (sIsStillGood.t [D.st [D.int (cell (arg d1 4).r (arg d1 3).i.toNat 0).i, D.int (cell (arg d1 4).r (arg d1 3).i.toNat 1).i, D.int (cell (arg d1 4).r (arg d1 3).i.toNat 2).i, D.int (cell (arg d1 4).r (arg d1 3).i.toNat 3).i, D.int (cell (arg d1 4).r (arg d1 3).i.toNat 4).i, D.int (cell (arg d1 4).r (arg d1 3).i.toNat 5).i, D.int (cell (arg d1 4).r (arg d1 3).i.toNat 6).i, D.int (cell (arg d1 4).r (arg d1 3).i.toNat 7).i, D.int (cell (arg d1 4).r (arg d1 3).i.toNat 8).i, D.bool (cell (arg d1 4).r (arg d1 3).i.toNat 9).b], D.st [D.int (cell (arg d1 5).r (res r1 0).i.toNat 0).i, D.int (cell (arg d1 5).r (res r1 0).i.toNat 1).i, D.int (cell (arg d1 5).r (res r1 0).i.toNat 2).i, D.rows (cell (arg d1 5).r (res r1 0).i.toNat 3).r, D.int (cell (arg d1 5).r (res r1 0).i.toNat 4).i, D.rows (cell (arg d1 5).r (res r1 0).i.toNat 5).r, D.rows (cell (arg d1 5).r (res r1 0).i.toNat 6).r, D.rows (cell (arg d1 5).r (res r1 0).i.toNat 7).r, D.int (cell (arg d1 5).r (res r1 0).i.toNat 8).i, D.rows (cell (arg d1 5).r (res r1 0).i.toNat 9).r], D.int (arg d1 0).i, D.st [D.int (cell (arg d1 6).r (res r2 0).i.toNat 0).i, D.int (cell (arg d1 6).r (res r2 0).i.toNat 1).i, D.int (cell (arg d1 6).r (res r2 0).i.toNat 2).i, D.int (cell (arg d1 6).r (res r2 0).i.toNat 3).i, D.int (cell (arg d1 6).r (res r2 0).i.toNat 4).i, D.int (cell (arg d1 6).r (res r2 0).i.toNat 5).i], D.int (arg d1 1).i]) fun r3 =>
                            bif !(res r3 0).b then
                              bif leI 0 (arg d1 3).i && ltI (arg d1 3).i ((arg d1 7).r.length : Int) then
                                some (.inl [D.int (arg d1 0).i, D.int (arg d1 1).i, D.int (w64 ((arg d1 2).i + 1)), D.int (w64 ((arg d1 3).i + 1)), D.rows (arg d1 4).r, D.rows (arg d1 5).r, D.rows (arg d1 6).r, D.rows (setCells (arg d1 7).r (arg d1 3).i.toNat 9 [D.bool false])])
                              else none
                            else
                              some (.inl [D.int (arg d1 0).i, D.int (arg d1 1).i, D.int (arg d1 2).i, D.int (w64 ((arg d1 3).i + 1)), D.rows (arg d1 4).r, D.rows (arg d1 5).r, D.rows (arg d1 6).r, D.rows (arg d1 7).r])
                        else none
                      else none
                    else none
            else none
        else none
    else none
  else
    some (.inr (.inl [D.int (arg d1 2).i, D.rows (arg d1 7).r]))
def sReviewSessions.b (a0 a1 a2 a3 a4 : D) : Option (List D) :=
  bif leN (N0.length + a0.r.length) 4294967296 then
    loop (sReviewSessions.l1) [D.int a2.i, D.int a4.i, D.int 0, D.int 0, D.rows a0.r, D.rows a1.r, D.rows a3.r, D.rows (N0 ++ a0.r)] (fun x1 =>
      some [D.rows (arg x1 1).r, D.int (arg x1 0).i]) fun y1 => some y1
  else none
def sReviewSessions.t (a : List D) : Option (List D) := sReviewSessions.b (res a 0) (res a 1) (res a 2) (res a 3) (res a 4)
def IndexFunc_Point.l1 (G : GF) (d1 : List D) : LR :=
  bif ltI (arg d1 2).i (arg d1 1).i then
    bif leI 0 (arg d1 2).i && ltI (arg d1 2).i ((arg d1 3).r.length : Int) then
      Option.bind (G (arg d1 0).i ([D.st [D.int (cell (arg d1 3).r (arg d1 2).i.toNat 0).i, D.int (cell (arg d1 3).r (arg d1 2).i.toNat 1).i, D.int (cell (arg d1 3).r (arg d1 2).i.toNat 2).i, D.rows (cell (arg d1 3).r (arg d1 2).i.toNat 3).r, D.int (cell (arg d1 3).r (arg d1 2).i.toNat 4).i, D.rows (cell (arg d1 3).r (arg d1 2).i.toNat 5).r, D.rows (cell (arg d1 3).r (arg d1 2).i.toNat 6).r, D.rows (cell (arg d1 3).r (arg d1 2).i.toNat 7).r, D.int (cell (arg d1 3).r (arg d1 2).i.toNat 8).i, D.rows (cell (arg d1 3).r (arg d1 2).i.toNat 9).r]] ++ (arg d1 0).r.map D.st)) fun r1 =>
        bif (res r1 0).b then
          some (.inr (.inr [D.int (arg d1 2).i]))
        else
          some (.inl [(arg d1 0), D.int (arg d1 1).i, D.int (w64 ((arg d1 2).i + 1)), D.rows (arg d1 3).r])
    else none
  else
    some (.inr (.inl []))
def IndexFunc_Point.b (G : GF) (a0 a1 : D) : Option (List D) :=
  loop (IndexFunc_Point.l1 G) [a1, D.int (a0.r.length : Int), D.int 0, D.rows a0.r] (fun x1 =>
    some [D.int (-1)]) fun y1 => some y1
def IndexFunc_Point.t (G : GF) (a : List D) : Option (List D) := IndexFunc_Point.b G (res a 0) (res a 1)
def ipointOf_c1.b (a0 a1 : D) : Option (List D) :=
  some [D.bool ((a0.f 0).i == (a1.f 0).i)]
def ipointOf_c1.t (a : List D) : Option (List D) := ipointOf_c1.b (res a 0) (res a 1)
def ipointOf.b (a0 a1 : D) : Option (List D) :=
  Option.bind (IndexFunc_Point.t (gf [(ipointOf_c1.n, ipointOf_c1.t)]) [D.rows a0.r, D.mk (ipointOf_c1.n : Int) false ⟨#[]⟩ [[D.int a1.i]]]) fun r1 =>
    some [D.int (res r1 0).i]
def ipointOf.t (a : List D) : Option (List D) := ipointOf.b (res a 0) (res a 1)
def IndexFunc_Cert.l1 (G : GF) (d1 : List D) : LR :=
  bif ltI (arg d1 2).i (arg d1 1).i then
    bif leI 0 (arg d1 2).i && ltI (arg d1 2).i ((arg d1 3).r.length : Int) then
      Option.bind (G (arg d1 0).i ([D.st [D.int (cell (arg d1 3).r (arg d1 2).i.toNat 0).i, D.int (cell (arg d1 3).r (arg d1 2).i.toNat 1).i, D.int (cell (arg d1 3).r (arg d1 2).i.toNat 2).i, D.int (cell (arg d1 3).r (arg d1 2).i.toNat 3).i, D.int (cell (arg d1 3).r (arg d1 2).i.toNat 4).i, D.int (cell (arg d1 3).r (arg d1 2).i.toNat 5).i]] ++ (arg d1 0).r.map D.st)) fun r1 =>
        bif (res r1 0).b then
          some (.inr (.inr [D.int (arg d1 2).i]))
        else
          some (.inl [(arg d1 0), D.int (arg d1 1).i, D.int (w64 ((arg d1 2).i + 1)), D.rows (arg d1 3).r])
    else none
  else
    some (.inr (.inl []))
def IndexFunc_Cert.b (G : GF) (a0 a1 : D) : Option (List D) :=
  loop (IndexFunc_Cert.l1 G) [a1, D.int (a0.r.length : Int), D.int 0, D.rows a0.r] (fun x1 =>
    some [D.int (-1)]) fun y1 => some y1
def IndexFunc_Cert.t (G : GF) (a : List D) : Option (List D) := IndexFunc_Cert.b G (res a 0) (res a 1)
def icertOf_c1.b (a0 a1 : D) : Option (List D) :=
  some [D.bool ((a0.f 0).i == (a1.f 0).i)]
def icertOf_c1.t (a : List D) : Option (List D) := icertOf_c1.b (res a 0) (res a 1)
def icertOf.b (a0 a1 : D) : Option (List D) :=
  Option.bind (IndexFunc_Cert.t (gf [(icertOf_c1.n, icertOf_c1.t)]) [D.rows a0.r, D.mk (icertOf_c1.n : Int) false ⟨#[]⟩ [[D.int a1.i]]]) fun r1 =>
    some [D.int (res r1 0).i]
def icertOf.t (a : List D) : Option (List D) := icertOf.b (res a 0) (res a 1)
def iAtTime.b (a0 a1 : D) : Option (List D) :=
  some [D.st [D.int (a0.f 0).i, D.int (a0.f 1).i, D.int (a0.f 2).i, D.int (a0.f 3).i, D.int (a0.f 4).i, D.int a1.i]]
def iAtTime.t (a : List D) : Option (List D) := iAtTime.b (res a 0) (res a 1)
def icopyCond.l1 (g : GT) (d1 : List D) : LR :=
  bif ltI (arg d1 1).i (arg d1 0).i then
    bif leI 0 (arg d1 1).i && ltI (arg d1 1).i ((arg d1 8).r.length : Int) then
      Option.bind (g icopyCond.n [D.st [D.int (cell (arg d1 8).r (arg d1 1).i.toNat 0).i, D.int (cell (arg d1 8).r (arg d1 1).i.toNat 1).i, D.int (cell (arg d1 8).r (arg d1 1).i.toNat 2).i, D.rows (cell (arg d1 8).r (arg d1 1).i.toNat 3).r]]) fun r1 =>
        bif leN ((arg d1 9).r.length + [[D.int ((res r1 0).f 0).i, D.int ((res r1 0).f 1).i, D.int ((res r1 0).f 2).i, D.rows ((res r1 0).f 3).r]].length) 4294967296 then
          some (.inl [D.int (arg d1 0).i, D.int (w64 ((arg d1 1).i + 1)), D.int (arg d1 2).i, D.int (arg d1 3).i, D.int (arg d1 4).i, D.int (arg d1 5).i, D.int (arg d1 6).i, D.int (arg d1 7).i, D.rows (arg d1 8).r, D.rows ((arg d1 9).r ++ [[D.int ((res r1 0).f 0).i, D.int ((res r1 0).f 1).i, D.int ((res r1 0).f 2).i, D.rows ((res r1 0).f 3).r]])])
        else none
    else none
  else
    some (.inr (.inl [D.int (arg d1 2).i, D.int (arg d1 3).i, D.int (arg d1 4).i, D.int (arg d1 5).i, D.int (arg d1 6).i, D.int (arg d1 7).i, D.rows (arg d1 9).r]))
def icopyCond.b (g : GT) (a0 : D) : Option (List D) :=
  loop (icopyCond.l1 g) [D.int ((a0.f 3).r.length : Int), D.int 0, D.int 0, D.int 0, D.int 0, D.int (a0.f 0).i, D.int (a0.f 1).i, D.int (a0.f 2).i, D.rows (a0.f 3).r, D.rows []] (fun x1 =>
    some [D.st [D.int (arg x1 3).i, D.int (arg x1 4).i, D.int (arg x1 5).i, D.rows (arg x1 6).r]]) fun y1 => some y1
def icopyCond.F : Nat → GT
  | 0 => fun _ _ => none
  | n + 1 => fun k => look (fun _ => none) [(icopyCond.n, fun a => icopyCond.b (icopyCond.F n) (res a 0))] k
def icopyCond.t (a : List D) : Option (List D) := lim fun n => icopyCond.F n icopyCond.n a
def icopyRules.l1 (d1 : List D) : LR :=
  bif ltI (arg d1 1).i (arg d1 0).i then
    bif leI 0 (arg d1 1).i && ltI (arg d1 1).i ((arg d1 3).r.length : Int) then
      Option.bind (icopyCond.t [D.st [D.int (cell (arg d1 3).r (arg d1 1).i.toNat 3).i, D.int (cell (arg d1 3).r (arg d1 1).i.toNat 4).i, D.int (cell (arg d1 3).r (arg d1 1).i.toNat 5).i, D.rows (cell (arg d1 3).r (arg d1 1).i.toNat 6).r]]) fun r1 =>
        bif leN ((arg d1 2).r.length + [[D.int (cell (arg d1 3).r (arg d1 1).i.toNat 0).i, D.int (cell (arg d1 3).r (arg d1 1).i.toNat 1).i, D.int (cell (arg d1 3).r (arg d1 1).i.toNat 2).i, D.int ((res r1 0).f 0).i, D.int ((res r1 0).f 1).i, D.int ((res r1 0).f 2).i, D.rows ((res r1 0).f 3).r]].length) 4294967296 then
          some (.inl [D.int (arg d1 0).i, D.int (w64 ((arg d1 1).i + 1)), D.rows ((arg d1 2).r ++ [[D.int (cell (arg d1 3).r (arg d1 1).i.toNat 0).i, D.int (cell (arg d1 3).r (arg d1 1).i.toNat 1).i, D.int (cell (arg d1 3).r (arg d1 1).i.toNat 2).i, D.int ((res r1 0).f 0).i, D.int ((res r1 0).f 1).i, D.int ((res r1 0).f 2).i, D.rows ((res r1 0).f 3).r]]), D.rows (arg d1 3).r])
        else none
    else none
  else
    some (.inr (.inl [D.rows (arg d1 2).r]))
def icopyRules.b (a0 : D) : Option (List D) :=
  loop (icopyRules.l1) [D.int (a0.r.length : Int), D.int 0, D.rows [], D.rows a0.r] (fun x1 =>
    some [D.rows (arg x1 0).r]) fun y1 => some y1
def icopyRules.t (a : List D) : Option (List D) := icopyRules.b (res a 0)
def icopyPolicy.b (a0 : D) : Option (List D) :=
  Option.bind (icopyRules.t [D.rows (a0.f 1).r]) fun r1 =>
    some [D.st [D.int (a0.f 0).i, D.rows (res r1 0).r]]
def icopyPolicy.t (a : List D) : Option (List D) := icopyPolicy.b (res a 0)
def icopyEpoch.b (a0 : D) : Option (List D) :=
  bif leN (N0.length + (a0.f 2).r.length) 4294967296 then
    Option.bind (icopyPolicy.t [D.st [D.int (a0.f 3).i, D.rows (a0.f 4).r]]) fun r1 =>
      some [D.st [D.int (a0.f 0).i, D.int (a0.f 1).i, D.rows (N0 ++ (a0.f 2).r), D.int ((res r1 0).f 0).i, D.rows ((res r1 0).f 1).r]]
  else none
def icopyEpoch.t (a : List D) : Option (List D) := icopyEpoch.b (res a 0)
def icopyFacts.b (a0 : D) : Option (List D) :=
  bif leN (N0.length + a0.r.length) 4294967296 then
    some [D.rows (N0 ++ a0.r)]
  else none
def icopyFacts.t (a : List D) : Option (List D) := icopyFacts.b (res a 0)
def icopyPoint.b (a0 : D) : Option (List D) :=
  Option.bind (icopyEpoch.t [D.st [D.int (a0.f 1).i, D.int (a0.f 2).i, D.rows (a0.f 3).r, D.int (a0.f 4).i, D.rows (a0.f 5).r]]) fun r1 =>
    Option.bind (icopyFacts.t [D.rows (a0.f 6).r]) fun r2 =>
      bif leN (N0.length + (a0.f 7).r.length) 4294967296 then
        bif leN (N0.length + (a0.f 9).r.length) 4294967296 then
          some [D.st [D.int (a0.f 0).i, D.int ((res r1 0).f 0).i, D.int ((res r1 0).f 1).i, D.rows ((res r1 0).f 2).r, D.int ((res r1 0).f 3).i, D.rows ((res r1 0).f 4).r, D.rows (res r2 0).r, D.rows (N0 ++ (a0.f 7).r), D.int (a0.f 8).i, D.rows (N0 ++ (a0.f 9).r)]]
        else none
      else none
def icopyPoint.t (a : List D) : Option (List D) := icopyPoint.b (res a 0)
def iInRange.b (a0 a1 a2 : D) : Option (List D) :=
  bif leI a1.i a0.i then
    some [D.bool (leI a0.i a2.i)]
  else
    some [D.bool false]
def iInRange.t (a : List D) : Option (List D) := iInRange.b (res a 0) (res a 1) (res a 2)
def iIsName.b (a0 : D) : Option (List D) :=
  Option.bind (iInRange.t [D.int a0.i, D.int 10, D.int 49]) fun r1 =>
    some [D.bool (res r1 0).b]
def iIsName.t (a : List D) : Option (List D) := iIsName.b (res a 0)
def iKindOf.b (a0 : D) : Option (List D) :=
  Option.bind (iIsName.t [D.int a0.i]) fun r1 =>
    bif !(res r1 0).b then
      some [D.int 0]
    else
      some [D.int (w64 (a0.i.tdiv 10))]
def iKindOf.t (a : List D) : Option (List D) := iKindOf.b (res a 0)
def iHasKind.b (a0 a1 : D) : Option (List D) :=
  Option.bind (iIsName.t [D.int a0.i]) fun r1 =>
    bif (res r1 0).b then
      Option.bind (iKindOf.t [D.int a0.i]) fun r2 =>
        some [D.bool ((res r2 0).i == a1.i)]
    else
      some [D.bool false]
def iHasKind.t (a : List D) : Option (List D) := iHasKind.b (res a 0) (res a 1)
def iIsTime.b (a0 : D) : Option (List D) :=
  Option.bind (iInRange.t [D.int a0.i, D.int 0, D.int 10000]) fun r1 =>
    some [D.bool (res r1 0).b]
def iIsTime.t (a : List D) : Option (List D) := iIsTime.b (res a 0)
def iIsRequest.b (a0 : D) : Option (List D) :=
  Option.bind (iHasKind.t [D.int (a0.f 0).i, D.int 1]) fun r1 =>
    bif (res r1 0).b then
      Option.bind (iHasKind.t [D.int (a0.f 1).i, D.int 2]) fun r2 =>
        bif (res r2 0).b then
          Option.bind (iHasKind.t [D.int (a0.f 2).i, D.int 3]) fun r3 =>
            bif (res r3 0).b then
              Option.bind (iHasKind.t [D.int (a0.f 4).i, D.int 4]) fun r4 =>
                bif (res r4 0).b then
                  Option.bind (iInRange.t [D.int (a0.f 3).i, D.int 0, D.int 5]) fun r5 =>
                    bif (res r5 0).b then
                      Option.bind (iIsTime.t [D.int (a0.f 5).i]) fun r6 =>
                        some [D.bool (res r6 0).b]
                    else
                      some [D.bool false]
                else
                  some [D.bool false]
            else
              some [D.bool false]
        else
          some [D.bool false]
    else
      some [D.bool false]
def iIsRequest.t (a : List D) : Option (List D) := iIsRequest.b (res a 0)
def iIsValidKey.b (a0 : D) : Option (List D) :=
  Option.bind (iInRange.t [D.int a0.i, D.int 1, D.int 2147483646]) fun r1 =>
    some [D.bool (res r1 0).b]
def iIsValidKey.t (a : List D) : Option (List D) := iIsValidKey.b (res a 0)
def iIsCert.b (a0 : D) : Option (List D) :=
  Option.bind (iInRange.t [D.int (a0.f 0).i, D.int 1, D.int 9999]) fun r1 =>
    bif (res r1 0).b then
      Option.bind (iIsName.t [D.int (a0.f 1).i]) fun r2 =>
        bif (res r2 0).b then
          Option.bind (iIsValidKey.t [D.int (a0.f 2).i]) fun r3 =>
            bif (res r3 0).b then
              Option.bind (iIsTime.t [D.int (a0.f 3).i]) fun r4 =>
                bif (res r4 0).b then
                  Option.bind (iIsTime.t [D.int (a0.f 4).i]) fun r5 =>
                    bif (res r5 0).b then
                      Option.bind (iInRange.t [D.int (w64 ((a0.f 4).i - (a0.f 3).i)), D.int 0, D.int 50]) fun r6 =>
                        some [D.bool (res r6 0).b]
                    else
                      some [D.bool false]
                else
                  some [D.bool false]
            else
              some [D.bool false]
        else
          some [D.bool false]
    else
      some [D.bool false]
def iIsCert.t (a : List D) : Option (List D) := iIsCert.b (res a 0)
def iIsWithin.b (a0 a1 a2 : D) : Option (List D) :=
  Option.bind (iIsTime.t [D.int a0.i]) fun r1 =>
    bif (res r1 0).b then
      Option.bind (iIsTime.t [D.int a1.i]) fun r2 =>
        bif (res r2 0).b then
          Option.bind (iIsTime.t [D.int a2.i]) fun r3 =>
            bif (res r3 0).b then
              Option.bind (iInRange.t [D.int a2.i, D.int a0.i, D.int a1.i]) fun r4 =>
                some [D.bool (res r4 0).b]
            else
              some [D.bool false]
        else
          some [D.bool false]
    else
      some [D.bool false]
def iIsWithin.t (a : List D) : Option (List D) := iIsWithin.b (res a 0) (res a 1) (res a 2)
def Grow_int.b (a0 a1 : D) : Option (List D) :=
  bif ltI a1.i 0 then
    none
  else
    bif gtI (w64 (a1.i - 0)) 0 then
      bif leI 0 (w64 (a1.i - 0)) && leI (w64 (a1.i - 0)) 4294967296 then
        bif leI 0 ((List.replicate (w64 (a1.i - 0)).toNat [D.z]).length : Int) then
          some [D.rows (((List.replicate (w64 (a1.i - 0)).toNat [D.z]).drop 0).take 0)]
        else none
      else none
    else
      some [D.rows []]
def Grow_int.t (a : List D) : Option (List D) := Grow_int.b (res a 0) (res a 1)
def Concat_int.l1 (d1 : List D) : LR :=
  bif ltI (arg d1 2).i (arg d1 1).i then
    bif leI 0 (arg d1 2).i && ltI (arg d1 2).i ((arg d1 3).r.length : Int) then
      bif ltI (w64 ((arg d1 0).i + ((cell (arg d1 3).r (arg d1 2).i.toNat 0).r.length : Int))) 0 then
        none
      else
        some (.inl [D.int (w64 ((arg d1 0).i + ((cell (arg d1 3).r (arg d1 2).i.toNat 0).r.length : Int))), D.int (arg d1 1).i, D.int (w64 ((arg d1 2).i + 1)), D.rows (arg d1 3).r])
    else none
  else
    some (.inr (.inl [D.int (arg d1 0).i, D.rows (arg d1 3).r]))
def Concat_int.l2 (d2 : List D) : LR :=
  bif ltI (arg d2 1).i (arg d2 0).i then
    bif leI 0 (arg d2 1).i && ltI (arg d2 1).i ((arg d2 3).r.length : Int) then
      bif leN ((arg d2 2).r.length + (cell (arg d2 3).r (arg d2 1).i.toNat 0).r.length) 4294967296 then
        some (.inl [D.int (arg d2 0).i, D.int (w64 ((arg d2 1).i + 1)), D.rows ((arg d2 2).r ++ (cell (arg d2 3).r (arg d2 1).i.toNat 0).r), D.rows (arg d2 3).r])
      else none
    else none
  else
    some (.inr (.inl [D.rows (arg d2 2).r]))
def Concat_int.b (a0 : D) : Option (List D) :=
  loop (Concat_int.l1) [D.int 0, D.int (a0.r.length : Int), D.int 0, D.rows a0.r] (fun x1 =>
    Option.bind (Grow_int.t [D.rows [], D.int (arg x1 0).i]) fun r1 =>
      loop (Concat_int.l2) [D.int ((arg x1 1).r.length : Int), D.int 0, D.rows (res r1 0).r, D.rows (arg x1 1).r] (fun x2 =>
        some [D.rows (arg x2 0).r]) fun y2 => some y2) fun y1 => some y1
def Concat_int.t (a : List D) : Option (List D) := Concat_int.b (res a 0)
def iMod.b (a0 a1 : D) : Option (List D) :=
  Option.bind (iInRange.t [D.int a1.i, D.int 1, D.int 1000000000000]) fun r1 =>
    bif !(res r1 0).b then
      some [D.int 0]
    else
      bif !(eqI a1.i 0) then
        bif !(eqI a1.i 0) then
          some [D.int ((w64 ((a0.i.tmod a1.i) + a1.i)).tmod a1.i)]
        else none
      else none
def iMod.t (a : List D) : Option (List D) := iMod.b (res a 0) (res a 1)
def iHash.l1 (d1 : List D) : LR :=
  bif ltI (arg d1 2).i (arg d1 1).i then
    bif leI 0 (arg d1 2).i && ltI (arg d1 2).i ((arg d1 3).r.length : Int) then
      Option.bind (iMod.t [D.int (cell (arg d1 3).r (arg d1 2).i.toNat 0).i, D.int 2147483647]) fun r1 =>
        some (.inl [D.int ((w64 ((w64 ((w64 ((arg d1 0).i * 1000003)) + (res r1 0).i)) + 13)).tmod 2147483647), D.int (arg d1 1).i, D.int (w64 ((arg d1 2).i + 1)), D.rows (arg d1 3).r])
    else none
  else
    some (.inr (.inl [D.int (arg d1 0).i]))
def iHash.b (a0 : D) : Option (List D) :=
  loop (iHash.l1) [D.int 11, D.int (a0.r.length : Int), D.int 0, D.rows a0.r] (fun x1 =>
    some [D.int (arg x1 0).i]) fun y1 => some y1
def iHash.t (a : List D) : Option (List D) := iHash.b (res a 0)
def iKeyedHash.b (a0 a1 : D) : Option (List D) :=
  Option.bind (Concat_int.t [D.rows [[D.rows [[D.int a0.i]]], [D.rows a1.r], [D.rows [[D.int a0.i]]]]]) fun r1 =>
    Option.bind (iHash.t [D.rows (res r1 0).r]) fun r2 =>
      some [D.int (res r2 0).i]
def iKeyedHash.t (a : List D) : Option (List D) := iKeyedHash.b (res a 0) (res a 1)
def iMarkCert.b (a0 a1 : D) : Option (List D) :=
  Option.bind (iKeyedHash.t [D.int a0.i, D.rows [[D.int (a1.f 0).i], [D.int (a1.f 1).i], [D.int (a1.f 2).i], [D.int (a1.f 3).i], [D.int (a1.f 4).i]]]) fun r1 =>
    some [D.st [D.int (a1.f 0).i, D.int (a1.f 1).i, D.int (a1.f 2).i, D.int (a1.f 3).i, D.int (a1.f 4).i, D.int (res r1 0).i]]
def iMarkCert.t (a : List D) : Option (List D) := iMarkCert.b (res a 0) (res a 1)
def iCheckCert.b (a0 a1 a2 : D) : Option (List D) :=
  Option.bind (iIsCert.t [D.st [D.int (a1.f 0).i, D.int (a1.f 1).i, D.int (a1.f 2).i, D.int (a1.f 3).i, D.int (a1.f 4).i, D.int (a1.f 5).i]]) fun r1 =>
    bif (res r1 0).b then
      Option.bind (iIsWithin.t [D.int (a1.f 3).i, D.int (a1.f 4).i, D.int a2.i]) fun r2 =>
        bif (res r2 0).b then
          Option.bind (iMarkCert.t [D.int a0.i, D.st [D.int (a1.f 0).i, D.int (a1.f 1).i, D.int (a1.f 2).i, D.int (a1.f 3).i, D.int (a1.f 4).i, D.int (a1.f 5).i]]) fun r3 =>
            some [D.bool ((((res r3 0).f 0).i == (a1.f 0).i) && ((((res r3 0).f 1).i == (a1.f 1).i) && ((((res r3 0).f 2).i == (a1.f 2).i) && ((((res r3 0).f 3).i == (a1.f 3).i) && ((((res r3 0).f 4).i == (a1.f 4).i) && ((((res r3 0).f 5).i == (a1.f 5).i) && true))))))]
        else
          some [D.bool false]
    else
      some [D.bool false]
def iCheckCert.t (a : List D) : Option (List D) := iCheckCert.b (res a 0) (res a 1) (res a 2)
def iAgeOf.b (a0 a1 : D) : Option (List D) :=
  Option.bind (iIsTime.t [D.int a0.i]) fun r1 =>
    bif !(res r1 0).b then
      some [D.int (-1)]
    else
      Option.bind (iIsTime.t [D.int a1.i]) fun r2 =>
        bif !(res r2 0).b then
          some [D.int (-1)]
        else
          bif gtI a0.i a1.i then
            some [D.int (-1)]
          else
            some [D.int (w64 (a1.i - a0.i))]
def iAgeOf.t (a : List D) : Option (List D) := iAgeOf.b (res a 0) (res a 1)
def iIsFresh.b (a0 a1 a2 : D) : Option (List D) :=
  Option.bind (iAgeOf.t [D.int a0.i, D.int a1.i]) fun r1 =>
    bif ((res r1 0).i != (-1)) then
      some [D.bool (leI (res r1 0).i a2.i)]
    else
      some [D.bool false]
def iIsFresh.t (a : List D) : Option (List D) := iIsFresh.b (res a 0) (res a 1) (res a 2)
def iIsCurrent.b (a0 a1 : D) : Option (List D) :=
  Option.bind (iIsFresh.t [D.int (a0.f 8).i, D.int a1.i, D.int 10]) fun r1 =>
    some [D.bool (res r1 0).b]
def iIsCurrent.t (a : List D) : Option (List D) := iIsCurrent.b (res a 0) (res a 1)
def IndexFunc_Revoked.l1 (G : GF) (d1 : List D) : LR :=
  bif ltI (arg d1 2).i (arg d1 1).i then
    bif leI 0 (arg d1 2).i && ltI (arg d1 2).i ((arg d1 3).r.length : Int) then
      Option.bind (G (arg d1 0).i ([D.st [D.int (cell (arg d1 3).r (arg d1 2).i.toNat 0).i, D.int (cell (arg d1 3).r (arg d1 2).i.toNat 1).i]] ++ (arg d1 0).r.map D.st)) fun r1 =>
        bif (res r1 0).b then
          some (.inr (.inr [D.int (arg d1 2).i]))
        else
          some (.inl [(arg d1 0), D.int (arg d1 1).i, D.int (w64 ((arg d1 2).i + 1)), D.rows (arg d1 3).r])
    else none
  else
    some (.inr (.inl []))
def IndexFunc_Revoked.b (G : GF) (a0 a1 : D) : Option (List D) :=
  loop (IndexFunc_Revoked.l1 G) [a1, D.int (a0.r.length : Int), D.int 0, D.rows a0.r] (fun x1 =>
    some [D.int (-1)]) fun y1 => some y1
def IndexFunc_Revoked.t (G : GF) (a : List D) : Option (List D) := IndexFunc_Revoked.b G (res a 0) (res a 1)
def iRevokedAt_c1.b (a0 a1 : D) : Option (List D) :=
  some [D.bool ((a0.f 0).i == (a1.f 0).i)]
def iRevokedAt_c1.t (a : List D) : Option (List D) := iRevokedAt_c1.b (res a 0) (res a 1)
def iRevokedAt.b (a0 a1 : D) : Option (List D) :=
  Option.bind (IndexFunc_Revoked.t (gf [(iRevokedAt_c1.n, iRevokedAt_c1.t)]) [D.rows a0.r, D.mk (iRevokedAt_c1.n : Int) false ⟨#[]⟩ [[D.int a1.i]]]) fun r1 =>
    bif ltI (res r1 0).i 0 then
      some [D.int (-1)]
    else
      bif leI 0 (res r1 0).i && ltI (res r1 0).i (a0.r.length : Int) then
        some [D.int (cell a0.r (res r1 0).i.toNat 1).i]
      else none
def iRevokedAt.t (a : List D) : Option (List D) := iRevokedAt.b (res a 0) (res a 1)
def iIsRevoked.b (a0 a1 a2 : D) : Option (List D) :=
  Option.bind (iRevokedAt.t [D.rows a0.r, D.int a1.i]) fun r1 =>
    Option.bind (iInRange.t [D.int (res r1 0).i, D.int 0, D.int a2.i]) fun r2 =>
      some [D.bool (res r2 0).b]
def iIsRevoked.t (a : List D) : Option (List D) := iIsRevoked.b (res a 0) (res a 1) (res a 2)
def IndexFunc_Saved.l1 (G : GF) (d1 : List D) : LR :=
  bif ltI (arg d1 2).i (arg d1 1).i then
    bif leI 0 (arg d1 2).i && ltI (arg d1 2).i ((arg d1 3).r.length : Int) then
      Option.bind (G (arg d1 0).i ([D.st [D.int (cell (arg d1 3).r (arg d1 2).i.toNat 0).i, D.int (cell (arg d1 3).r (arg d1 2).i.toNat 1).i, D.int (cell (arg d1 3).r (arg d1 2).i.toNat 2).i, D.int (cell (arg d1 3).r (arg d1 2).i.toNat 3).i, D.int (cell (arg d1 3).r (arg d1 2).i.toNat 4).i, D.int (cell (arg d1 3).r (arg d1 2).i.toNat 5).i, D.int (cell (arg d1 3).r (arg d1 2).i.toNat 6).i, D.int (cell (arg d1 3).r (arg d1 2).i.toNat 7).i]] ++ (arg d1 0).r.map D.st)) fun r1 =>
        bif (res r1 0).b then
          some (.inr (.inr [D.int (arg d1 2).i]))
        else
          some (.inl [(arg d1 0), D.int (arg d1 1).i, D.int (w64 ((arg d1 2).i + 1)), D.rows (arg d1 3).r])
    else none
  else
    some (.inr (.inl []))
def IndexFunc_Saved.b (G : GF) (a0 a1 : D) : Option (List D) :=
  loop (IndexFunc_Saved.l1 G) [a1, D.int (a0.r.length : Int), D.int 0, D.rows a0.r] (fun x1 =>
    some [D.int (-1)]) fun y1 => some y1
def IndexFunc_Saved.t (G : GF) (a : List D) : Option (List D) := IndexFunc_Saved.b G (res a 0) (res a 1)
def iSameQuestion.b (a0 a1 : D) : Option (List D) :=
  Option.bind (iAtTime.t [D.st [D.int (a0.f 0).i, D.int (a0.f 1).i, D.int (a0.f 2).i, D.int (a0.f 3).i, D.int (a0.f 4).i, D.int (a0.f 5).i], D.int (a1.f 5).i]) fun r1 =>
    some [D.bool ((((res r1 0).f 0).i == (a1.f 0).i) && ((((res r1 0).f 1).i == (a1.f 1).i) && ((((res r1 0).f 2).i == (a1.f 2).i) && ((((res r1 0).f 3).i == (a1.f 3).i) && ((((res r1 0).f 4).i == (a1.f 4).i) && ((((res r1 0).f 5).i == (a1.f 5).i) && true))))))]
def iSameQuestion.t (a : List D) : Option (List D) := iSameQuestion.b (res a 0) (res a 1)
def iFindSaved_c1.b (a0 a1 : D) : Option (List D) :=
  Option.bind (iSameQuestion.t [D.st [D.int (a0.f 0).i, D.int (a0.f 1).i, D.int (a0.f 2).i, D.int (a0.f 3).i, D.int (a0.f 4).i, D.int (a0.f 5).i], D.st [D.int (a1.f 0).i, D.int (a1.f 1).i, D.int (a1.f 2).i, D.int (a1.f 3).i, D.int (a1.f 4).i, D.int (a1.f 5).i]]) fun r1 =>
    bif (res r1 0).b then
      bif leI (a0.f 5).i (a1.f 5).i then
        some [D.bool (geI (a0.f 7).i (a1.f 5).i)]
      else
        some [D.bool false]
    else
      some [D.bool false]
def iFindSaved_c1.t (a : List D) : Option (List D) := iFindSaved_c1.b (res a 0) (res a 1)
def iFindSaved.b (a0 a1 : D) : Option (List D) :=
  Option.bind (IndexFunc_Saved.t (gf [(iFindSaved_c1.n, iFindSaved_c1.t)]) [D.rows a0.r, D.mk (iFindSaved_c1.n : Int) false ⟨#[]⟩ [[D.int (a1.f 0).i, D.int (a1.f 1).i, D.int (a1.f 2).i, D.int (a1.f 3).i, D.int (a1.f 4).i, D.int (a1.f 5).i]]]) fun r1 =>
    some [D.int (res r1 0).i]
def iFindSaved.t (a : List D) : Option (List D) := iFindSaved.b (res a 0) (res a 1)
def IndexFunc_Rule.l1 (G : GF) (d1 : List D) : LR :=
  bif ltI (arg d1 2).i (arg d1 1).i then
    bif leI 0 (arg d1 2).i && ltI (arg d1 2).i ((arg d1 3).r.length : Int) then
      Option.bind (G (arg d1 0).i ([D.st [D.int (cell (arg d1 3).r (arg d1 2).i.toNat 0).i, D.int (cell (arg d1 3).r (arg d1 2).i.toNat 1).i, D.int (cell (arg d1 3).r (arg d1 2).i.toNat 2).i, D.int (cell (arg d1 3).r (arg d1 2).i.toNat 3).i, D.int (cell (arg d1 3).r (arg d1 2).i.toNat 4).i, D.int (cell (arg d1 3).r (arg d1 2).i.toNat 5).i, D.rows (cell (arg d1 3).r (arg d1 2).i.toNat 6).r]] ++ (arg d1 0).r.map D.st)) fun r1 =>
        bif (res r1 0).b then
          some (.inr (.inr [D.int (arg d1 2).i]))
        else
          some (.inl [(arg d1 0), D.int (arg d1 1).i, D.int (w64 ((arg d1 2).i + 1)), D.rows (arg d1 3).r])
    else none
  else
    some (.inr (.inl []))
def IndexFunc_Rule.b (G : GF) (a0 a1 : D) : Option (List D) :=
  loop (IndexFunc_Rule.l1 G) [a1, D.int (a0.r.length : Int), D.int 0, D.rows a0.r] (fun x1 =>
    some [D.int (-1)]) fun y1 => some y1
def IndexFunc_Rule.t (G : GF) (a : List D) : Option (List D) := IndexFunc_Rule.b G (res a 0) (res a 1)
def ContainsFunc_Rule.b (G : GF) (a0 a1 : D) : Option (List D) :=
  Option.bind (IndexFunc_Rule.t G [D.rows a0.r, a1]) fun r1 =>
    some [D.bool (geI (res r1 0).i 0)]
def ContainsFunc_Rule.t (G : GF) (a : List D) : Option (List D) := ContainsFunc_Rule.b G (res a 0) (res a 1)
def iSizeOf.l1 (g : GT) (d1 : List D) : LR :=
  bif ltI (arg d1 2).i (arg d1 1).i then
    bif leI 0 (arg d1 2).i && ltI (arg d1 2).i ((arg d1 3).r.length : Int) then
      Option.bind (g iSizeOf.n [D.st [D.int (cell (arg d1 3).r (arg d1 2).i.toNat 0).i, D.int (cell (arg d1 3).r (arg d1 2).i.toNat 1).i, D.int (cell (arg d1 3).r (arg d1 2).i.toNat 2).i, D.rows (cell (arg d1 3).r (arg d1 2).i.toNat 3).r]]) fun r1 =>
        some (.inl [D.int (w64 ((arg d1 0).i + (res r1 0).i)), D.int (arg d1 1).i, D.int (w64 ((arg d1 2).i + 1)), D.rows (arg d1 3).r])
    else none
  else
    some (.inr (.inl [D.int (arg d1 0).i]))
def iSizeOf.b (g : GT) (a0 : D) : Option (List D) :=
  loop (iSizeOf.l1 g) [D.int 1, D.int ((a0.f 3).r.length : Int), D.int 0, D.rows (a0.f 3).r] (fun x1 =>
    some [D.int (arg x1 0).i]) fun y1 => some y1
def iSizeOf.F : Nat → GT
  | 0 => fun _ _ => none
  | n + 1 => fun k => look (fun _ => none) [(iSizeOf.n, fun a => iSizeOf.b (iSizeOf.F n) (res a 0))] k
def iSizeOf.t (a : List D) : Option (List D) := lim fun n => iSizeOf.F n iSizeOf.n a
def iArityOf.b (a0 : D) : Option (List D) :=
  bif (a0.i == 7) then
    some [D.int 1]
  else
    bif (a0.i == 8) then
      some [D.int 2]
    else
      bif (a0.i == 9) then
        some [D.int 2]
      else
        Option.bind (iInRange.t [D.int a0.i, D.int 1, D.int 6]) fun r1 =>
          bif (res r1 0).b then
            some [D.int 0]
          else
            some [D.int (-1)]
def iArityOf.t (a : List D) : Option (List D) := iArityOf.b (res a 0)
def iisNode.b (a0 : D) : Option (List D) :=
  bif ((a0.f 0).i == 2) then
    Option.bind (iInRange.t [D.int (a0.f 0).i, D.int 2, D.int 5]) fun r1 =>
      bif (res r1 0).b then
        Option.bind (iArityOf.t [D.int (a0.f 0).i]) fun r2 =>
          bif (((a0.f 3).r.length : Int) == (res r2 0).i) then
            Option.bind (iInRange.t [D.int (a0.f 1).i, D.int 0, D.int 5]) fun r3 =>
              bif (res r3 0).b then
                Option.bind (iInRange.t [D.int (a0.f 2).i, D.int 0, D.int 10000]) fun r4 =>
                  some [D.bool (res r4 0).b]
              else
                some [D.bool false]
          else
            some [D.bool false]
      else
        Option.bind (iArityOf.t [D.int (a0.f 0).i]) fun r5 =>
          bif (((a0.f 3).r.length : Int) == (res r5 0).i) then
            Option.bind (iInRange.t [D.int (a0.f 1).i, D.int 0, D.int 5]) fun r6 =>
              bif (res r6 0).b then
                Option.bind (iInRange.t [D.int (a0.f 2).i, D.int 0, D.int 0]) fun r7 =>
                  some [D.bool (res r7 0).b]
              else
                some [D.bool false]
          else
            some [D.bool false]
  else
    bif ((a0.f 0).i == 4) then
      Option.bind (iInRange.t [D.int (a0.f 0).i, D.int 2, D.int 5]) fun r8 =>
        bif (res r8 0).b then
          Option.bind (iArityOf.t [D.int (a0.f 0).i]) fun r9 =>
            bif (((a0.f 3).r.length : Int) == (res r9 0).i) then
              Option.bind (iInRange.t [D.int (a0.f 1).i, D.int 0, D.int 3]) fun r10 =>
                bif (res r10 0).b then
                  Option.bind (iInRange.t [D.int (a0.f 2).i, D.int 0, D.int 10000]) fun r11 =>
                    some [D.bool (res r11 0).b]
                else
                  some [D.bool false]
            else
              some [D.bool false]
        else
          Option.bind (iArityOf.t [D.int (a0.f 0).i]) fun r12 =>
            bif (((a0.f 3).r.length : Int) == (res r12 0).i) then
              Option.bind (iInRange.t [D.int (a0.f 1).i, D.int 0, D.int 3]) fun r13 =>
                bif (res r13 0).b then
                  Option.bind (iInRange.t [D.int (a0.f 2).i, D.int 0, D.int 0]) fun r14 =>
                    some [D.bool (res r14 0).b]
                else
                  some [D.bool false]
            else
              some [D.bool false]
    else
      bif ((a0.f 0).i == 5) then
        Option.bind (iInRange.t [D.int (a0.f 0).i, D.int 2, D.int 5]) fun r15 =>
          bif (res r15 0).b then
            Option.bind (iArityOf.t [D.int (a0.f 0).i]) fun r16 =>
              bif (((a0.f 3).r.length : Int) == (res r16 0).i) then
                Option.bind (iInRange.t [D.int (a0.f 1).i, D.int 0, D.int 3]) fun r17 =>
                  bif (res r17 0).b then
                    Option.bind (iInRange.t [D.int (a0.f 2).i, D.int 0, D.int 10000]) fun r18 =>
                      some [D.bool (res r18 0).b]
                  else
                    some [D.bool false]
              else
                some [D.bool false]
          else
            Option.bind (iArityOf.t [D.int (a0.f 0).i]) fun r19 =>
              bif (((a0.f 3).r.length : Int) == (res r19 0).i) then
                Option.bind (iInRange.t [D.int (a0.f 1).i, D.int 0, D.int 3]) fun r20 =>
                  bif (res r20 0).b then
                    Option.bind (iInRange.t [D.int (a0.f 2).i, D.int 0, D.int 0]) fun r21 =>
                      some [D.bool (res r21 0).b]
                  else
                    some [D.bool false]
              else
                some [D.bool false]
      else
        bif ((a0.f 0).i == 6) then
          Option.bind (iInRange.t [D.int (a0.f 0).i, D.int 2, D.int 5]) fun r22 =>
            bif (res r22 0).b then
              Option.bind (iArityOf.t [D.int (a0.f 0).i]) fun r23 =>
                bif (((a0.f 3).r.length : Int) == (res r23 0).i) then
                  Option.bind (iInRange.t [D.int (a0.f 1).i, D.int 0, D.int 10000]) fun r24 =>
                    bif (res r24 0).b then
                      Option.bind (iInRange.t [D.int (a0.f 2).i, D.int 0, D.int 10000]) fun r25 =>
                        some [D.bool (res r25 0).b]
                    else
                      some [D.bool false]
                else
                  some [D.bool false]
            else
              Option.bind (iArityOf.t [D.int (a0.f 0).i]) fun r26 =>
                bif (((a0.f 3).r.length : Int) == (res r26 0).i) then
                  Option.bind (iInRange.t [D.int (a0.f 1).i, D.int 0, D.int 10000]) fun r27 =>
                    bif (res r27 0).b then
                      Option.bind (iInRange.t [D.int (a0.f 2).i, D.int 0, D.int 0]) fun r28 =>
                        some [D.bool (res r28 0).b]
                    else
                      some [D.bool false]
                else
                  some [D.bool false]
        else
          Option.bind (iInRange.t [D.int (a0.f 0).i, D.int 2, D.int 5]) fun r29 =>
            bif (res r29 0).b then
              Option.bind (iArityOf.t [D.int (a0.f 0).i]) fun r30 =>
                bif (((a0.f 3).r.length : Int) == (res r30 0).i) then
                  Option.bind (iInRange.t [D.int (a0.f 1).i, D.int 0, D.int 0]) fun r31 =>
                    bif (res r31 0).b then
                      Option.bind (iInRange.t [D.int (a0.f 2).i, D.int 0, D.int 10000]) fun r32 =>
                        some [D.bool (res r32 0).b]
                    else
                      some [D.bool false]
                else
                  some [D.bool false]
            else
              Option.bind (iArityOf.t [D.int (a0.f 0).i]) fun r33 =>
                bif (((a0.f 3).r.length : Int) == (res r33 0).i) then
                  Option.bind (iInRange.t [D.int (a0.f 1).i, D.int 0, D.int 0]) fun r34 =>
                    bif (res r34 0).b then
                      Option.bind (iInRange.t [D.int (a0.f 2).i, D.int 0, D.int 0]) fun r35 =>
                        some [D.bool (res r35 0).b]
                    else
                      some [D.bool false]
                else
                  some [D.bool false]
def iisNode.t (a : List D) : Option (List D) := iisNode.b (res a 0)
def IndexFunc_Cond.l1 (G : GF) (d1 : List D) : LR :=
  bif ltI (arg d1 2).i (arg d1 1).i then
    bif leI 0 (arg d1 2).i && ltI (arg d1 2).i ((arg d1 3).r.length : Int) then
      Option.bind (G (arg d1 0).i ([D.st [D.int (cell (arg d1 3).r (arg d1 2).i.toNat 0).i, D.int (cell (arg d1 3).r (arg d1 2).i.toNat 1).i, D.int (cell (arg d1 3).r (arg d1 2).i.toNat 2).i, D.rows (cell (arg d1 3).r (arg d1 2).i.toNat 3).r]] ++ (arg d1 0).r.map D.st)) fun r1 =>
        bif (res r1 0).b then
          some (.inr (.inr [D.int (arg d1 2).i]))
        else
          some (.inl [(arg d1 0), D.int (arg d1 1).i, D.int (w64 ((arg d1 2).i + 1)), D.rows (arg d1 3).r])
    else none
  else
    some (.inr (.inl []))
def IndexFunc_Cond.b (G : GF) (a0 a1 : D) : Option (List D) :=
  loop (IndexFunc_Cond.l1 G) [a1, D.int (a0.r.length : Int), D.int 0, D.rows a0.r] (fun x1 =>
    some [D.int (-1)]) fun y1 => some y1
def IndexFunc_Cond.t (G : GF) (a : List D) : Option (List D) := IndexFunc_Cond.b G (res a 0) (res a 1)
def ContainsFunc_Cond.b (G : GF) (a0 a1 : D) : Option (List D) :=
  Option.bind (IndexFunc_Cond.t G [D.rows a0.r, a1]) fun r1 =>
    some [D.bool (geI (res r1 0).i 0)]
def ContainsFunc_Cond.t (G : GF) (a : List D) : Option (List D) := ContainsFunc_Cond.b G (res a 0) (res a 1)
def iareNodes_c1.b (g : GT) (a0 : D) : Option (List D) :=
  Option.bind (g iareNodes.n [D.st [D.int (a0.f 0).i, D.int (a0.f 1).i, D.int (a0.f 2).i, D.rows (a0.f 3).r]]) fun r1 =>
    some [D.bool (!(res r1 0).b)]
def iareNodes.b (g : GT) (a0 : D) : Option (List D) :=
  Option.bind (iisNode.t [D.st [D.int (a0.f 0).i, D.int (a0.f 1).i, D.int (a0.f 2).i, D.rows (a0.f 3).r]]) fun r1 =>
    bif (res r1 0).b then
      Option.bind (ContainsFunc_Cond.t (gf [(iareNodes_c1.n, g iareNodes_c1.n)]) [D.rows (a0.f 3).r, D.mk (iareNodes_c1.n : Int) false ⟨#[]⟩ []]) fun r2 =>
        some [D.bool (!(res r2 0).b)]
    else
      some [D.bool false]
def iareNodes_c1.F : Nat → GT
  | 0 => fun _ _ => none
  | n + 1 => fun k => look (fun _ => none) [(iareNodes_c1.n, fun a => iareNodes_c1.b (iareNodes_c1.F n) (res a 0)), (iareNodes.n, fun a => iareNodes.b (iareNodes_c1.F n) (res a 0))] k
def iareNodes_c1.t (a : List D) : Option (List D) := lim fun n => iareNodes_c1.F n iareNodes_c1.n a
def iareNodes.t (a : List D) : Option (List D) := lim fun n => iareNodes_c1.F n iareNodes.n a
def iIsCond.b (a0 : D) : Option (List D) :=
  Option.bind (iSizeOf.t [D.st [D.int (a0.f 0).i, D.int (a0.f 1).i, D.int (a0.f 2).i, D.rows (a0.f 3).r]]) fun r1 =>
    bif leI (res r1 0).i 15 then
      Option.bind (iareNodes.t [D.st [D.int (a0.f 0).i, D.int (a0.f 1).i, D.int (a0.f 2).i, D.rows (a0.f 3).r]]) fun r2 =>
        some [D.bool (res r2 0).b]
    else
      some [D.bool false]
def iIsCond.t (a : List D) : Option (List D) := iIsCond.b (res a 0)
def iIsRule.b (a0 : D) : Option (List D) :=
  Option.bind (iInRange.t [D.int (a0.f 0).i, D.int 0, D.int 1]) fun r1 =>
    bif (res r1 0).b then
      Option.bind (iInRange.t [D.int (a0.f 1).i, D.int (-1), D.int 5]) fun r2 =>
        bif (res r2 0).b then
          bif ((a0.f 2).i == (-1)) then
            Option.bind (iIsCond.t [D.st [D.int (a0.f 3).i, D.int (a0.f 4).i, D.int (a0.f 5).i, D.rows (a0.f 6).r]]) fun r3 =>
              some [D.bool (res r3 0).b]
          else
            Option.bind (iHasKind.t [D.int (a0.f 2).i, D.int 4]) fun r4 =>
              bif (res r4 0).b then
                Option.bind (iIsCond.t [D.st [D.int (a0.f 3).i, D.int (a0.f 4).i, D.int (a0.f 5).i, D.rows (a0.f 6).r]]) fun r5 =>
                  some [D.bool (res r5 0).b]
              else
                some [D.bool false]
        else
          some [D.bool false]
    else
      some [D.bool false]
def iIsRule.t (a : List D) : Option (List D) := iIsRule.b (res a 0)
def iIsPolicy_c1.b (a0 : D) : Option (List D) :=
  Option.bind (iIsRule.t [D.st [D.int (a0.f 0).i, D.int (a0.f 1).i, D.int (a0.f 2).i, D.int (a0.f 3).i, D.int (a0.f 4).i, D.int (a0.f 5).i, D.rows (a0.f 6).r]]) fun r1 =>
    some [D.bool (!(res r1 0).b)]
def iIsPolicy_c1.t (a : List D) : Option (List D) := iIsPolicy_c1.b (res a 0)
def iIsPolicy.b (a0 : D) : Option (List D) :=
  Option.bind (iInRange.t [D.int (a0.f 0).i, D.int 0, D.int 999]) fun r1 =>
    bif (res r1 0).b then
      bif leI ((a0.f 1).r.length : Int) 8 then
        Option.bind (ContainsFunc_Rule.t (gf [(iIsPolicy_c1.n, iIsPolicy_c1.t)]) [D.rows (a0.f 1).r, D.mk (iIsPolicy_c1.n : Int) false ⟨#[]⟩ []]) fun r2 =>
          some [D.bool (!(res r2 0).b)]
      else
        some [D.bool false]
    else
      some [D.bool false]
def iIsPolicy.t (a : List D) : Option (List D) := iIsPolicy.b (res a 0)
def iIsFor.b (a0 a1 a2 : D) : Option (List D) :=
  bif ((a0.f 1).i == (-1)) then
    bif ((a0.f 2).i == (-1)) then
      some [D.bool true]
    else
      some [D.bool ((a0.f 2).i == a2.i)]
  else
    bif ((a0.f 1).i == a1.i) then
      bif ((a0.f 2).i == (-1)) then
        some [D.bool true]
      else
        some [D.bool ((a0.f 2).i == a2.i)]
    else
      some [D.bool false]
def iIsFor.t (a : List D) : Option (List D) := iIsFor.b (res a 0) (res a 1) (res a 2)
def ievalWith.b (g : GT) (G : GF) (a0 a1 : D) : Option (List D) :=
  bif ((a0.f 0).i == 7) then
    bif ltI 0 ((a0.f 3).r.length : Int) then
      Option.bind (g ievalWith.n [D.st [D.int (cell (a0.f 3).r 0 0).i, D.int (cell (a0.f 3).r 0 1).i, D.int (cell (a0.f 3).r 0 2).i, D.rows (cell (a0.f 3).r 0 3).r], a1]) fun r1 =>
        some [D.bool (!(res r1 0).b)]
    else none
  else
    bif ((a0.f 0).i == 8) then
      bif ltI 0 ((a0.f 3).r.length : Int) then
        Option.bind (g ievalWith.n [D.st [D.int (cell (a0.f 3).r 0 0).i, D.int (cell (a0.f 3).r 0 1).i, D.int (cell (a0.f 3).r 0 2).i, D.rows (cell (a0.f 3).r 0 3).r], a1]) fun r2 =>
          bif (res r2 0).b then
            bif ltI 1 ((a0.f 3).r.length : Int) then
              Option.bind (g ievalWith.n [D.st [D.int (cell (a0.f 3).r 1 0).i, D.int (cell (a0.f 3).r 1 1).i, D.int (cell (a0.f 3).r 1 2).i, D.rows (cell (a0.f 3).r 1 3).r], a1]) fun r3 =>
                some [D.bool (res r3 0).b]
            else none
          else
            some [D.bool false]
      else none
    else
      bif ((a0.f 0).i == 9) then
        bif ltI 0 ((a0.f 3).r.length : Int) then
          Option.bind (g ievalWith.n [D.st [D.int (cell (a0.f 3).r 0 0).i, D.int (cell (a0.f 3).r 0 1).i, D.int (cell (a0.f 3).r 0 2).i, D.rows (cell (a0.f 3).r 0 3).r], a1]) fun r4 =>
            bif (res r4 0).b then
              some [D.bool true]
            else
              bif ltI 1 ((a0.f 3).r.length : Int) then
                Option.bind (g ievalWith.n [D.st [D.int (cell (a0.f 3).r 1 0).i, D.int (cell (a0.f 3).r 1 1).i, D.int (cell (a0.f 3).r 1 2).i, D.rows (cell (a0.f 3).r 1 3).r], a1]) fun r5 =>
                  some [D.bool (res r5 0).b]
              else none
        else none
      else
        Option.bind (G a1.i ([D.st [D.int (a0.f 0).i, D.int (a0.f 1).i, D.int (a0.f 2).i, D.rows (a0.f 3).r]] ++ a1.r.map D.st)) fun r6 =>
          some [D.bool (res r6 0).b]
def ievalWith.F (G : GF) : Nat → GT
  | 0 => fun _ _ => none
  | n + 1 => fun k => look (fun _ => none) [(ievalWith.n, fun a => ievalWith.b (ievalWith.F G n) G (res a 0) (res a 1))] k
def ievalWith.t (G : GF) (a : List D) : Option (List D) := lim fun n => ievalWith.F G n ievalWith.n a
def iisClaim.b (a0 : D) : Option (List D) :=
  bif ((a0.f 0).i == 1) then
    Option.bind (iHasKind.t [D.int (a0.f 1).i, D.int 1]) fun r1 =>
      bif (res r1 0).b then
        Option.bind (iInRange.t [D.int (a0.f 2).i, D.int 0, D.int 5]) fun r2 =>
          some [D.bool (res r2 0).b]
      else
        some [D.bool false]
  else
    bif ((a0.f 0).i == 2) then
      Option.bind (iHasKind.t [D.int (a0.f 1).i, D.int 1]) fun r3 =>
        bif (res r3 0).b then
          Option.bind (iHasKind.t [D.int (a0.f 2).i, D.int 2]) fun r4 =>
            some [D.bool (res r4 0).b]
        else
          some [D.bool false]
    else
      bif ((a0.f 0).i == 3) then
        Option.bind (iHasKind.t [D.int (a0.f 1).i, D.int 2]) fun r5 =>
          bif (res r5 0).b then
            Option.bind (iInRange.t [D.int (a0.f 2).i, D.int 0, D.int 3]) fun r6 =>
              some [D.bool (res r6 0).b]
          else
            some [D.bool false]
      else
        bif ((a0.f 0).i == 4) then
          Option.bind (iHasKind.t [D.int (a0.f 1).i, D.int 3]) fun r7 =>
            bif (res r7 0).b then
              Option.bind (iInRange.t [D.int (a0.f 2).i, D.int 0, D.int 3]) fun r8 =>
                some [D.bool (res r8 0).b]
            else
              some [D.bool false]
        else
          some [D.bool false]
def iisClaim.t (a : List D) : Option (List D) := iisClaim.b (res a 0)
def iIsFact.b (a0 : D) : Option (List D) :=
  Option.bind (iisClaim.t [D.st [D.int (a0.f 0).i, D.int (a0.f 1).i, D.int (a0.f 2).i, D.int (a0.f 3).i, D.int (a0.f 4).i, D.int (a0.f 5).i]]) fun r1 =>
    bif (res r1 0).b then
      Option.bind (iInRange.t [D.int (a0.f 3).i, D.int 0, D.int 9]) fun r2 =>
        bif (res r2 0).b then
          Option.bind (iIsTime.t [D.int (a0.f 4).i]) fun r3 =>
            bif (res r3 0).b then
              Option.bind (iIsTime.t [D.int (a0.f 5).i]) fun r4 =>
                bif (res r4 0).b then
                  some [D.bool (leI (a0.f 4).i (a0.f 5).i)]
                else
                  some [D.bool false]
            else
              some [D.bool false]
        else
          some [D.bool false]
    else
      some [D.bool false]
def iIsFact.t (a : List D) : Option (List D) := iIsFact.b (res a 0)
def iHoldsAt.b (a0 a1 a2 : D) : Option (List D) :=
  Option.bind (iIsFact.t [D.st [D.int (a0.f 0).i, D.int (a0.f 1).i, D.int (a0.f 2).i, D.int (a0.f 3).i, D.int (a0.f 4).i, D.int (a0.f 5).i]]) fun r1 =>
    bif (res r1 0).b then
      Option.bind (iIsWithin.t [D.int (a0.f 4).i, D.int (a0.f 5).i, D.int a1.i]) fun r2 =>
        bif (res r2 0).b then
          Option.bind (iAgeOf.t [D.int (a0.f 4).i, D.int a1.i]) fun r3 =>
            some [D.bool (leI (res r3 0).i a2.i)]
        else
          some [D.bool false]
    else
      some [D.bool false]
def iHoldsAt.t (a : List D) : Option (List D) := iHoldsAt.b (res a 0) (res a 1) (res a 2)
def iisRole.b (a0 : D) : Option (List D) :=
  Option.bind (iInRange.t [D.int a0.i, D.int 0, D.int 5]) fun r1 =>
    some [D.bool (res r1 0).b]
def iisRole.t (a : List D) : Option (List D) := iisRole.b (res a 0)
def ibelow.l2 (d2 : List D) : LR :=
  bif ltI (arg d2 4).i (arg d2 3).i then
    bif leI 0 (arg d2 4).i && ltI (arg d2 4).i ((arg d2 5).r.length : Int) then
      bif ((cell (arg d2 5).r (arg d2 4).i.toNat 0).i == (arg d2 2).i) then
        Option.bind (iisRole.t [D.int (cell (arg d2 5).r (arg d2 4).i.toNat 1).i]) fun r1 =>
          bif (res r1 0).b then
            bif leI 0 (cell (arg d2 5).r (arg d2 4).i.toNat 1).i && ltI (cell (arg d2 5).r (arg d2 4).i.toNat 1).i 6 then
              bif !(nth D.z [D.bool (arg d2 12).b, D.bool (arg d2 13).b, D.bool (arg d2 14).b, D.bool (arg d2 15).b, D.bool (arg d2 16).b, D.bool (arg d2 17).b] (cell (arg d2 5).r (arg d2 4).i.toNat 1).i.toNat).b then
                bif leI 0 (cell (arg d2 5).r (arg d2 4).i.toNat 1).i && ltI (cell (arg d2 5).r (arg d2 4).i.toNat 1).i 6 then
                  bif leN ((((arg d2 18).r.drop (arg d2 0).i.toNat).take (arg d2 1).i.toNat).length + [[D.int (cell (arg d2 5).r (arg d2 4).i.toNat 1).i]].length) 4294967296 then
                    some (.inl [D.int 0, D.int (((((arg d2 18).r.drop (arg d2 0).i.toNat).take (arg d2 1).i.toNat) ++ [[D.int (cell (arg d2 5).r (arg d2 4).i.toNat 1).i]]).length : Int), D.int (arg d2 2).i, D.int (arg d2 3).i, D.int (w64 ((arg d2 4).i + 1)), D.rows (arg d2 5).r, D.bool (arg d2 6).b, D.bool (arg d2 7).b, D.bool (arg d2 8).b, D.bool (arg d2 9).b, D.bool (arg d2 10).b, D.bool (arg d2 11).b, D.bool (bif Nat.beq (cell (arg d2 5).r (arg d2 4).i.toNat 1).i.toNat 0 then true else (arg d2 12).b), D.bool (bif Nat.beq (cell (arg d2 5).r (arg d2 4).i.toNat 1).i.toNat 1 then true else (arg d2 13).b), D.bool (bif Nat.beq (cell (arg d2 5).r (arg d2 4).i.toNat 1).i.toNat 2 then true else (arg d2 14).b), D.bool (bif Nat.beq (cell (arg d2 5).r (arg d2 4).i.toNat 1).i.toNat 3 then true else (arg d2 15).b), D.bool (bif Nat.beq (cell (arg d2 5).r (arg d2 4).i.toNat 1).i.toNat 4 then true else (arg d2 16).b), D.bool (bif Nat.beq (cell (arg d2 5).r (arg d2 4).i.toNat 1).i.toNat 5 then true else (arg d2 17).b), D.rows ((((arg d2 18).r.drop (arg d2 0).i.toNat).take (arg d2 1).i.toNat) ++ [[D.int (cell (arg d2 5).r (arg d2 4).i.toNat 1).i]])])
                  else none
                else none
              else
                some (.inl [D.int ((arg d2 0).i.toNat : Int), D.int ((arg d2 1).i.toNat : Int), D.int (arg d2 2).i, D.int (arg d2 3).i, D.int (w64 ((arg d2 4).i + 1)), D.rows (arg d2 5).r, D.bool (arg d2 6).b, D.bool (arg d2 7).b, D.bool (arg d2 8).b, D.bool (arg d2 9).b, D.bool (arg d2 10).b, D.bool (arg d2 11).b, D.bool (arg d2 12).b, D.bool (arg d2 13).b, D.bool (arg d2 14).b, D.bool (arg d2 15).b, D.bool (arg d2 16).b, D.bool (arg d2 17).b, D.rows (arg d2 18).r])
            else none
          else
            some (.inl [D.int ((arg d2 0).i.toNat : Int), D.int ((arg d2 1).i.toNat : Int), D.int (arg d2 2).i, D.int (arg d2 3).i, D.int (w64 ((arg d2 4).i + 1)), D.rows (arg d2 5).r, D.bool (arg d2 6).b, D.bool (arg d2 7).b, D.bool (arg d2 8).b, D.bool (arg d2 9).b, D.bool (arg d2 10).b, D.bool (arg d2 11).b, D.bool (arg d2 12).b, D.bool (arg d2 13).b, D.bool (arg d2 14).b, D.bool (arg d2 15).b, D.bool (arg d2 16).b, D.bool (arg d2 17).b, D.rows (arg d2 18).r])
      else
        some (.inl [D.int ((arg d2 0).i.toNat : Int), D.int ((arg d2 1).i.toNat : Int), D.int (arg d2 2).i, D.int (arg d2 3).i, D.int (w64 ((arg d2 4).i + 1)), D.rows (arg d2 5).r, D.bool (arg d2 6).b, D.bool (arg d2 7).b, D.bool (arg d2 8).b, D.bool (arg d2 9).b, D.bool (arg d2 10).b, D.bool (arg d2 11).b, D.bool (arg d2 12).b, D.bool (arg d2 13).b, D.bool (arg d2 14).b, D.bool (arg d2 15).b, D.bool (arg d2 16).b, D.bool (arg d2 17).b, D.rows (arg d2 18).r])
    else none
  else
    some (.inr (.inl [D.int ((arg d2 0).i.toNat : Int), D.int ((arg d2 1).i.toNat : Int), D.rows (arg d2 5).r, D.bool (arg d2 6).b, D.bool (arg d2 7).b, D.bool (arg d2 8).b, D.bool (arg d2 9).b, D.bool (arg d2 10).b, D.bool (arg d2 11).b, D.bool (arg d2 12).b, D.bool (arg d2 13).b, D.bool (arg d2 14).b, D.bool (arg d2 15).b, D.bool (arg d2 16).b, D.bool (arg d2 17).b, D.rows (arg d2 18).r]))
def ibelow.l1 (d1 : List D) : LR :=
  bif gtI ((arg d1 1).i.toNat : Int) 0 then
    bif ltI 0 ((arg d1 1).i.toNat : Int) then
      bif leI 1 ((arg d1 1).i.toNat : Int) && leI ((arg d1 1).i.toNat : Int) ((arg d1 1).i.toNat : Int) then
        loop (ibelow.l2) [D.int ((1 + (arg d1 0).i.toNat : Nat) : Int), D.int (((arg d1 1).i.toNat - 1 : Nat) : Int), D.int (cell (arg d1 15).r (0 + (arg d1 0).i.toNat) 0).i, D.int ((arg d1 2).r.length : Int), D.int 0, D.rows (arg d1 2).r, D.bool (arg d1 3).b, D.bool (arg d1 4).b, D.bool (arg d1 5).b, D.bool (arg d1 6).b, D.bool (arg d1 7).b, D.bool (arg d1 8).b, D.bool (arg d1 9).b, D.bool (arg d1 10).b, D.bool (arg d1 11).b, D.bool (arg d1 12).b, D.bool (arg d1 13).b, D.bool (arg d1 14).b, D.rows (arg d1 15).r] (fun x2 =>
          some (.inl [D.int ((arg x2 0).i.toNat : Int), D.int ((arg x2 1).i.toNat : Int), D.rows (arg x2 2).r, D.bool (arg x2 3).b, D.bool (arg x2 4).b, D.bool (arg x2 5).b, D.bool (arg x2 6).b, D.bool (arg x2 7).b, D.bool (arg x2 8).b, D.bool (arg x2 9).b, D.bool (arg x2 10).b, D.bool (arg x2 11).b, D.bool (arg x2 12).b, D.bool (arg x2 13).b, D.bool (arg x2 14).b, D.rows (arg x2 15).r])) fun y2 => some (.inr (.inr y2))
      else none
    else none
  else
    some (.inr (.inl [D.bool (arg d1 3).b, D.bool (arg d1 4).b, D.bool (arg d1 5).b, D.bool (arg d1 6).b, D.bool (arg d1 7).b, D.bool (arg d1 8).b, D.bool (arg d1 9).b, D.bool (arg d1 10).b, D.bool (arg d1 11).b, D.bool (arg d1 12).b, D.bool (arg d1 13).b, D.bool (arg d1 14).b]))
def ibelow.b (a0 a1 : D) : Option (List D) :=
  loop (ibelow.l1) [D.int 0, D.int ([[D.int a1.i]].length : Int), D.rows a0.r, D.bool false, D.bool false, D.bool false, D.bool false, D.bool false, D.bool false, D.bool false, D.bool false, D.bool false, D.bool false, D.bool false, D.bool false, D.rows [[D.int a1.i]]] (fun x1 =>
    some [D.st [D.bool (arg x1 6).b, D.bool (arg x1 7).b, D.bool (arg x1 8).b, D.bool (arg x1 9).b, D.bool (arg x1 10).b, D.bool (arg x1 11).b]]) fun y1 => some y1
def ibelow.t (a : List D) : Option (List D) := ibelow.b (res a 0) (res a 1)
def iRolesUnder.l1 (d1 : List D) : LR :=
  bif ltI (arg d1 7).i 6 then
    bif leI 0 (arg d1 7).i && ltI (arg d1 7).i 6 then
      bif (nth D.z [D.bool (arg d1 1).b, D.bool (arg d1 2).b, D.bool (arg d1 3).b, D.bool (arg d1 4).b, D.bool (arg d1 5).b, D.bool (arg d1 6).b] (arg d1 7).i.toNat).b then
        bif leN ((arg d1 8).r.length + [[D.int (arg d1 7).i]].length) 4294967296 then
          some (.inl [D.int (arg d1 0).i, D.bool (arg d1 1).b, D.bool (arg d1 2).b, D.bool (arg d1 3).b, D.bool (arg d1 4).b, D.bool (arg d1 5).b, D.bool (arg d1 6).b, D.int (w64 ((arg d1 7).i + 1)), D.rows ((arg d1 8).r ++ [[D.int (arg d1 7).i]])])
        else none
      else
        bif ((arg d1 7).i == (arg d1 0).i) then
          bif leN ((arg d1 8).r.length + [[D.int (arg d1 7).i]].length) 4294967296 then
            some (.inl [D.int (arg d1 0).i, D.bool (arg d1 1).b, D.bool (arg d1 2).b, D.bool (arg d1 3).b, D.bool (arg d1 4).b, D.bool (arg d1 5).b, D.bool (arg d1 6).b, D.int (w64 ((arg d1 7).i + 1)), D.rows ((arg d1 8).r ++ [[D.int (arg d1 7).i]])])
          else none
        else
          some (.inl [D.int (arg d1 0).i, D.bool (arg d1 1).b, D.bool (arg d1 2).b, D.bool (arg d1 3).b, D.bool (arg d1 4).b, D.bool (arg d1 5).b, D.bool (arg d1 6).b, D.int (w64 ((arg d1 7).i + 1)), D.rows (arg d1 8).r])
    else none
  else
    some (.inr (.inl [D.rows (arg d1 8).r]))
def iRolesUnder.b (a0 a1 : D) : Option (List D) :=
  Option.bind (iisRole.t [D.int a1.i]) fun r1 =>
    bif !(res r1 0).b then
      some [D.rows []]
    else
      Option.bind (ibelow.t [D.rows a0.r, D.int a1.i]) fun r2 =>
        loop (iRolesUnder.l1) [D.int a1.i, D.bool ((res r2 0).f 0).b, D.bool ((res r2 0).f 1).b, D.bool ((res r2 0).f 2).b, D.bool ((res r2 0).f 3).b, D.bool ((res r2 0).f 4).b, D.bool ((res r2 0).f 5).b, D.int 0, D.rows []] (fun x1 =>
          some [D.rows (arg x1 0).r]) fun y1 => some y1
def iRolesUnder.t (a : List D) : Option (List D) := iRolesUnder.b (res a 0) (res a 1)
def Sort_int.t (a : List D) : Option (List D) := sortF a
def Compact_int.t (a : List D) : Option (List D) := compactF a
def iRolesOf.l1 (d1 : List D) : LR :=
  bif ltI (arg d1 4).i (arg d1 3).i then
    bif leI 0 (arg d1 4).i && ltI (arg d1 4).i ((arg d1 7).r.length : Int) then
      bif ((cell (arg d1 7).r (arg d1 4).i.toNat 0).i == 1) then
        bif ((cell (arg d1 7).r (arg d1 4).i.toNat 1).i == (arg d1 0).i) then
          Option.bind (iHoldsAt.t [D.st [D.int (cell (arg d1 7).r (arg d1 4).i.toNat 0).i, D.int (cell (arg d1 7).r (arg d1 4).i.toNat 1).i, D.int (cell (arg d1 7).r (arg d1 4).i.toNat 2).i, D.int (cell (arg d1 7).r (arg d1 4).i.toNat 3).i, D.int (cell (arg d1 7).r (arg d1 4).i.toNat 4).i, D.int (cell (arg d1 7).r (arg d1 4).i.toNat 5).i], D.int (arg d1 1).i, D.int (arg d1 2).i]) fun r1 =>
            bif (res r1 0).b then
              Option.bind (iRolesUnder.t [D.rows (arg d1 5).r, D.int (cell (arg d1 7).r (arg d1 4).i.toNat 2).i]) fun r2 =>
                bif leN ((arg d1 6).r.length + (res r2 0).r.length) 4294967296 then
                  some (.inl [D.int (arg d1 0).i, D.int (arg d1 1).i, D.int (arg d1 2).i, D.int (arg d1 3).i, D.int (w64 ((arg d1 4).i + 1)), D.rows (arg d1 5).r, D.rows ((arg d1 6).r ++ (res r2 0).r), D.rows (arg d1 7).r])
                else none
            else
              some (.inl [D.int (arg d1 0).i, D.int (arg d1 1).i, D.int (arg d1 2).i, D.int (arg d1 3).i, D.int (w64 ((arg d1 4).i + 1)), D.rows (arg d1 5).r, D.rows (arg d1 6).r, D.rows (arg d1 7).r])
        else
          some (.inl [D.int (arg d1 0).i, D.int (arg d1 1).i, D.int (arg d1 2).i, D.int (arg d1 3).i, D.int (w64 ((arg d1 4).i + 1)), D.rows (arg d1 5).r, D.rows (arg d1 6).r, D.rows (arg d1 7).r])
      else
        some (.inl [D.int (arg d1 0).i, D.int (arg d1 1).i, D.int (arg d1 2).i, D.int (arg d1 3).i, D.int (w64 ((arg d1 4).i + 1)), D.rows (arg d1 5).r, D.rows (arg d1 6).r, D.rows (arg d1 7).r])
    else none
  else
    some (.inr (.inl [D.rows (arg d1 6).r]))
def iRolesOf.b (a0 a1 a2 a3 a4 : D) : Option (List D) :=
  loop (iRolesOf.l1) [D.int a2.i, D.int a3.i, D.int a4.i, D.int (a1.r.length : Int), D.int 0, D.rows a0.r, D.rows [], D.rows a1.r] (fun x1 =>
    Option.bind (Sort_int.t [D.rows (arg x1 0).r]) fun r3 =>
      Option.bind (Compact_int.t [D.rows (res r3 0).r]) fun r4 =>
        some [D.rows (res r4 0).r]) fun y1 => some y1
def iRolesOf.t (a : List D) : Option (List D) := iRolesOf.b (res a 0) (res a 1) (res a 2) (res a 3) (res a 4)
def Index_int.l1 (d1 : List D) : LR :=
  bif ltI (arg d1 2).i (arg d1 1).i then
    bif leI 0 (arg d1 2).i && ltI (arg d1 2).i ((arg d1 3).r.length : Int) then
      bif ((arg d1 0).i == (cell (arg d1 3).r (arg d1 2).i.toNat 0).i) then
        some (.inr (.inr [D.int (arg d1 2).i]))
      else
        some (.inl [D.int (arg d1 0).i, D.int (arg d1 1).i, D.int (w64 ((arg d1 2).i + 1)), D.rows (arg d1 3).r])
    else none
  else
    some (.inr (.inl []))
def Index_int.b (a0 a1 : D) : Option (List D) :=
  loop (Index_int.l1) [D.int a1.i, D.int (a0.r.length : Int), D.int 0, D.rows a0.r] (fun x1 =>
    some [D.int (-1)]) fun y1 => some y1
def Index_int.t (a : List D) : Option (List D) := Index_int.b (res a 0) (res a 1)
def Contains_int.b (a0 a1 : D) : Option (List D) :=
  Option.bind (Index_int.t [D.rows a0.r, D.int a1.i]) fun r1 =>
    some [D.bool (geI (res r1 0).i 0)]
def Contains_int.t (a : List D) : Option (List D) := Contains_int.b (res a 0) (res a 1)
def iHasRole.b (a0 a1 a2 a3 a4 a5 : D) : Option (List D) :=
  Option.bind (iRolesOf.t [D.rows a0.r, D.rows a1.r, D.int a2.i, D.int a4.i, D.int a5.i]) fun r1 =>
    Option.bind (Contains_int.t [D.rows (res r1 0).r, D.int a3.i]) fun r2 =>
      some [D.bool (res r2 0).b]
def iHasRole.t (a : List D) : Option (List D) := iHasRole.b (res a 0) (res a 1) (res a 2) (res a 3) (res a 4) (res a 5)
def IndexFunc_Fact.l1 (G : GF) (d1 : List D) : LR :=
  bif ltI (arg d1 2).i (arg d1 1).i then
    bif leI 0 (arg d1 2).i && ltI (arg d1 2).i ((arg d1 3).r.length : Int) then
      Option.bind (G (arg d1 0).i ([D.st [D.int (cell (arg d1 3).r (arg d1 2).i.toNat 0).i, D.int (cell (arg d1 3).r (arg d1 2).i.toNat 1).i, D.int (cell (arg d1 3).r (arg d1 2).i.toNat 2).i, D.int (cell (arg d1 3).r (arg d1 2).i.toNat 3).i, D.int (cell (arg d1 3).r (arg d1 2).i.toNat 4).i, D.int (cell (arg d1 3).r (arg d1 2).i.toNat 5).i]] ++ (arg d1 0).r.map D.st)) fun r1 =>
        bif (res r1 0).b then
          some (.inr (.inr [D.int (arg d1 2).i]))
        else
          some (.inl [(arg d1 0), D.int (arg d1 1).i, D.int (w64 ((arg d1 2).i + 1)), D.rows (arg d1 3).r])
    else none
  else
    some (.inr (.inl []))
def IndexFunc_Fact.b (G : GF) (a0 a1 : D) : Option (List D) :=
  loop (IndexFunc_Fact.l1 G) [a1, D.int (a0.r.length : Int), D.int 0, D.rows a0.r] (fun x1 =>
    some [D.int (-1)]) fun y1 => some y1
def IndexFunc_Fact.t (G : GF) (a : List D) : Option (List D) := IndexFunc_Fact.b G (res a 0) (res a 1)
def iFindFact_c1.b (a0 a1 a2 a3 a4 a5 : D) : Option (List D) :=
  bif ((a0.f 0).i == (a1.f 0).i) then
    bif ((a0.f 1).i == (a2.f 0).i) then
      bif ((a0.f 2).i == (a3.f 0).i) then
        Option.bind (iHoldsAt.t [D.st [D.int (a0.f 0).i, D.int (a0.f 1).i, D.int (a0.f 2).i, D.int (a0.f 3).i, D.int (a0.f 4).i, D.int (a0.f 5).i], D.int (a4.f 0).i, D.int (a5.f 0).i]) fun r1 =>
          some [D.bool (res r1 0).b]
      else
        some [D.bool false]
    else
      some [D.bool false]
  else
    some [D.bool false]
def iFindFact_c1.t (a : List D) : Option (List D) := iFindFact_c1.b (res a 0) (res a 1) (res a 2) (res a 3) (res a 4) (res a 5)
def iFindFact.b (a0 a1 a2 a3 a4 a5 : D) : Option (List D) :=
  Option.bind (IndexFunc_Fact.t (gf [(iFindFact_c1.n, iFindFact_c1.t)]) [D.rows a0.r, D.mk (iFindFact_c1.n : Int) false ⟨#[]⟩ [[D.int a1.i], [D.int a2.i], [D.int a3.i], [D.int a4.i], [D.int a5.i]]]) fun r1 =>
    some [D.int (res r1 0).i]
def iFindFact.t (a : List D) : Option (List D) := iFindFact.b (res a 0) (res a 1) (res a 2) (res a 3) (res a 4) (res a 5)
def iBestValue.l1 (d1 : List D) : LR :=
  bif ltI (arg d1 6).i (arg d1 5).i then
    bif leI 0 (arg d1 6).i && ltI (arg d1 6).i ((arg d1 7).r.length : Int) then
      bif ((cell (arg d1 7).r (arg d1 6).i.toNat 0).i == (arg d1 0).i) then
        bif ((cell (arg d1 7).r (arg d1 6).i.toNat 1).i == (arg d1 1).i) then
          Option.bind (iHoldsAt.t [D.st [D.int (cell (arg d1 7).r (arg d1 6).i.toNat 0).i, D.int (cell (arg d1 7).r (arg d1 6).i.toNat 1).i, D.int (cell (arg d1 7).r (arg d1 6).i.toNat 2).i, D.int (cell (arg d1 7).r (arg d1 6).i.toNat 3).i, D.int (cell (arg d1 7).r (arg d1 6).i.toNat 4).i, D.int (cell (arg d1 7).r (arg d1 6).i.toNat 5).i], D.int (arg d1 2).i, D.int (arg d1 3).i]) fun r1 =>
            bif (res r1 0).b then
              some (.inl [D.int (arg d1 0).i, D.int (arg d1 1).i, D.int (arg d1 2).i, D.int (arg d1 3).i, D.int (maxI (arg d1 4).i (cell (arg d1 7).r (arg d1 6).i.toNat 2).i), D.int (arg d1 5).i, D.int (w64 ((arg d1 6).i + 1)), D.rows (arg d1 7).r])
            else
              some (.inl [D.int (arg d1 0).i, D.int (arg d1 1).i, D.int (arg d1 2).i, D.int (arg d1 3).i, D.int (arg d1 4).i, D.int (arg d1 5).i, D.int (w64 ((arg d1 6).i + 1)), D.rows (arg d1 7).r])
        else
          some (.inl [D.int (arg d1 0).i, D.int (arg d1 1).i, D.int (arg d1 2).i, D.int (arg d1 3).i, D.int (arg d1 4).i, D.int (arg d1 5).i, D.int (w64 ((arg d1 6).i + 1)), D.rows (arg d1 7).r])
      else
        some (.inl [D.int (arg d1 0).i, D.int (arg d1 1).i, D.int (arg d1 2).i, D.int (arg d1 3).i, D.int (arg d1 4).i, D.int (arg d1 5).i, D.int (w64 ((arg d1 6).i + 1)), D.rows (arg d1 7).r])
    else none
  else
    some (.inr (.inl [D.int (arg d1 4).i]))
def iBestValue.b (a0 a1 a2 a3 a4 : D) : Option (List D) :=
  loop (iBestValue.l1) [D.int a1.i, D.int a2.i, D.int a3.i, D.int a4.i, D.int (-1), D.int (a0.r.length : Int), D.int 0, D.rows a0.r] (fun x1 =>
    some [D.int (arg x1 0).i]) fun y1 => some y1
def iBestValue.t (a : List D) : Option (List D) := iBestValue.b (res a 0) (res a 1) (res a 2) (res a 3) (res a 4)
def iLeafHolds.b (a0 a1 a2 a3 : D) : Option (List D) :=
  bif ((a2.f 0).i == 1) then
    some [D.bool true]
  else
    bif ((a2.f 0).i == 2) then
      Option.bind (iHasRole.t [D.rows a0.r, D.rows a1.r, D.int (a3.f 0).i, D.int (a2.f 1).i, D.int (a3.f 5).i, D.int (a2.f 2).i]) fun r1 =>
        some [D.bool (res r1 0).b]
    else
      bif ((a2.f 0).i == 3) then
        Option.bind (iFindFact.t [D.rows a1.r, D.int 2, D.int (a3.f 0).i, D.int (a3.f 1).i, D.int (a3.f 5).i, D.int (a2.f 2).i]) fun r2 =>
          some [D.bool ((res r2 0).i != (-1))]
      else
        bif ((a2.f 0).i == 4) then
          Option.bind (iBestValue.t [D.rows a1.r, D.int 3, D.int (a3.f 1).i, D.int (a3.f 5).i, D.int (a2.f 2).i]) fun r3 =>
            some [D.bool (geI (res r3 0).i (a2.f 1).i)]
        else
          bif ((a2.f 0).i == 5) then
            Option.bind (iBestValue.t [D.rows a1.r, D.int 4, D.int (a3.f 2).i, D.int (a3.f 5).i, D.int (a2.f 2).i]) fun r4 =>
              some [D.bool (geI (res r4 0).i (a2.f 1).i)]
          else
            bif ((a2.f 0).i == 6) then
              some [D.bool (leI (a3.f 5).i (a2.f 1).i)]
            else
              some [D.bool false]
def iLeafHolds.t (a : List D) : Option (List D) := iLeafHolds.b (res a 0) (res a 1) (res a 2) (res a 3)
def iEvalCond_c1.b (a0 a1 a2 a3 : D) : Option (List D) :=
  Option.bind (iLeafHolds.t [D.rows (a1.f 0).r, D.rows (a2.f 0).r, D.st [D.int (a0.f 0).i, D.int (a0.f 1).i, D.int (a0.f 2).i, D.rows (a0.f 3).r], D.st [D.int (a3.f 0).i, D.int (a3.f 1).i, D.int (a3.f 2).i, D.int (a3.f 3).i, D.int (a3.f 4).i, D.int (a3.f 5).i]]) fun r1 =>
    some [D.bool (res r1 0).b]
def iEvalCond_c1.t (a : List D) : Option (List D) := iEvalCond_c1.b (res a 0) (res a 1) (res a 2) (res a 3)
def iEvalCond.b (a0 a1 a2 a3 : D) : Option (List D) :=
  Option.bind (iIsCond.t [D.st [D.int (a2.f 0).i, D.int (a2.f 1).i, D.int (a2.f 2).i, D.rows (a2.f 3).r]]) fun r1 =>
    bif (res r1 0).b then
      Option.bind (ievalWith.t (gf [(iEvalCond_c1.n, iEvalCond_c1.t)]) [D.st [D.int (a2.f 0).i, D.int (a2.f 1).i, D.int (a2.f 2).i, D.rows (a2.f 3).r], D.mk (iEvalCond_c1.n : Int) false ⟨#[]⟩ [[D.rows a0.r], [D.rows a1.r], [D.int (a3.f 0).i, D.int (a3.f 1).i, D.int (a3.f 2).i, D.int (a3.f 3).i, D.int (a3.f 4).i, D.int (a3.f 5).i]]]) fun r2 =>
        some [D.bool (res r2 0).b]
    else
      some [D.bool false]
def iEvalCond.t (a : List D) : Option (List D) := iEvalCond.b (res a 0) (res a 1) (res a 2) (res a 3)
def iRulesThatHold.l1 (d1 : List D) : LR :=
  bif ltI (arg d1 1).i (arg d1 0).i then
    bif leI 0 (arg d1 1).i && ltI (arg d1 1).i ((arg d1 11).r.length : Int) then
      Option.bind (iIsFor.t [D.st [D.int (cell (arg d1 11).r (arg d1 1).i.toNat 0).i, D.int (cell (arg d1 11).r (arg d1 1).i.toNat 1).i, D.int (cell (arg d1 11).r (arg d1 1).i.toNat 2).i, D.int (cell (arg d1 11).r (arg d1 1).i.toNat 3).i, D.int (cell (arg d1 11).r (arg d1 1).i.toNat 4).i, D.int (cell (arg d1 11).r (arg d1 1).i.toNat 5).i, D.rows (cell (arg d1 11).r (arg d1 1).i.toNat 6).r], D.int (arg d1 7).i, D.int (arg d1 8).i]) fun r1 =>
        bif (res r1 0).b then
          Option.bind (iEvalCond.t [D.rows (arg d1 2).r, D.rows (arg d1 3).r, D.st [D.int (cell (arg d1 11).r (arg d1 1).i.toNat 3).i, D.int (cell (arg d1 11).r (arg d1 1).i.toNat 4).i, D.int (cell (arg d1 11).r (arg d1 1).i.toNat 5).i, D.rows (cell (arg d1 11).r (arg d1 1).i.toNat 6).r], D.st [D.int (arg d1 4).i, D.int (arg d1 5).i, D.int (arg d1 6).i, D.int (arg d1 7).i, D.int (arg d1 8).i, D.int (arg d1 9).i]]) fun r2 =>
            bif (res r2 0).b then
              bif leN ((arg d1 10).r.length + [[D.int (arg d1 1).i]].length) 4294967296 then
                some (.inl [D.int (arg d1 0).i, D.int (w64 ((arg d1 1).i + 1)), D.rows (arg d1 2).r, D.rows (arg d1 3).r, D.int (arg d1 4).i, D.int (arg d1 5).i, D.int (arg d1 6).i, D.int (arg d1 7).i, D.int (arg d1 8).i, D.int (arg d1 9).i, D.rows ((arg d1 10).r ++ [[D.int (arg d1 1).i]]), D.rows (arg d1 11).r])
              else none
            else
              some (.inl [D.int (arg d1 0).i, D.int (w64 ((arg d1 1).i + 1)), D.rows (arg d1 2).r, D.rows (arg d1 3).r, D.int (arg d1 4).i, D.int (arg d1 5).i, D.int (arg d1 6).i, D.int (arg d1 7).i, D.int (arg d1 8).i, D.int (arg d1 9).i, D.rows (arg d1 10).r, D.rows (arg d1 11).r])
        else
          some (.inl [D.int (arg d1 0).i, D.int (w64 ((arg d1 1).i + 1)), D.rows (arg d1 2).r, D.rows (arg d1 3).r, D.int (arg d1 4).i, D.int (arg d1 5).i, D.int (arg d1 6).i, D.int (arg d1 7).i, D.int (arg d1 8).i, D.int (arg d1 9).i, D.rows (arg d1 10).r, D.rows (arg d1 11).r])
    else none
  else
    some (.inr (.inl [D.rows (arg d1 10).r]))
def iRulesThatHold.b (a0 a1 a2 a3 : D) : Option (List D) :=
  loop (iRulesThatHold.l1) [D.int ((a2.f 1).r.length : Int), D.int 0, D.rows a0.r, D.rows a1.r, D.int (a3.f 0).i, D.int (a3.f 1).i, D.int (a3.f 2).i, D.int (a3.f 3).i, D.int (a3.f 4).i, D.int (a3.f 5).i, D.rows [], D.rows (a2.f 1).r] (fun x1 =>
    some [D.rows (arg x1 0).r]) fun y1 => some y1
def iRulesThatHold.t (a : List D) : Option (List D) := iRulesThatHold.b (res a 0) (res a 1) (res a 2) (res a 3)
def idecided.l1 (d1 : List D) : LR :=
  bif ltI (arg d1 2).i (arg d1 1).i then
    bif leI 0 (arg d1 2).i && ltI (arg d1 2).i ((arg d1 4).r.length : Int) then
      bif leI 0 (cell (arg d1 4).r (arg d1 2).i.toNat 0).i && ltI (cell (arg d1 4).r (arg d1 2).i.toNat 0).i ((arg d1 5).r.length : Int) then
        bif ((cell (arg d1 5).r (cell (arg d1 4).r (arg d1 2).i.toNat 0).i.toNat 0).i == 0) then
          some (.inr (.inr [D.int 0]))
        else
          bif ((cell (arg d1 5).r (cell (arg d1 4).r (arg d1 2).i.toNat 0).i.toNat 0).i == 1) then
            some (.inl [D.int 1, D.int (arg d1 1).i, D.int (w64 ((arg d1 2).i + 1)), D.int (arg d1 3).i, D.rows (arg d1 4).r, D.rows (arg d1 5).r])
          else
            some (.inl [D.int (arg d1 0).i, D.int (arg d1 1).i, D.int (w64 ((arg d1 2).i + 1)), D.int (arg d1 3).i, D.rows (arg d1 4).r, D.rows (arg d1 5).r])
      else none
    else none
  else
    some (.inr (.inl [D.int (arg d1 0).i]))
def idecided.b (a0 a1 : D) : Option (List D) :=
  loop (idecided.l1) [D.int 0, D.int (a1.r.length : Int), D.int 0, D.int (a0.f 0).i, D.rows a1.r, D.rows (a0.f 1).r] (fun x1 =>
    some [D.int (arg x1 0).i]) fun y1 => some y1
def idecided.t (a : List D) : Option (List D) := idecided.b (res a 0) (res a 1)
def iDecideBy.b (a0 a1 a2 a3 : D) : Option (List D) :=
  Option.bind (iIsRequest.t [D.st [D.int (a3.f 0).i, D.int (a3.f 1).i, D.int (a3.f 2).i, D.int (a3.f 3).i, D.int (a3.f 4).i, D.int (a3.f 5).i]]) fun r1 =>
    bif !(res r1 0).b then
      some [D.int 0]
    else
      Option.bind (iIsPolicy.t [D.st [D.int (a2.f 0).i, D.rows (a2.f 1).r]]) fun r2 =>
        bif !(res r2 0).b then
          some [D.int 0]
        else
          Option.bind (iRulesThatHold.t [D.rows a0.r, D.rows a1.r, D.st [D.int (a2.f 0).i, D.rows (a2.f 1).r], D.st [D.int (a3.f 0).i, D.int (a3.f 1).i, D.int (a3.f 2).i, D.int (a3.f 3).i, D.int (a3.f 4).i, D.int (a3.f 5).i]]) fun r3 =>
            Option.bind (idecided.t [D.st [D.int (a2.f 0).i, D.rows (a2.f 1).r], D.rows (res r3 0).r]) fun r4 =>
              some [D.int (res r4 0).i]
def iDecideBy.t (a : List D) : Option (List D) := iDecideBy.b (res a 0) (res a 1) (res a 2) (res a 3)
def iDecisionUntil.l1 (d1 : List D) : LR :=
  bif ltI (arg d1 1).i (minI (w64 ((arg d1 11).i + (arg d1 0).i)) 10000) then
    Option.bind (iAtTime.t [D.st [D.int (arg d1 6).i, D.int (arg d1 7).i, D.int (arg d1 8).i, D.int (arg d1 9).i, D.int (arg d1 10).i, D.int (arg d1 11).i], D.int (w64 ((arg d1 1).i + 1))]) fun r5 =>
      Option.bind (iDecideBy.t [D.rows (arg d1 3).r, D.rows (arg d1 4).r, D.st [D.int (arg d1 5).i, D.rows (arg d1 12).r], D.st [D.int ((res r5 0).f 0).i, D.int ((res r5 0).f 1).i, D.int ((res r5 0).f 2).i, D.int ((res r5 0).f 3).i, D.int ((res r5 0).f 4).i, D.int ((res r5 0).f 5).i]]) fun r6 =>
        bif ((res r6 0).i == (arg d1 2).i) then
          some (.inl [D.int (arg d1 0).i, D.int (w64 ((arg d1 1).i + 1)), D.int (arg d1 2).i, D.rows (arg d1 3).r, D.rows (arg d1 4).r, D.int (arg d1 5).i, D.int (arg d1 6).i, D.int (arg d1 7).i, D.int (arg d1 8).i, D.int (arg d1 9).i, D.int (arg d1 10).i, D.int (arg d1 11).i, D.rows (arg d1 12).r])
        else
          some (.inr (.inl [D.int (arg d1 1).i]))
  else
    some (.inr (.inl [D.int (arg d1 1).i]))
def iDecisionUntil.b (a0 a1 a2 a3 a4 : D) : Option (List D) :=
  Option.bind (iIsRequest.t [D.st [D.int (a3.f 0).i, D.int (a3.f 1).i, D.int (a3.f 2).i, D.int (a3.f 3).i, D.int (a3.f 4).i, D.int (a3.f 5).i]]) fun r1 =>
    bif !(res r1 0).b then
      some [D.int (a3.f 5).i]
    else
      Option.bind (iIsPolicy.t [D.st [D.int (a2.f 0).i, D.rows (a2.f 1).r]]) fun r2 =>
        bif !(res r2 0).b then
          some [D.int (a3.f 5).i]
        else
          Option.bind (iInRange.t [D.int a4.i, D.int 0, D.int 60]) fun r3 =>
            bif !(res r3 0).b then
              some [D.int (a3.f 5).i]
            else
              Option.bind (iDecideBy.t [D.rows a0.r, D.rows a1.r, D.st [D.int (a2.f 0).i, D.rows (a2.f 1).r], D.st [D.int (a3.f 0).i, D.int (a3.f 1).i, D.int (a3.f 2).i, D.int (a3.f 3).i, D.int (a3.f 4).i, D.int (a3.f 5).i]]) fun r4 =>
                loop (iDecisionUntil.l1) [D.int a4.i, D.int (a3.f 5).i, D.int (res r4 0).i, D.rows a0.r, D.rows a1.r, D.int (a2.f 0).i, D.int (a3.f 0).i, D.int (a3.f 1).i, D.int (a3.f 2).i, D.int (a3.f 3).i, D.int (a3.f 4).i, D.int (a3.f 5).i, D.rows (a2.f 1).r] (fun x1 =>
                  some [D.int (arg x1 0).i]) fun y1 => some y1
def iDecisionUntil.t (a : List D) : Option (List D) := iDecisionUntil.b (res a 0) (res a 1) (res a 2) (res a 3) (res a 4)
def iSaveDecision.b (a0 a1 a2 a3 a4 : D) : Option (List D) :=
  Option.bind (iDecideBy.t [D.rows a0.r, D.rows a1.r, D.st [D.int (a2.f 0).i, D.rows (a2.f 1).r], D.st [D.int (a3.f 0).i, D.int (a3.f 1).i, D.int (a3.f 2).i, D.int (a3.f 3).i, D.int (a3.f 4).i, D.int (a3.f 5).i]]) fun r1 =>
    Option.bind (iDecisionUntil.t [D.rows a0.r, D.rows a1.r, D.st [D.int (a2.f 0).i, D.rows (a2.f 1).r], D.st [D.int (a3.f 0).i, D.int (a3.f 1).i, D.int (a3.f 2).i, D.int (a3.f 3).i, D.int (a3.f 4).i, D.int (a3.f 5).i], D.int a4.i]) fun r2 =>
      some [D.st [D.int (a3.f 0).i, D.int (a3.f 1).i, D.int (a3.f 2).i, D.int (a3.f 3).i, D.int (a3.f 4).i, D.int (a3.f 5).i, D.int (res r1 0).i, D.int (res r2 0).i]]
def iSaveDecision.t (a : List D) : Option (List D) := iSaveDecision.b (res a 0) (res a 1) (res a 2) (res a 3) (res a 4)
def iPutSaved.l1 (d1 : List D) : LR :=
  bif ltI (arg d1 1).i (arg d1 0).i then
    bif leI 0 (arg d1 1).i && ltI (arg d1 1).i ((arg d1 11).r.length : Int) then
      Option.bind (iSameQuestion.t [D.st [D.int (cell (arg d1 11).r (arg d1 1).i.toNat 0).i, D.int (cell (arg d1 11).r (arg d1 1).i.toNat 1).i, D.int (cell (arg d1 11).r (arg d1 1).i.toNat 2).i, D.int (cell (arg d1 11).r (arg d1 1).i.toNat 3).i, D.int (cell (arg d1 11).r (arg d1 1).i.toNat 4).i, D.int (cell (arg d1 11).r (arg d1 1).i.toNat 5).i], D.st [D.int (arg d1 2).i, D.int (arg d1 3).i, D.int (arg d1 4).i, D.int (arg d1 5).i, D.int (arg d1 6).i, D.int (arg d1 7).i]]) fun r1 =>
        bif !(res r1 0).b then
          bif leN ((arg d1 10).r.length + [[D.int (cell (arg d1 11).r (arg d1 1).i.toNat 0).i, D.int (cell (arg d1 11).r (arg d1 1).i.toNat 1).i, D.int (cell (arg d1 11).r (arg d1 1).i.toNat 2).i, D.int (cell (arg d1 11).r (arg d1 1).i.toNat 3).i, D.int (cell (arg d1 11).r (arg d1 1).i.toNat 4).i, D.int (cell (arg d1 11).r (arg d1 1).i.toNat 5).i, D.int (cell (arg d1 11).r (arg d1 1).i.toNat 6).i, D.int (cell (arg d1 11).r (arg d1 1).i.toNat 7).i]].length) 4294967296 then
            some (.inl [D.int (arg d1 0).i, D.int (w64 ((arg d1 1).i + 1)), D.int (arg d1 2).i, D.int (arg d1 3).i, D.int (arg d1 4).i, D.int (arg d1 5).i, D.int (arg d1 6).i, D.int (arg d1 7).i, D.int (arg d1 8).i, D.int (arg d1 9).i, D.rows ((arg d1 10).r ++ [[D.int (cell (arg d1 11).r (arg d1 1).i.toNat 0).i, D.int (cell (arg d1 11).r (arg d1 1).i.toNat 1).i, D.int (cell (arg d1 11).r (arg d1 1).i.toNat 2).i, D.int (cell (arg d1 11).r (arg d1 1).i.toNat 3).i, D.int (cell (arg d1 11).r (arg d1 1).i.toNat 4).i, D.int (cell (arg d1 11).r (arg d1 1).i.toNat 5).i, D.int (cell (arg d1 11).r (arg d1 1).i.toNat 6).i, D.int (cell (arg d1 11).r (arg d1 1).i.toNat 7).i]]), D.rows (arg d1 11).r])
          else none
        else
          some (.inl [D.int (arg d1 0).i, D.int (w64 ((arg d1 1).i + 1)), D.int (arg d1 2).i, D.int (arg d1 3).i, D.int (arg d1 4).i, D.int (arg d1 5).i, D.int (arg d1 6).i, D.int (arg d1 7).i, D.int (arg d1 8).i, D.int (arg d1 9).i, D.rows (arg d1 10).r, D.rows (arg d1 11).r])
    else none
  else
    some (.inr (.inl [D.int (arg d1 2).i, D.int (arg d1 3).i, D.int (arg d1 4).i, D.int (arg d1 5).i, D.int (arg d1 6).i, D.int (arg d1 7).i, D.int (arg d1 8).i, D.int (arg d1 9).i, D.rows (arg d1 10).r]))
def iPutSaved.b (a0 a1 : D) : Option (List D) :=
  loop (iPutSaved.l1) [D.int (a0.r.length : Int), D.int 0, D.int (a1.f 0).i, D.int (a1.f 1).i, D.int (a1.f 2).i, D.int (a1.f 3).i, D.int (a1.f 4).i, D.int (a1.f 5).i, D.int (a1.f 6).i, D.int (a1.f 7).i, D.rows [], D.rows a0.r] (fun x1 =>
    bif leN ((arg x1 8).r.length + [[D.int (arg x1 0).i, D.int (arg x1 1).i, D.int (arg x1 2).i, D.int (arg x1 3).i, D.int (arg x1 4).i, D.int (arg x1 5).i, D.int (arg x1 6).i, D.int (arg x1 7).i]].length) 4294967296 then
      bif gtI (((arg x1 8).r ++ [[D.int (arg x1 0).i, D.int (arg x1 1).i, D.int (arg x1 2).i, D.int (arg x1 3).i, D.int (arg x1 4).i, D.int (arg x1 5).i, D.int (arg x1 6).i, D.int (arg x1 7).i]]).length : Int) 8 then
        bif leI 1 (((arg x1 8).r ++ [[D.int (arg x1 0).i, D.int (arg x1 1).i, D.int (arg x1 2).i, D.int (arg x1 3).i, D.int (arg x1 4).i, D.int (arg x1 5).i, D.int (arg x1 6).i, D.int (arg x1 7).i]]).length : Int) && leI (((arg x1 8).r ++ [[D.int (arg x1 0).i, D.int (arg x1 1).i, D.int (arg x1 2).i, D.int (arg x1 3).i, D.int (arg x1 4).i, D.int (arg x1 5).i, D.int (arg x1 6).i, D.int (arg x1 7).i]]).length : Int) (((arg x1 8).r ++ [[D.int (arg x1 0).i, D.int (arg x1 1).i, D.int (arg x1 2).i, D.int (arg x1 3).i, D.int (arg x1 4).i, D.int (arg x1 5).i, D.int (arg x1 6).i, D.int (arg x1 7).i]]).length : Int) then
          some [D.rows ((((arg x1 8).r ++ [[D.int (arg x1 0).i, D.int (arg x1 1).i, D.int (arg x1 2).i, D.int (arg x1 3).i, D.int (arg x1 4).i, D.int (arg x1 5).i, D.int (arg x1 6).i, D.int (arg x1 7).i]]).drop 1).take (((arg x1 8).r ++ [[D.int (arg x1 0).i, D.int (arg x1 1).i, D.int (arg x1 2).i, D.int (arg x1 3).i, D.int (arg x1 4).i, D.int (arg x1 5).i, D.int (arg x1 6).i, D.int (arg x1 7).i]]).length - 1))]
        else none
      else
        some [D.rows ((arg x1 8).r ++ [[D.int (arg x1 0).i, D.int (arg x1 1).i, D.int (arg x1 2).i, D.int (arg x1 3).i, D.int (arg x1 4).i, D.int (arg x1 5).i, D.int (arg x1 6).i, D.int (arg x1 7).i]])]
    else none) fun y1 => some y1
def iPutSaved.t (a : List D) : Option (List D) := iPutSaved.b (res a 0) (res a 1)
def iAskPoint.b (a0 a1 a2 a3 : D) : Option (List D) :=
  Option.bind (icopyPoint.t [D.st [D.int (a0.f 0).i, D.int (a0.f 1).i, D.int (a0.f 2).i, D.rows (a0.f 3).r, D.int (a0.f 4).i, D.rows (a0.f 5).r, D.rows (a0.f 6).r, D.rows (a0.f 7).r, D.int (a0.f 8).i, D.rows (a0.f 9).r]]) fun r1 =>
    Option.bind (iIsRequest.t [D.st [D.int (a3.f 0).i, D.int (a3.f 1).i, D.int (a3.f 2).i, D.int (a3.f 3).i, D.int (a3.f 4).i, D.int (a3.f 5).i]]) fun r2 =>
      bif !(res r2 0).b then
        some [D.st [D.int ((res r1 0).f 0).i, D.int ((res r1 0).f 1).i, D.int ((res r1 0).f 2).i, D.rows ((res r1 0).f 3).r, D.int ((res r1 0).f 4).i, D.rows ((res r1 0).f 5).r, D.rows ((res r1 0).f 6).r, D.rows ((res r1 0).f 7).r, D.int ((res r1 0).f 8).i, D.rows ((res r1 0).f 9).r], D.int 4]
      else
        Option.bind (iCheckCert.t [D.int a1.i, D.st [D.int (a2.f 0).i, D.int (a2.f 1).i, D.int (a2.f 2).i, D.int (a2.f 3).i, D.int (a2.f 4).i, D.int (a2.f 5).i], D.int (a3.f 5).i]) fun r3 =>
          bif !(res r3 0).b then
            some [D.st [D.int ((res r1 0).f 0).i, D.int ((res r1 0).f 1).i, D.int ((res r1 0).f 2).i, D.rows ((res r1 0).f 3).r, D.int ((res r1 0).f 4).i, D.rows ((res r1 0).f 5).r, D.rows ((res r1 0).f 6).r, D.rows ((res r1 0).f 7).r, D.int ((res r1 0).f 8).i, D.rows ((res r1 0).f 9).r], D.int 4]
          else
            bif ((a2.f 1).i != (a3.f 1).i) then
              some [D.st [D.int ((res r1 0).f 0).i, D.int ((res r1 0).f 1).i, D.int ((res r1 0).f 2).i, D.rows ((res r1 0).f 3).r, D.int ((res r1 0).f 4).i, D.rows ((res r1 0).f 5).r, D.rows ((res r1 0).f 6).r, D.rows ((res r1 0).f 7).r, D.int ((res r1 0).f 8).i, D.rows ((res r1 0).f 9).r], D.int 4]
            else
              Option.bind (iIsCurrent.t [D.st [D.int (a0.f 0).i, D.int (a0.f 1).i, D.int (a0.f 2).i, D.rows (a0.f 3).r, D.int (a0.f 4).i, D.rows (a0.f 5).r, D.rows (a0.f 6).r, D.rows (a0.f 7).r, D.int (a0.f 8).i, D.rows (a0.f 9).r], D.int (a3.f 5).i]) fun r4 =>
                bif !(res r4 0).b then
                  some [D.st [D.int ((res r1 0).f 0).i, D.int ((res r1 0).f 1).i, D.int ((res r1 0).f 2).i, D.rows ((res r1 0).f 3).r, D.int ((res r1 0).f 4).i, D.rows ((res r1 0).f 5).r, D.rows ((res r1 0).f 6).r, D.rows ((res r1 0).f 7).r, D.int ((res r1 0).f 8).i, D.rows ((res r1 0).f 9).r], D.int 2]
                else
                  Option.bind (iIsRevoked.t [D.rows (a0.f 7).r, D.int (a2.f 0).i, D.int (a3.f 5).i]) fun r5 =>
                    bif (res r5 0).b then
                      some [D.st [D.int ((res r1 0).f 0).i, D.int ((res r1 0).f 1).i, D.int ((res r1 0).f 2).i, D.rows ((res r1 0).f 3).r, D.int ((res r1 0).f 4).i, D.rows ((res r1 0).f 5).r, D.rows ((res r1 0).f 6).r, D.rows ((res r1 0).f 7).r, D.int ((res r1 0).f 8).i, D.rows ((res r1 0).f 9).r], D.int 3]
                    else
                      Option.bind (iFindSaved.t [D.rows (a0.f 9).r, D.st [D.int (a3.f 0).i, D.int (a3.f 1).i, D.int (a3.f 2).i, D.int (a3.f 3).i, D.int (a3.f 4).i, D.int (a3.f 5).i]]) fun r6 =>
                        bif geI (res r6 0).i 0 then
                          bif leI 0 (res r6 0).i && ltI (res r6 0).i ((a0.f 9).r.length : Int) then
                            some [D.st [D.int ((res r1 0).f 0).i, D.int ((res r1 0).f 1).i, D.int ((res r1 0).f 2).i, D.rows ((res r1 0).f 3).r, D.int ((res r1 0).f 4).i, D.rows ((res r1 0).f 5).r, D.rows ((res r1 0).f 6).r, D.rows ((res r1 0).f 7).r, D.int ((res r1 0).f 8).i, D.rows ((res r1 0).f 9).r], D.int (cell (a0.f 9).r (res r6 0).i.toNat 6).i]
                          else none
                        else
                          Option.bind (iSaveDecision.t [D.rows (a0.f 3).r, D.rows (a0.f 6).r, D.st [D.int (a0.f 4).i, D.rows (a0.f 5).r], D.st [D.int (a3.f 0).i, D.int (a3.f 1).i, D.int (a3.f 2).i, D.int (a3.f 3).i, D.int (a3.f 4).i, D.int (a3.f 5).i], D.int 10]) fun r7 =>
                            Option.bind (iPutSaved.t [D.rows ((res r1 0).f 9).r, D.st [D.int ((res r7 0).f 0).i, D.int ((res r7 0).f 1).i, D.int ((res r7 0).f 2).i, D.int ((res r7 0).f 3).i, D.int ((res r7 0).f 4).i, D.int ((res r7 0).f 5).i, D.int ((res r7 0).f 6).i, D.int ((res r7 0).f 7).i]]) fun r8 =>
                              some [D.st [D.int ((res r1 0).f 0).i, D.int ((res r1 0).f 1).i, D.int ((res r1 0).f 2).i, D.rows ((res r1 0).f 3).r, D.int ((res r1 0).f 4).i, D.rows ((res r1 0).f 5).r, D.rows ((res r1 0).f 6).r, D.rows ((res r1 0).f 7).r, D.int ((res r1 0).f 8).i, D.rows (res r8 0).r], D.int ((res r7 0).f 6).i]
def iAskPoint.t (a : List D) : Option (List D) := iAskPoint.b (res a 0) (res a 1) (res a 2) (res a 3)
def iIsStillGood.b (a0 a1 a2 a3 a4 : D) : Option (List D) :=
  bif !(a0.f 9).b then
    some [D.bool false]
  else
    bif ((a1.f 0).i != (a0.f 1).i) then
      some [D.bool false]
    else
      bif ((a3.f 0).i != (a0.f 2).i) then
        some [D.bool false]
      else
        bif ltI a4.i (a0.f 8).i then
          some [D.bool false]
        else
          Option.bind (iAtTime.t [D.st [D.int (a0.f 3).i, D.int (a0.f 4).i, D.int (a0.f 5).i, D.int (a0.f 6).i, D.int (a0.f 7).i, D.int (a0.f 8).i], D.int a4.i]) fun r1 =>
            Option.bind (iAskPoint.t [D.st [D.int (a1.f 0).i, D.int (a1.f 1).i, D.int (a1.f 2).i, D.rows (a1.f 3).r, D.int (a1.f 4).i, D.rows (a1.f 5).r, D.rows (a1.f 6).r, D.rows (a1.f 7).r, D.int (a1.f 8).i, D.rows (a1.f 9).r], D.int a2.i, D.st [D.int (a3.f 0).i, D.int (a3.f 1).i, D.int (a3.f 2).i, D.int (a3.f 3).i, D.int (a3.f 4).i, D.int (a3.f 5).i], D.st [D.int ((res r1 0).f 0).i, D.int ((res r1 0).f 1).i, D.int ((res r1 0).f 2).i, D.int ((res r1 0).f 3).i, D.int ((res r1 0).f 4).i, D.int ((res r1 0).f 5).i]]) fun r2 =>
              some [D.bool ((res r2 1).i == 1)]
def iIsStillGood.t (a : List D) : Option (List D) := iIsStillGood.b (res a 0) (res a 1) (res a 2) (res a 3) (res a 4)
def iReviewSessions.l1 (d1 : List D) : LR :=
  bif ltI (arg d1 4).i (arg d1 3).i then
    bif leI 0 (arg d1 4).i && ltI (arg d1 4).i ((arg d1 8).r.length : Int) then
      Option.bind (ipointOf.t [D.rows (arg d1 5).r, D.int (cell (arg d1 8).r (arg d1 4).i.toNat 1).i]) fun r1 =>
        Option.bind (icertOf.t [D.rows (arg d1 6).r, D.int (cell (arg d1 8).r (arg d1 4).i.toNat 2).i]) fun r2 =>
          bif (cell (arg d1 8).r (arg d1 4).i.toNat 9).b then
            bif ltI (res r1 0).i 0 then
              bif leI 0 (arg d1 4).i && ltI (arg d1 4).i ((arg d1 7).r.length : Int) then
                some (.inl [D.int (arg d1 0).i, D.int (arg d1 1).i, D.int (w64 ((arg d1 2).i + 1)), D.int (arg d1 3).i, D.int (w64 ((arg d1 4).i + 1)), D.rows (arg d1 5).r, D.rows (arg d1 6).r, D.rows (setCells (arg d1 7).r (arg d1 4).i.toNat 9 [D.bool false]), D.rows (arg d1 8).r])
              else none
            else
              bif ltI (res r2 0).i 0 then
                bif leI 0 (arg d1 4).i && ltI (arg d1 4).i ((arg d1 7).r.length : Int) then
                  some (.inl [D.int (arg d1 0).i, D.int (arg d1 1).i, D.int (w64 ((arg d1 2).i + 1)), D.int (arg d1 3).i, D.int (w64 ((arg d1 4).i + 1)), D.rows (arg d1 5).r, D.rows (arg d1 6).r, D.rows (setCells (arg d1 7).r (arg d1 4).i.toNat 9 [D.bool false]), D.rows (arg d1 8).r])
                else none
              else
                bif leI 0 (res r1 0).i && ltI (res r1 0).i ((arg d1 5).r.length : Int) then
                  bif leI 0 (res r2 0).i && ltI (res r2 0).i ((arg d1 6).r.length : Int) then
                    Option.bind (iIsStillGood.t [D.st [D.int (cell (arg d1 8).r (arg d1 4).i.toNat 0).i, D.int (cell (arg d1 8).r (arg d1 4).i.toNat 1).i, D.int (cell (arg d1 8).r (arg d1 4).i.toNat 2).i, D.int (cell (arg d1 8).r (arg d1 4).i.toNat 3).i, D.int (cell (arg d1 8).r (arg d1 4).i.toNat 4).i, D.int (cell (arg d1 8).r (arg d1 4).i.toNat 5).i, D.int (cell (arg d1 8).r (arg d1 4).i.toNat 6).i, D.int (cell (arg d1 8).r (arg d1 4).i.toNat 7).i, D.int (cell (arg d1 8).r (arg d1 4).i.toNat 8).i, D.bool (cell (arg d1 8).r (arg d1 4).i.toNat 9).b], D.st [D.int (cell (arg d1 5).r (res r1 0).i.toNat 0).i, D.int (cell (arg d1 5).r (res r1 0).i.toNat 1).i, D.int (cell (arg d1 5).r (res r1 0).i.toNat 2).i, D.rows (cell (arg d1 5).r (res r1 0).i.toNat 3).r, D.int (cell (arg d1 5).r (res r1 0).i.toNat 4).i, D.rows (cell (arg d1 5).r (res r1 0).i.toNat 5).r, D.rows (cell (arg d1 5).r (res r1 0).i.toNat 6).r, D.rows (cell (arg d1 5).r (res r1 0).i.toNat 7).r, D.int (cell (arg d1 5).r (res r1 0).i.toNat 8).i, D.rows (cell (arg d1 5).r (res r1 0).i.toNat 9).r], D.int (arg d1 0).i, D.st [D.int (cell (arg d1 6).r (res r2 0).i.toNat 0).i, D.int (cell (arg d1 6).r (res r2 0).i.toNat 1).i, D.int (cell (arg d1 6).r (res r2 0).i.toNat 2).i, D.int (cell (arg d1 6).r (res r2 0).i.toNat 3).i, D.int (cell (arg d1 6).r (res r2 0).i.toNat 4).i, D.int (cell (arg d1 6).r (res r2 0).i.toNat 5).i], D.int (arg d1 1).i]) fun r3 =>
                      bif !(res r3 0).b then
                        bif leI 0 (arg d1 4).i && ltI (arg d1 4).i ((arg d1 7).r.length : Int) then
                          some (.inl [D.int (arg d1 0).i, D.int (arg d1 1).i, D.int (w64 ((arg d1 2).i + 1)), D.int (arg d1 3).i, D.int (w64 ((arg d1 4).i + 1)), D.rows (arg d1 5).r, D.rows (arg d1 6).r, D.rows (setCells (arg d1 7).r (arg d1 4).i.toNat 9 [D.bool false]), D.rows (arg d1 8).r])
                        else none
                      else
                        some (.inl [D.int (arg d1 0).i, D.int (arg d1 1).i, D.int (arg d1 2).i, D.int (arg d1 3).i, D.int (w64 ((arg d1 4).i + 1)), D.rows (arg d1 5).r, D.rows (arg d1 6).r, D.rows (arg d1 7).r, D.rows (arg d1 8).r])
                  else none
                else none
          else
            some (.inl [D.int (arg d1 0).i, D.int (arg d1 1).i, D.int (arg d1 2).i, D.int (arg d1 3).i, D.int (w64 ((arg d1 4).i + 1)), D.rows (arg d1 5).r, D.rows (arg d1 6).r, D.rows (arg d1 7).r, D.rows (arg d1 8).r])
    else none
  else
    some (.inr (.inl [D.int (arg d1 2).i, D.rows (arg d1 7).r]))
def iReviewSessions.b (a0 a1 a2 a3 a4 : D) : Option (List D) :=
  bif leN (N0.length + a0.r.length) 4294967296 then
    loop (iReviewSessions.l1) [D.int a2.i, D.int a4.i, D.int 0, D.int (a0.r.length : Int), D.int 0, D.rows a1.r, D.rows a3.r, D.rows (N0 ++ a0.r), D.rows a0.r] (fun x1 =>
      some [D.rows (arg x1 1).r, D.int (arg x1 0).i]) fun y1 => some y1
  else none
def iReviewSessions.t (a : List D) : Option (List D) := iReviewSessions.b (res a 0) (res a 1) (res a 2) (res a 3) (res a 4)
def weqRequest.b (a0 a1 : D) : Option (List D) :=
  bif ((a0.f 0).i != (a1.f 0).i) then
    some [D.bool false]
  else
    bif ((a0.f 1).i != (a1.f 1).i) then
      some [D.bool false]
    else
      bif ((a0.f 2).i != (a1.f 2).i) then
        some [D.bool false]
      else
        bif ((a0.f 3).i != (a1.f 3).i) then
          some [D.bool false]
        else
          bif ((a0.f 4).i != (a1.f 4).i) then
            some [D.bool false]
          else
            bif ((a0.f 5).i != (a1.f 5).i) then
              some [D.bool false]
            else
              some [D.bool true]
def weqRequest.t (a : List D) : Option (List D) := weqRequest.b (res a 0) (res a 1)
def weqSession.b (a0 a1 : D) : Option (List D) :=
  bif ((a0.f 0).i != (a1.f 0).i) then
    some [D.bool false]
  else
    bif ((a0.f 1).i != (a1.f 1).i) then
      some [D.bool false]
    else
      bif ((a0.f 2).i != (a1.f 2).i) then
        some [D.bool false]
      else
        Option.bind (weqRequest.t [D.st [D.int (a0.f 3).i, D.int (a0.f 4).i, D.int (a0.f 5).i, D.int (a0.f 6).i, D.int (a0.f 7).i, D.int (a0.f 8).i], D.st [D.int (a1.f 3).i, D.int (a1.f 4).i, D.int (a1.f 5).i, D.int (a1.f 6).i, D.int (a1.f 7).i, D.int (a1.f 8).i]]) fun r1 =>
          bif !(res r1 0).b then
            some [D.bool false]
          else
            bif !((a0.f 9).b == (a1.f 9).b) then
              some [D.bool false]
            else
              some [D.bool true]
def weqSession.t (a : List D) : Option (List D) := weqSession.b (res a 0) (res a 1)
def weqSessionS.l1 (d1 : List D) : LR :=
  bif ltI (arg d1 0).i ((arg d1 1).r.length : Int) then
    bif leI 0 (arg d1 0).i && ltI (arg d1 0).i ((arg d1 1).r.length : Int) then
      bif leI 0 (arg d1 0).i && ltI (arg d1 0).i ((arg d1 2).r.length : Int) then
        Option.bind (weqSession.t [D.st [D.int (cell (arg d1 1).r (arg d1 0).i.toNat 0).i, D.int (cell (arg d1 1).r (arg d1 0).i.toNat 1).i, D.int (cell (arg d1 1).r (arg d1 0).i.toNat 2).i, D.int (cell (arg d1 1).r (arg d1 0).i.toNat 3).i, D.int (cell (arg d1 1).r (arg d1 0).i.toNat 4).i, D.int (cell (arg d1 1).r (arg d1 0).i.toNat 5).i, D.int (cell (arg d1 1).r (arg d1 0).i.toNat 6).i, D.int (cell (arg d1 1).r (arg d1 0).i.toNat 7).i, D.int (cell (arg d1 1).r (arg d1 0).i.toNat 8).i, D.bool (cell (arg d1 1).r (arg d1 0).i.toNat 9).b], D.st [D.int (cell (arg d1 2).r (arg d1 0).i.toNat 0).i, D.int (cell (arg d1 2).r (arg d1 0).i.toNat 1).i, D.int (cell (arg d1 2).r (arg d1 0).i.toNat 2).i, D.int (cell (arg d1 2).r (arg d1 0).i.toNat 3).i, D.int (cell (arg d1 2).r (arg d1 0).i.toNat 4).i, D.int (cell (arg d1 2).r (arg d1 0).i.toNat 5).i, D.int (cell (arg d1 2).r (arg d1 0).i.toNat 6).i, D.int (cell (arg d1 2).r (arg d1 0).i.toNat 7).i, D.int (cell (arg d1 2).r (arg d1 0).i.toNat 8).i, D.bool (cell (arg d1 2).r (arg d1 0).i.toNat 9).b]]) fun r1 =>
          bif !(res r1 0).b then
            some (.inr (.inr [D.bool false]))
          else
            some (.inl [D.int (w64 ((arg d1 0).i + 1)), D.rows (arg d1 1).r, D.rows (arg d1 2).r])
      else none
    else none
  else
    some (.inr (.inl []))
def weqSessionS.b (a0 a1 : D) : Option (List D) :=
  bif ((a0.r.length : Int) != (a1.r.length : Int)) then
    some [D.bool false]
  else
    loop (weqSessionS.l1) [D.int 0, D.rows a0.r, D.rows a1.r] (fun x1 =>
      some [D.bool true]) fun y1 => some y1
def weqSessionS.t (a : List D) : Option (List D) := weqSessionS.b (res a 0) (res a 1)
def weqIncludes.b (a0 a1 : D) : Option (List D) :=
  bif ((a0.f 0).i != (a1.f 0).i) then
    some [D.bool false]
  else
    bif ((a0.f 1).i != (a1.f 1).i) then
      some [D.bool false]
    else
      some [D.bool true]
def weqIncludes.t (a : List D) : Option (List D) := weqIncludes.b (res a 0) (res a 1)
def weqIncludesS.l1 (d1 : List D) : LR :=
  bif ltI (arg d1 0).i ((arg d1 1).r.length : Int) then
    bif leI 0 (arg d1 0).i && ltI (arg d1 0).i ((arg d1 1).r.length : Int) then
      bif leI 0 (arg d1 0).i && ltI (arg d1 0).i ((arg d1 2).r.length : Int) then
        Option.bind (weqIncludes.t [D.st [D.int (cell (arg d1 1).r (arg d1 0).i.toNat 0).i, D.int (cell (arg d1 1).r (arg d1 0).i.toNat 1).i], D.st [D.int (cell (arg d1 2).r (arg d1 0).i.toNat 0).i, D.int (cell (arg d1 2).r (arg d1 0).i.toNat 1).i]]) fun r1 =>
          bif !(res r1 0).b then
            some (.inr (.inr [D.bool false]))
          else
            some (.inl [D.int (w64 ((arg d1 0).i + 1)), D.rows (arg d1 1).r, D.rows (arg d1 2).r])
      else none
    else none
  else
    some (.inr (.inl []))
def weqIncludesS.b (a0 a1 : D) : Option (List D) :=
  bif ((a0.r.length : Int) != (a1.r.length : Int)) then
    some [D.bool false]
  else
    loop (weqIncludesS.l1) [D.int 0, D.rows a0.r, D.rows a1.r] (fun x1 =>
      some [D.bool true]) fun y1 => some y1
def weqIncludesS.t (a : List D) : Option (List D) := weqIncludesS.b (res a 0) (res a 1)
def weqCondS.l1 (g : GT) (d1 : List D) : LR :=
  bif ltI (arg d1 0).i ((arg d1 1).r.length : Int) then
    bif leI 0 (arg d1 0).i && ltI (arg d1 0).i ((arg d1 1).r.length : Int) then
      bif leI 0 (arg d1 0).i && ltI (arg d1 0).i ((arg d1 2).r.length : Int) then
        Option.bind (g weqCond.n [D.st [D.int (cell (arg d1 1).r (arg d1 0).i.toNat 0).i, D.int (cell (arg d1 1).r (arg d1 0).i.toNat 1).i, D.int (cell (arg d1 1).r (arg d1 0).i.toNat 2).i, D.rows (cell (arg d1 1).r (arg d1 0).i.toNat 3).r], D.st [D.int (cell (arg d1 2).r (arg d1 0).i.toNat 0).i, D.int (cell (arg d1 2).r (arg d1 0).i.toNat 1).i, D.int (cell (arg d1 2).r (arg d1 0).i.toNat 2).i, D.rows (cell (arg d1 2).r (arg d1 0).i.toNat 3).r]]) fun r1 =>
          bif !(res r1 0).b then
            some (.inr (.inr [D.bool false]))
          else
            some (.inl [D.int (w64 ((arg d1 0).i + 1)), D.rows (arg d1 1).r, D.rows (arg d1 2).r])
      else none
    else none
  else
    some (.inr (.inl []))
def weqCondS.b (g : GT) (a0 a1 : D) : Option (List D) :=
  bif ((a0.r.length : Int) != (a1.r.length : Int)) then
    some [D.bool false]
  else
    loop (weqCondS.l1 g) [D.int 0, D.rows a0.r, D.rows a1.r] (fun x1 =>
      some [D.bool true]) fun y1 => some y1
def weqCond.b (g : GT) (a0 a1 : D) : Option (List D) :=
  bif ((a0.f 0).i != (a1.f 0).i) then
    some [D.bool false]
  else
    bif ((a0.f 1).i != (a1.f 1).i) then
      some [D.bool false]
    else
      bif ((a0.f 2).i != (a1.f 2).i) then
        some [D.bool false]
      else
        Option.bind (g weqCondS.n [D.rows (a0.f 3).r, D.rows (a1.f 3).r]) fun r1 =>
          bif !(res r1 0).b then
            some [D.bool false]
          else
            some [D.bool true]
def weqCondS.F : Nat → GT
  | 0 => fun _ _ => none
  | n + 1 => fun k => look (fun _ => none) [(weqCondS.n, fun a => weqCondS.b (weqCondS.F n) (res a 0) (res a 1)), (weqCond.n, fun a => weqCond.b (weqCondS.F n) (res a 0) (res a 1))] k
def weqCondS.t (a : List D) : Option (List D) := lim fun n => weqCondS.F n weqCondS.n a
def weqCond.t (a : List D) : Option (List D) := lim fun n => weqCondS.F n weqCond.n a
def weqRule.b (a0 a1 : D) : Option (List D) :=
  bif ((a0.f 0).i != (a1.f 0).i) then
    some [D.bool false]
  else
    bif ((a0.f 1).i != (a1.f 1).i) then
      some [D.bool false]
    else
      bif ((a0.f 2).i != (a1.f 2).i) then
        some [D.bool false]
      else
        Option.bind (weqCond.t [D.st [D.int (a0.f 3).i, D.int (a0.f 4).i, D.int (a0.f 5).i, D.rows (a0.f 6).r], D.st [D.int (a1.f 3).i, D.int (a1.f 4).i, D.int (a1.f 5).i, D.rows (a1.f 6).r]]) fun r1 =>
          bif !(res r1 0).b then
            some [D.bool false]
          else
            some [D.bool true]
def weqRule.t (a : List D) : Option (List D) := weqRule.b (res a 0) (res a 1)
def weqRuleS.l1 (d1 : List D) : LR :=
  bif ltI (arg d1 0).i ((arg d1 1).r.length : Int) then
    bif leI 0 (arg d1 0).i && ltI (arg d1 0).i ((arg d1 1).r.length : Int) then
      bif leI 0 (arg d1 0).i && ltI (arg d1 0).i ((arg d1 2).r.length : Int) then
        Option.bind (weqRule.t [D.st [D.int (cell (arg d1 1).r (arg d1 0).i.toNat 0).i, D.int (cell (arg d1 1).r (arg d1 0).i.toNat 1).i, D.int (cell (arg d1 1).r (arg d1 0).i.toNat 2).i, D.int (cell (arg d1 1).r (arg d1 0).i.toNat 3).i, D.int (cell (arg d1 1).r (arg d1 0).i.toNat 4).i, D.int (cell (arg d1 1).r (arg d1 0).i.toNat 5).i, D.rows (cell (arg d1 1).r (arg d1 0).i.toNat 6).r], D.st [D.int (cell (arg d1 2).r (arg d1 0).i.toNat 0).i, D.int (cell (arg d1 2).r (arg d1 0).i.toNat 1).i, D.int (cell (arg d1 2).r (arg d1 0).i.toNat 2).i, D.int (cell (arg d1 2).r (arg d1 0).i.toNat 3).i, D.int (cell (arg d1 2).r (arg d1 0).i.toNat 4).i, D.int (cell (arg d1 2).r (arg d1 0).i.toNat 5).i, D.rows (cell (arg d1 2).r (arg d1 0).i.toNat 6).r]]) fun r1 =>
          bif !(res r1 0).b then
            some (.inr (.inr [D.bool false]))
          else
            some (.inl [D.int (w64 ((arg d1 0).i + 1)), D.rows (arg d1 1).r, D.rows (arg d1 2).r])
      else none
    else none
  else
    some (.inr (.inl []))
def weqRuleS.b (a0 a1 : D) : Option (List D) :=
  bif ((a0.r.length : Int) != (a1.r.length : Int)) then
    some [D.bool false]
  else
    loop (weqRuleS.l1) [D.int 0, D.rows a0.r, D.rows a1.r] (fun x1 =>
      some [D.bool true]) fun y1 => some y1
def weqRuleS.t (a : List D) : Option (List D) := weqRuleS.b (res a 0) (res a 1)
def weqPolicy.b (a0 a1 : D) : Option (List D) :=
  bif ((a0.f 0).i != (a1.f 0).i) then
    some [D.bool false]
  else
    Option.bind (weqRuleS.t [D.rows (a0.f 1).r, D.rows (a1.f 1).r]) fun r1 =>
      bif !(res r1 0).b then
        some [D.bool false]
      else
        some [D.bool true]
def weqPolicy.t (a : List D) : Option (List D) := weqPolicy.b (res a 0) (res a 1)
def weqEpoch.b (a0 a1 : D) : Option (List D) :=
  bif ((a0.f 0).i != (a1.f 0).i) then
    some [D.bool false]
  else
    bif ((a0.f 1).i != (a1.f 1).i) then
      some [D.bool false]
    else
      Option.bind (weqIncludesS.t [D.rows (a0.f 2).r, D.rows (a1.f 2).r]) fun r1 =>
        bif !(res r1 0).b then
          some [D.bool false]
        else
          Option.bind (weqPolicy.t [D.st [D.int (a0.f 3).i, D.rows (a0.f 4).r], D.st [D.int (a1.f 3).i, D.rows (a1.f 4).r]]) fun r2 =>
            bif !(res r2 0).b then
              some [D.bool false]
            else
              some [D.bool true]
def weqEpoch.t (a : List D) : Option (List D) := weqEpoch.b (res a 0) (res a 1)
def weqFact.b (a0 a1 : D) : Option (List D) :=
  bif ((a0.f 0).i != (a1.f 0).i) then
    some [D.bool false]
  else
    bif ((a0.f 1).i != (a1.f 1).i) then
      some [D.bool false]
    else
      bif ((a0.f 2).i != (a1.f 2).i) then
        some [D.bool false]
      else
        bif ((a0.f 3).i != (a1.f 3).i) then
          some [D.bool false]
        else
          bif ((a0.f 4).i != (a1.f 4).i) then
            some [D.bool false]
          else
            bif ((a0.f 5).i != (a1.f 5).i) then
              some [D.bool false]
            else
              some [D.bool true]
def weqFact.t (a : List D) : Option (List D) := weqFact.b (res a 0) (res a 1)
def weqFactS.l1 (d1 : List D) : LR :=
  bif ltI (arg d1 0).i ((arg d1 1).r.length : Int) then
    bif leI 0 (arg d1 0).i && ltI (arg d1 0).i ((arg d1 1).r.length : Int) then
      bif leI 0 (arg d1 0).i && ltI (arg d1 0).i ((arg d1 2).r.length : Int) then
        Option.bind (weqFact.t [D.st [D.int (cell (arg d1 1).r (arg d1 0).i.toNat 0).i, D.int (cell (arg d1 1).r (arg d1 0).i.toNat 1).i, D.int (cell (arg d1 1).r (arg d1 0).i.toNat 2).i, D.int (cell (arg d1 1).r (arg d1 0).i.toNat 3).i, D.int (cell (arg d1 1).r (arg d1 0).i.toNat 4).i, D.int (cell (arg d1 1).r (arg d1 0).i.toNat 5).i], D.st [D.int (cell (arg d1 2).r (arg d1 0).i.toNat 0).i, D.int (cell (arg d1 2).r (arg d1 0).i.toNat 1).i, D.int (cell (arg d1 2).r (arg d1 0).i.toNat 2).i, D.int (cell (arg d1 2).r (arg d1 0).i.toNat 3).i, D.int (cell (arg d1 2).r (arg d1 0).i.toNat 4).i, D.int (cell (arg d1 2).r (arg d1 0).i.toNat 5).i]]) fun r1 =>
          bif !(res r1 0).b then
            some (.inr (.inr [D.bool false]))
          else
            some (.inl [D.int (w64 ((arg d1 0).i + 1)), D.rows (arg d1 1).r, D.rows (arg d1 2).r])
      else none
    else none
  else
    some (.inr (.inl []))
def weqFactS.b (a0 a1 : D) : Option (List D) :=
  bif ((a0.r.length : Int) != (a1.r.length : Int)) then
    some [D.bool false]
  else
    loop (weqFactS.l1) [D.int 0, D.rows a0.r, D.rows a1.r] (fun x1 =>
      some [D.bool true]) fun y1 => some y1
def weqFactS.t (a : List D) : Option (List D) := weqFactS.b (res a 0) (res a 1)
def weqRevoked.b (a0 a1 : D) : Option (List D) :=
  bif ((a0.f 0).i != (a1.f 0).i) then
    some [D.bool false]
  else
    bif ((a0.f 1).i != (a1.f 1).i) then
      some [D.bool false]
    else
      some [D.bool true]
def weqRevoked.t (a : List D) : Option (List D) := weqRevoked.b (res a 0) (res a 1)
def weqRevokedS.l1 (d1 : List D) : LR :=
  bif ltI (arg d1 0).i ((arg d1 1).r.length : Int) then
    bif leI 0 (arg d1 0).i && ltI (arg d1 0).i ((arg d1 1).r.length : Int) then
      bif leI 0 (arg d1 0).i && ltI (arg d1 0).i ((arg d1 2).r.length : Int) then
        Option.bind (weqRevoked.t [D.st [D.int (cell (arg d1 1).r (arg d1 0).i.toNat 0).i, D.int (cell (arg d1 1).r (arg d1 0).i.toNat 1).i], D.st [D.int (cell (arg d1 2).r (arg d1 0).i.toNat 0).i, D.int (cell (arg d1 2).r (arg d1 0).i.toNat 1).i]]) fun r1 =>
          bif !(res r1 0).b then
            some (.inr (.inr [D.bool false]))
          else
            some (.inl [D.int (w64 ((arg d1 0).i + 1)), D.rows (arg d1 1).r, D.rows (arg d1 2).r])
      else none
    else none
  else
    some (.inr (.inl []))
def weqRevokedS.b (a0 a1 : D) : Option (List D) :=
  bif ((a0.r.length : Int) != (a1.r.length : Int)) then
    some [D.bool false]
  else
    loop (weqRevokedS.l1) [D.int 0, D.rows a0.r, D.rows a1.r] (fun x1 =>
      some [D.bool true]) fun y1 => some y1
def weqRevokedS.t (a : List D) : Option (List D) := weqRevokedS.b (res a 0) (res a 1)
def weqSaved.b (a0 a1 : D) : Option (List D) :=
  Option.bind (weqRequest.t [D.st [D.int (a0.f 0).i, D.int (a0.f 1).i, D.int (a0.f 2).i, D.int (a0.f 3).i, D.int (a0.f 4).i, D.int (a0.f 5).i], D.st [D.int (a1.f 0).i, D.int (a1.f 1).i, D.int (a1.f 2).i, D.int (a1.f 3).i, D.int (a1.f 4).i, D.int (a1.f 5).i]]) fun r1 =>
    bif !(res r1 0).b then
      some [D.bool false]
    else
      bif ((a0.f 6).i != (a1.f 6).i) then
        some [D.bool false]
      else
        bif ((a0.f 7).i != (a1.f 7).i) then
          some [D.bool false]
        else
          some [D.bool true]
def weqSaved.t (a : List D) : Option (List D) := weqSaved.b (res a 0) (res a 1)
def weqSavedS.l1 (d1 : List D) : LR :=
  bif ltI (arg d1 0).i ((arg d1 1).r.length : Int) then
    bif leI 0 (arg d1 0).i && ltI (arg d1 0).i ((arg d1 1).r.length : Int) then
      bif leI 0 (arg d1 0).i && ltI (arg d1 0).i ((arg d1 2).r.length : Int) then
        Option.bind (weqSaved.t [D.st [D.int (cell (arg d1 1).r (arg d1 0).i.toNat 0).i, D.int (cell (arg d1 1).r (arg d1 0).i.toNat 1).i, D.int (cell (arg d1 1).r (arg d1 0).i.toNat 2).i, D.int (cell (arg d1 1).r (arg d1 0).i.toNat 3).i, D.int (cell (arg d1 1).r (arg d1 0).i.toNat 4).i, D.int (cell (arg d1 1).r (arg d1 0).i.toNat 5).i, D.int (cell (arg d1 1).r (arg d1 0).i.toNat 6).i, D.int (cell (arg d1 1).r (arg d1 0).i.toNat 7).i], D.st [D.int (cell (arg d1 2).r (arg d1 0).i.toNat 0).i, D.int (cell (arg d1 2).r (arg d1 0).i.toNat 1).i, D.int (cell (arg d1 2).r (arg d1 0).i.toNat 2).i, D.int (cell (arg d1 2).r (arg d1 0).i.toNat 3).i, D.int (cell (arg d1 2).r (arg d1 0).i.toNat 4).i, D.int (cell (arg d1 2).r (arg d1 0).i.toNat 5).i, D.int (cell (arg d1 2).r (arg d1 0).i.toNat 6).i, D.int (cell (arg d1 2).r (arg d1 0).i.toNat 7).i]]) fun r1 =>
          bif !(res r1 0).b then
            some (.inr (.inr [D.bool false]))
          else
            some (.inl [D.int (w64 ((arg d1 0).i + 1)), D.rows (arg d1 1).r, D.rows (arg d1 2).r])
      else none
    else none
  else
    some (.inr (.inl []))
def weqSavedS.b (a0 a1 : D) : Option (List D) :=
  bif ((a0.r.length : Int) != (a1.r.length : Int)) then
    some [D.bool false]
  else
    loop (weqSavedS.l1) [D.int 0, D.rows a0.r, D.rows a1.r] (fun x1 =>
      some [D.bool true]) fun y1 => some y1
def weqSavedS.t (a : List D) : Option (List D) := weqSavedS.b (res a 0) (res a 1)
def weqPoint.b (a0 a1 : D) : Option (List D) :=
  bif ((a0.f 0).i != (a1.f 0).i) then
    some [D.bool false]
  else
    Option.bind (weqEpoch.t [D.st [D.int (a0.f 1).i, D.int (a0.f 2).i, D.rows (a0.f 3).r, D.int (a0.f 4).i, D.rows (a0.f 5).r], D.st [D.int (a1.f 1).i, D.int (a1.f 2).i, D.rows (a1.f 3).r, D.int (a1.f 4).i, D.rows (a1.f 5).r]]) fun r1 =>
      bif !(res r1 0).b then
        some [D.bool false]
      else
        Option.bind (weqFactS.t [D.rows (a0.f 6).r, D.rows (a1.f 6).r]) fun r2 =>
          bif !(res r2 0).b then
            some [D.bool false]
          else
            Option.bind (weqRevokedS.t [D.rows (a0.f 7).r, D.rows (a1.f 7).r]) fun r3 =>
              bif !(res r3 0).b then
                some [D.bool false]
              else
                bif ((a0.f 8).i != (a1.f 8).i) then
                  some [D.bool false]
                else
                  Option.bind (weqSavedS.t [D.rows (a0.f 9).r, D.rows (a1.f 9).r]) fun r4 =>
                    bif !(res r4 0).b then
                      some [D.bool false]
                    else
                      some [D.bool true]
def weqPoint.t (a : List D) : Option (List D) := weqPoint.b (res a 0) (res a 1)
def weqPointS.l1 (d1 : List D) : LR :=
  bif ltI (arg d1 0).i ((arg d1 1).r.length : Int) then
    bif leI 0 (arg d1 0).i && ltI (arg d1 0).i ((arg d1 1).r.length : Int) then
      bif leI 0 (arg d1 0).i && ltI (arg d1 0).i ((arg d1 2).r.length : Int) then
        Option.bind (weqPoint.t [D.st [D.int (cell (arg d1 1).r (arg d1 0).i.toNat 0).i, D.int (cell (arg d1 1).r (arg d1 0).i.toNat 1).i, D.int (cell (arg d1 1).r (arg d1 0).i.toNat 2).i, D.rows (cell (arg d1 1).r (arg d1 0).i.toNat 3).r, D.int (cell (arg d1 1).r (arg d1 0).i.toNat 4).i, D.rows (cell (arg d1 1).r (arg d1 0).i.toNat 5).r, D.rows (cell (arg d1 1).r (arg d1 0).i.toNat 6).r, D.rows (cell (arg d1 1).r (arg d1 0).i.toNat 7).r, D.int (cell (arg d1 1).r (arg d1 0).i.toNat 8).i, D.rows (cell (arg d1 1).r (arg d1 0).i.toNat 9).r], D.st [D.int (cell (arg d1 2).r (arg d1 0).i.toNat 0).i, D.int (cell (arg d1 2).r (arg d1 0).i.toNat 1).i, D.int (cell (arg d1 2).r (arg d1 0).i.toNat 2).i, D.rows (cell (arg d1 2).r (arg d1 0).i.toNat 3).r, D.int (cell (arg d1 2).r (arg d1 0).i.toNat 4).i, D.rows (cell (arg d1 2).r (arg d1 0).i.toNat 5).r, D.rows (cell (arg d1 2).r (arg d1 0).i.toNat 6).r, D.rows (cell (arg d1 2).r (arg d1 0).i.toNat 7).r, D.int (cell (arg d1 2).r (arg d1 0).i.toNat 8).i, D.rows (cell (arg d1 2).r (arg d1 0).i.toNat 9).r]]) fun r1 =>
          bif !(res r1 0).b then
            some (.inr (.inr [D.bool false]))
          else
            some (.inl [D.int (w64 ((arg d1 0).i + 1)), D.rows (arg d1 1).r, D.rows (arg d1 2).r])
      else none
    else none
  else
    some (.inr (.inl []))
def weqPointS.b (a0 a1 : D) : Option (List D) :=
  bif ((a0.r.length : Int) != (a1.r.length : Int)) then
    some [D.bool false]
  else
    loop (weqPointS.l1) [D.int 0, D.rows a0.r, D.rows a1.r] (fun x1 =>
      some [D.bool true]) fun y1 => some y1
def weqPointS.t (a : List D) : Option (List D) := weqPointS.b (res a 0) (res a 1)
def weqCert.b (a0 a1 : D) : Option (List D) :=
  bif ((a0.f 0).i != (a1.f 0).i) then
    some [D.bool false]
  else
    bif ((a0.f 1).i != (a1.f 1).i) then
      some [D.bool false]
    else
      bif ((a0.f 2).i != (a1.f 2).i) then
        some [D.bool false]
      else
        bif ((a0.f 3).i != (a1.f 3).i) then
          some [D.bool false]
        else
          bif ((a0.f 4).i != (a1.f 4).i) then
            some [D.bool false]
          else
            bif ((a0.f 5).i != (a1.f 5).i) then
              some [D.bool false]
            else
              some [D.bool true]
def weqCert.t (a : List D) : Option (List D) := weqCert.b (res a 0) (res a 1)
def weqCertS.l1 (d1 : List D) : LR :=
  bif ltI (arg d1 0).i ((arg d1 1).r.length : Int) then
    bif leI 0 (arg d1 0).i && ltI (arg d1 0).i ((arg d1 1).r.length : Int) then
      bif leI 0 (arg d1 0).i && ltI (arg d1 0).i ((arg d1 2).r.length : Int) then
        Option.bind (weqCert.t [D.st [D.int (cell (arg d1 1).r (arg d1 0).i.toNat 0).i, D.int (cell (arg d1 1).r (arg d1 0).i.toNat 1).i, D.int (cell (arg d1 1).r (arg d1 0).i.toNat 2).i, D.int (cell (arg d1 1).r (arg d1 0).i.toNat 3).i, D.int (cell (arg d1 1).r (arg d1 0).i.toNat 4).i, D.int (cell (arg d1 1).r (arg d1 0).i.toNat 5).i], D.st [D.int (cell (arg d1 2).r (arg d1 0).i.toNat 0).i, D.int (cell (arg d1 2).r (arg d1 0).i.toNat 1).i, D.int (cell (arg d1 2).r (arg d1 0).i.toNat 2).i, D.int (cell (arg d1 2).r (arg d1 0).i.toNat 3).i, D.int (cell (arg d1 2).r (arg d1 0).i.toNat 4).i, D.int (cell (arg d1 2).r (arg d1 0).i.toNat 5).i]]) fun r1 =>
          bif !(res r1 0).b then
            some (.inr (.inr [D.bool false]))
          else
            some (.inl [D.int (w64 ((arg d1 0).i + 1)), D.rows (arg d1 1).r, D.rows (arg d1 2).r])
      else none
    else none
  else
    some (.inr (.inl []))
def weqCertS.b (a0 a1 : D) : Option (List D) :=
  bif ((a0.r.length : Int) != (a1.r.length : Int)) then
    some [D.bool false]
  else
    loop (weqCertS.l1) [D.int 0, D.rows a0.r, D.rows a1.r] (fun x1 =>
      some [D.bool true]) fun y1 => some y1
def weqCertS.t (a : List D) : Option (List D) := weqCertS.b (res a 0) (res a 1)
def wmarkSessionS.l1 (d1 : List D) : LR :=
  bif ltI (arg d1 1).i ((arg d1 2).r.length : Int) then
    bif leI 0 (arg d1 1).i && ltI (arg d1 1).i ((arg d1 2).r.length : Int) then
      bif leI 0 (arg d1 1).i && ltI (arg d1 1).i ((setCells (arg d1 2).r (arg d1 1).i.toNat 0 [D.int (arg d1 0).i]).length : Int) then
        bif leI 0 (arg d1 1).i && ltI (arg d1 1).i ((setCells (setCells (arg d1 2).r (arg d1 1).i.toNat 0 [D.int (arg d1 0).i]) (arg d1 1).i.toNat 1 [D.int (w64 ((arg d1 0).i + 1))]).length : Int) then
          bif leI 0 (arg d1 1).i && ltI (arg d1 1).i ((setCells (setCells (setCells (arg d1 2).r (arg d1 1).i.toNat 0 [D.int (arg d1 0).i]) (arg d1 1).i.toNat 1 [D.int (w64 ((arg d1 0).i + 1))]) (arg d1 1).i.toNat 2 [D.int (w64 ((w64 ((arg d1 0).i + 1)) + 1))]).length : Int) then
            bif leI 0 (arg d1 1).i && ltI (arg d1 1).i ((setCells (setCells (setCells (setCells (arg d1 2).r (arg d1 1).i.toNat 0 [D.int (arg d1 0).i]) (arg d1 1).i.toNat 1 [D.int (w64 ((arg d1 0).i + 1))]) (arg d1 1).i.toNat 2 [D.int (w64 ((w64 ((arg d1 0).i + 1)) + 1))]) (arg d1 1).i.toNat 3 [D.int (w64 ((w64 ((w64 ((arg d1 0).i + 1)) + 1)) + 1))]).length : Int) then
              bif leI 0 (arg d1 1).i && ltI (arg d1 1).i ((setCells (setCells (setCells (setCells (setCells (arg d1 2).r (arg d1 1).i.toNat 0 [D.int (arg d1 0).i]) (arg d1 1).i.toNat 1 [D.int (w64 ((arg d1 0).i + 1))]) (arg d1 1).i.toNat 2 [D.int (w64 ((w64 ((arg d1 0).i + 1)) + 1))]) (arg d1 1).i.toNat 3 [D.int (w64 ((w64 ((w64 ((arg d1 0).i + 1)) + 1)) + 1))]) (arg d1 1).i.toNat 4 [D.int (w64 ((w64 ((w64 ((w64 ((arg d1 0).i + 1)) + 1)) + 1)) + 1))]).length : Int) then
                bif leI 0 (arg d1 1).i && ltI (arg d1 1).i ((setCells (setCells (setCells (setCells (setCells (setCells (arg d1 2).r (arg d1 1).i.toNat 0 [D.int (arg d1 0).i]) (arg d1 1).i.toNat 1 [D.int (w64 ((arg d1 0).i + 1))]) (arg d1 1).i.toNat 2 [D.int (w64 ((w64 ((arg d1 0).i + 1)) + 1))]) (arg d1 1).i.toNat 3 [D.int (w64 ((w64 ((w64 ((arg d1 0).i + 1)) + 1)) + 1))]) (arg d1 1).i.toNat 4 [D.int (w64 ((w64 ((w64 ((w64 ((arg d1 0).i + 1)) + 1)) + 1)) + 1))]) (arg d1 1).i.toNat 5 [D.int (w64 ((w64 ((w64 ((w64 ((w64 ((arg d1 0).i + 1)) + 1)) + 1)) + 1)) + 1))]).length : Int) then
                  bif leI 0 (arg d1 1).i && ltI (arg d1 1).i ((setCells (setCells (setCells (setCells (setCells (setCells (setCells (arg d1 2).r (arg d1 1).i.toNat 0 [D.int (arg d1 0).i]) (arg d1 1).i.toNat 1 [D.int (w64 ((arg d1 0).i + 1))]) (arg d1 1).i.toNat 2 [D.int (w64 ((w64 ((arg d1 0).i + 1)) + 1))]) (arg d1 1).i.toNat 3 [D.int (w64 ((w64 ((w64 ((arg d1 0).i + 1)) + 1)) + 1))]) (arg d1 1).i.toNat 4 [D.int (w64 ((w64 ((w64 ((w64 ((arg d1 0).i + 1)) + 1)) + 1)) + 1))]) (arg d1 1).i.toNat 5 [D.int (w64 ((w64 ((w64 ((w64 ((w64 ((arg d1 0).i + 1)) + 1)) + 1)) + 1)) + 1))]) (arg d1 1).i.toNat 6 [D.int (w64 ((w64 ((w64 ((w64 ((w64 ((w64 ((arg d1 0).i + 1)) + 1)) + 1)) + 1)) + 1)) + 1))]).length : Int) then
                    bif leI 0 (arg d1 1).i && ltI (arg d1 1).i ((setCells (setCells (setCells (setCells (setCells (setCells (setCells (setCells (arg d1 2).r (arg d1 1).i.toNat 0 [D.int (arg d1 0).i]) (arg d1 1).i.toNat 1 [D.int (w64 ((arg d1 0).i + 1))]) (arg d1 1).i.toNat 2 [D.int (w64 ((w64 ((arg d1 0).i + 1)) + 1))]) (arg d1 1).i.toNat 3 [D.int (w64 ((w64 ((w64 ((arg d1 0).i + 1)) + 1)) + 1))]) (arg d1 1).i.toNat 4 [D.int (w64 ((w64 ((w64 ((w64 ((arg d1 0).i + 1)) + 1)) + 1)) + 1))]) (arg d1 1).i.toNat 5 [D.int (w64 ((w64 ((w64 ((w64 ((w64 ((arg d1 0).i + 1)) + 1)) + 1)) + 1)) + 1))]) (arg d1 1).i.toNat 6 [D.int (w64 ((w64 ((w64 ((w64 ((w64 ((w64 ((arg d1 0).i + 1)) + 1)) + 1)) + 1)) + 1)) + 1))]) (arg d1 1).i.toNat 7 [D.int (w64 ((w64 ((w64 ((w64 ((w64 ((w64 ((w64 ((arg d1 0).i + 1)) + 1)) + 1)) + 1)) + 1)) + 1)) + 1))]).length : Int) then
                      bif leI 0 (arg d1 1).i && ltI (arg d1 1).i ((setCells (setCells (setCells (setCells (setCells (setCells (setCells (setCells (setCells (arg d1 2).r (arg d1 1).i.toNat 0 [D.int (arg d1 0).i]) (arg d1 1).i.toNat 1 [D.int (w64 ((arg d1 0).i + 1))]) (arg d1 1).i.toNat 2 [D.int (w64 ((w64 ((arg d1 0).i + 1)) + 1))]) (arg d1 1).i.toNat 3 [D.int (w64 ((w64 ((w64 ((arg d1 0).i + 1)) + 1)) + 1))]) (arg d1 1).i.toNat 4 [D.int (w64 ((w64 ((w64 ((w64 ((arg d1 0).i + 1)) + 1)) + 1)) + 1))]) (arg d1 1).i.toNat 5 [D.int (w64 ((w64 ((w64 ((w64 ((w64 ((arg d1 0).i + 1)) + 1)) + 1)) + 1)) + 1))]) (arg d1 1).i.toNat 6 [D.int (w64 ((w64 ((w64 ((w64 ((w64 ((w64 ((arg d1 0).i + 1)) + 1)) + 1)) + 1)) + 1)) + 1))]) (arg d1 1).i.toNat 7 [D.int (w64 ((w64 ((w64 ((w64 ((w64 ((w64 ((w64 ((arg d1 0).i + 1)) + 1)) + 1)) + 1)) + 1)) + 1)) + 1))]) (arg d1 1).i.toNat 8 [D.int (w64 ((w64 ((w64 ((w64 ((w64 ((w64 ((w64 ((w64 ((arg d1 0).i + 1)) + 1)) + 1)) + 1)) + 1)) + 1)) + 1)) + 1))]).length : Int) then
                        some (.inl [D.int (w64 ((w64 ((w64 ((w64 ((w64 ((w64 ((w64 ((w64 ((w64 ((w64 ((arg d1 0).i + 1)) + 1)) + 1)) + 1)) + 1)) + 1)) + 1)) + 1)) + 1)) + 1)), D.int (w64 ((arg d1 1).i + 1)), D.rows (setCells (setCells (setCells (setCells (setCells (setCells (setCells (setCells (setCells (setCells (arg d1 2).r (arg d1 1).i.toNat 0 [D.int (arg d1 0).i]) (arg d1 1).i.toNat 1 [D.int (w64 ((arg d1 0).i + 1))]) (arg d1 1).i.toNat 2 [D.int (w64 ((w64 ((arg d1 0).i + 1)) + 1))]) (arg d1 1).i.toNat 3 [D.int (w64 ((w64 ((w64 ((arg d1 0).i + 1)) + 1)) + 1))]) (arg d1 1).i.toNat 4 [D.int (w64 ((w64 ((w64 ((w64 ((arg d1 0).i + 1)) + 1)) + 1)) + 1))]) (arg d1 1).i.toNat 5 [D.int (w64 ((w64 ((w64 ((w64 ((w64 ((arg d1 0).i + 1)) + 1)) + 1)) + 1)) + 1))]) (arg d1 1).i.toNat 6 [D.int (w64 ((w64 ((w64 ((w64 ((w64 ((w64 ((arg d1 0).i + 1)) + 1)) + 1)) + 1)) + 1)) + 1))]) (arg d1 1).i.toNat 7 [D.int (w64 ((w64 ((w64 ((w64 ((w64 ((w64 ((w64 ((arg d1 0).i + 1)) + 1)) + 1)) + 1)) + 1)) + 1)) + 1))]) (arg d1 1).i.toNat 8 [D.int (w64 ((w64 ((w64 ((w64 ((w64 ((w64 ((w64 ((w64 ((arg d1 0).i + 1)) + 1)) + 1)) + 1)) + 1)) + 1)) + 1)) + 1))]) (arg d1 1).i.toNat 9 [D.bool ((w64 ((w64 ((w64 ((w64 ((w64 ((w64 ((w64 ((w64 ((w64 ((arg d1 0).i + 1)) + 1)) + 1)) + 1)) + 1)) + 1)) + 1)) + 1)) + 1)).tmod 3 == 0)])])
                      else none
                    else none
                  else none
                else none
              else none
            else none
          else none
        else none
      else none
    else none
  else
    some (.inr (.inl [D.int (arg d1 0).i, D.rows (arg d1 2).r]))
def wmarkSessionS.b (a0 a1 : D) : Option (List D) :=
  loop (wmarkSessionS.l1) [D.int a1.i, D.int 0, D.rows a0.r] (fun x1 =>
    some [D.int (arg x1 0).i, D.rows (arg x1 1).r]) fun y1 => some y1
def wmarkSessionS.t (a : List D) : Option (List D) := wmarkSessionS.b (res a 0) (res a 1)
def wmarkIncludesS.l1 (d1 : List D) : LR :=
  bif ltI (arg d1 1).i ((arg d1 2).r.length : Int) then
    bif leI 0 (arg d1 1).i && ltI (arg d1 1).i ((arg d1 2).r.length : Int) then
      bif leI 0 (arg d1 1).i && ltI (arg d1 1).i ((setCells (arg d1 2).r (arg d1 1).i.toNat 0 [D.int (arg d1 0).i]).length : Int) then
        some (.inl [D.int (w64 ((w64 ((arg d1 0).i + 1)) + 1)), D.int (w64 ((arg d1 1).i + 1)), D.rows (setCells (setCells (arg d1 2).r (arg d1 1).i.toNat 0 [D.int (arg d1 0).i]) (arg d1 1).i.toNat 1 [D.int (w64 ((arg d1 0).i + 1))])])
      else none
    else none
  else
    some (.inr (.inl [D.int (arg d1 0).i, D.rows (arg d1 2).r]))
def wmarkIncludesS.b (a0 a1 : D) : Option (List D) :=
  loop (wmarkIncludesS.l1) [D.int a1.i, D.int 0, D.rows a0.r] (fun x1 =>
    some [D.int (arg x1 0).i, D.rows (arg x1 1).r]) fun y1 => some y1
def wmarkIncludesS.t (a : List D) : Option (List D) := wmarkIncludesS.b (res a 0) (res a 1)
def wmarkCondS.l1 (g : GT) (d1 : List D) : LR :=
  bif ltI (arg d1 1).i ((arg d1 2).r.length : Int) then
    bif leI 0 (arg d1 1).i && ltI (arg d1 1).i ((arg d1 2).r.length : Int) then
      bif leI 0 (arg d1 1).i && ltI (arg d1 1).i ((setCells (arg d1 2).r (arg d1 1).i.toNat 0 [D.int (arg d1 0).i]).length : Int) then
        bif leI 0 (arg d1 1).i && ltI (arg d1 1).i ((setCells (setCells (arg d1 2).r (arg d1 1).i.toNat 0 [D.int (arg d1 0).i]) (arg d1 1).i.toNat 1 [D.int (w64 ((arg d1 0).i + 1))]).length : Int) then
          bif leI 0 (arg d1 1).i && ltI (arg d1 1).i ((setCells (setCells (setCells (arg d1 2).r (arg d1 1).i.toNat 0 [D.int (arg d1 0).i]) (arg d1 1).i.toNat 1 [D.int (w64 ((arg d1 0).i + 1))]) (arg d1 1).i.toNat 2 [D.int (w64 ((w64 ((arg d1 0).i + 1)) + 1))]).length : Int) then
            Option.bind (g wmarkCondS.n [D.rows (cell (setCells (setCells (setCells (arg d1 2).r (arg d1 1).i.toNat 0 [D.int (arg d1 0).i]) (arg d1 1).i.toNat 1 [D.int (w64 ((arg d1 0).i + 1))]) (arg d1 1).i.toNat 2 [D.int (w64 ((w64 ((arg d1 0).i + 1)) + 1))]) (arg d1 1).i.toNat 3).r, D.int (w64 ((w64 ((w64 ((arg d1 0).i + 1)) + 1)) + 1))]) fun r1 =>
              some (.inl [D.int (res r1 0).i, D.int (w64 ((arg d1 1).i + 1)), D.rows (setIn (setCells (setCells (setCells (arg d1 2).r (arg d1 1).i.toNat 0 [D.int (arg d1 0).i]) (arg d1 1).i.toNat 1 [D.int (w64 ((arg d1 0).i + 1))]) (arg d1 1).i.toNat 2 [D.int (w64 ((w64 ((arg d1 0).i + 1)) + 1))]) (arg d1 1).i.toNat 3 (res r1 1).r)])
          else none
        else none
      else none
    else none
  else
    some (.inr (.inl [D.int (arg d1 0).i, D.rows (arg d1 2).r]))
def wmarkCondS.b (g : GT) (a0 a1 : D) : Option (List D) :=
  loop (wmarkCondS.l1 g) [D.int a1.i, D.int 0, D.rows a0.r] (fun x1 =>
    some [D.int (arg x1 0).i, D.rows (arg x1 1).r]) fun y1 => some y1
def wmarkCondS.F : Nat → GT
  | 0 => fun _ _ => none
  | n + 1 => fun k => look (fun _ => none) [(wmarkCondS.n, fun a => wmarkCondS.b (wmarkCondS.F n) (res a 0) (res a 1))] k
def wmarkCondS.t (a : List D) : Option (List D) := lim fun n => wmarkCondS.F n wmarkCondS.n a
def wmarkRuleS.l1 (d1 : List D) : LR :=
  bif ltI (arg d1 1).i ((arg d1 2).r.length : Int) then
    bif leI 0 (arg d1 1).i && ltI (arg d1 1).i ((arg d1 2).r.length : Int) then
      bif leI 0 (arg d1 1).i && ltI (arg d1 1).i ((setCells (arg d1 2).r (arg d1 1).i.toNat 0 [D.int (arg d1 0).i]).length : Int) then
        bif leI 0 (arg d1 1).i && ltI (arg d1 1).i ((setCells (setCells (arg d1 2).r (arg d1 1).i.toNat 0 [D.int (arg d1 0).i]) (arg d1 1).i.toNat 1 [D.int (w64 ((arg d1 0).i + 1))]).length : Int) then
          bif leI 0 (arg d1 1).i && ltI (arg d1 1).i ((setCells (setCells (setCells (arg d1 2).r (arg d1 1).i.toNat 0 [D.int (arg d1 0).i]) (arg d1 1).i.toNat 1 [D.int (w64 ((arg d1 0).i + 1))]) (arg d1 1).i.toNat 2 [D.int (w64 ((w64 ((arg d1 0).i + 1)) + 1))]).length : Int) then
            bif leI 0 (arg d1 1).i && ltI (arg d1 1).i ((setCells (setCells (setCells (setCells (arg d1 2).r (arg d1 1).i.toNat 0 [D.int (arg d1 0).i]) (arg d1 1).i.toNat 1 [D.int (w64 ((arg d1 0).i + 1))]) (arg d1 1).i.toNat 2 [D.int (w64 ((w64 ((arg d1 0).i + 1)) + 1))]) (arg d1 1).i.toNat 3 [D.int (w64 ((w64 ((w64 ((arg d1 0).i + 1)) + 1)) + 1))]).length : Int) then
              bif leI 0 (arg d1 1).i && ltI (arg d1 1).i ((setCells (setCells (setCells (setCells (setCells (arg d1 2).r (arg d1 1).i.toNat 0 [D.int (arg d1 0).i]) (arg d1 1).i.toNat 1 [D.int (w64 ((arg d1 0).i + 1))]) (arg d1 1).i.toNat 2 [D.int (w64 ((w64 ((arg d1 0).i + 1)) + 1))]) (arg d1 1).i.toNat 3 [D.int (w64 ((w64 ((w64 ((arg d1 0).i + 1)) + 1)) + 1))]) (arg d1 1).i.toNat 4 [D.int (w64 ((w64 ((w64 ((w64 ((arg d1 0).i + 1)) + 1)) + 1)) + 1))]).length : Int) then
                bif leI 0 (arg d1 1).i && ltI (arg d1 1).i ((setCells (setCells (setCells (setCells (setCells (setCells (arg d1 2).r (arg d1 1).i.toNat 0 [D.int (arg d1 0).i]) (arg d1 1).i.toNat 1 [D.int (w64 ((arg d1 0).i + 1))]) (arg d1 1).i.toNat 2 [D.int (w64 ((w64 ((arg d1 0).i + 1)) + 1))]) (arg d1 1).i.toNat 3 [D.int (w64 ((w64 ((w64 ((arg d1 0).i + 1)) + 1)) + 1))]) (arg d1 1).i.toNat 4 [D.int (w64 ((w64 ((w64 ((w64 ((arg d1 0).i + 1)) + 1)) + 1)) + 1))]) (arg d1 1).i.toNat 5 [D.int (w64 ((w64 ((w64 ((w64 ((w64 ((arg d1 0).i + 1)) + 1)) + 1)) + 1)) + 1))]).length : Int) then
                  Option.bind (wmarkCondS.t [D.rows (cell (setCells (setCells (setCells (setCells (setCells (setCells (arg d1 2).r (arg d1 1).i.toNat 0 [D.int (arg d1 0).i]) (arg d1 1).i.toNat 1 [D.int (w64 ((arg d1 0).i + 1))]) (arg d1 1).i.toNat 2 [D.int (w64 ((w64 ((arg d1 0).i + 1)) + 1))]) (arg d1 1).i.toNat 3 [D.int (w64 ((w64 ((w64 ((arg d1 0).i + 1)) + 1)) + 1))]) (arg d1 1).i.toNat 4 [D.int (w64 ((w64 ((w64 ((w64 ((arg d1 0).i + 1)) + 1)) + 1)) + 1))]) (arg d1 1).i.toNat 5 [D.int (w64 ((w64 ((w64 ((w64 ((w64 ((arg d1 0).i + 1)) + 1)) + 1)) + 1)) + 1))]) (arg d1 1).i.toNat 6).r, D.int (w64 ((w64 ((w64 ((w64 ((w64 ((w64 ((arg d1 0).i + 1)) + 1)) + 1)) + 1)) + 1)) + 1))]) fun r1 =>
                    some (.inl [D.int (res r1 0).i, D.int (w64 ((arg d1 1).i + 1)), D.rows (setIn (setCells (setCells (setCells (setCells (setCells (setCells (arg d1 2).r (arg d1 1).i.toNat 0 [D.int (arg d1 0).i]) (arg d1 1).i.toNat 1 [D.int (w64 ((arg d1 0).i + 1))]) (arg d1 1).i.toNat 2 [D.int (w64 ((w64 ((arg d1 0).i + 1)) + 1))]) (arg d1 1).i.toNat 3 [D.int (w64 ((w64 ((w64 ((arg d1 0).i + 1)) + 1)) + 1))]) (arg d1 1).i.toNat 4 [D.int (w64 ((w64 ((w64 ((w64 ((arg d1 0).i + 1)) + 1)) + 1)) + 1))]) (arg d1 1).i.toNat 5 [D.int (w64 ((w64 ((w64 ((w64 ((w64 ((arg d1 0).i + 1)) + 1)) + 1)) + 1)) + 1))]) (arg d1 1).i.toNat 6 (res r1 1).r)])
                else none
              else none
            else none
          else none
        else none
      else none
    else none
  else
    some (.inr (.inl [D.int (arg d1 0).i, D.rows (arg d1 2).r]))
def wmarkRuleS.b (a0 a1 : D) : Option (List D) :=
  loop (wmarkRuleS.l1) [D.int a1.i, D.int 0, D.rows a0.r] (fun x1 =>
    some [D.int (arg x1 0).i, D.rows (arg x1 1).r]) fun y1 => some y1
def wmarkRuleS.t (a : List D) : Option (List D) := wmarkRuleS.b (res a 0) (res a 1)
def wmarkFactS.l1 (d1 : List D) : LR :=
  bif ltI (arg d1 1).i ((arg d1 2).r.length : Int) then
    bif leI 0 (arg d1 1).i && ltI (arg d1 1).i ((arg d1 2).r.length : Int) then
      bif leI 0 (arg d1 1).i && ltI (arg d1 1).i ((setCells (arg d1 2).r (arg d1 1).i.toNat 0 [D.int (arg d1 0).i]).length : Int) then
        bif leI 0 (arg d1 1).i && ltI (arg d1 1).i ((setCells (setCells (arg d1 2).r (arg d1 1).i.toNat 0 [D.int (arg d1 0).i]) (arg d1 1).i.toNat 1 [D.int (w64 ((arg d1 0).i + 1))]).length : Int) then
          bif leI 0 (arg d1 1).i && ltI (arg d1 1).i ((setCells (setCells (setCells (arg d1 2).r (arg d1 1).i.toNat 0 [D.int (arg d1 0).i]) (arg d1 1).i.toNat 1 [D.int (w64 ((arg d1 0).i + 1))]) (arg d1 1).i.toNat 2 [D.int (w64 ((w64 ((arg d1 0).i + 1)) + 1))]).length : Int) then
            bif leI 0 (arg d1 1).i && ltI (arg d1 1).i ((setCells (setCells (setCells (setCells (arg d1 2).r (arg d1 1).i.toNat 0 [D.int (arg d1 0).i]) (arg d1 1).i.toNat 1 [D.int (w64 ((arg d1 0).i + 1))]) (arg d1 1).i.toNat 2 [D.int (w64 ((w64 ((arg d1 0).i + 1)) + 1))]) (arg d1 1).i.toNat 3 [D.int (w64 ((w64 ((w64 ((arg d1 0).i + 1)) + 1)) + 1))]).length : Int) then
              bif leI 0 (arg d1 1).i && ltI (arg d1 1).i ((setCells (setCells (setCells (setCells (setCells (arg d1 2).r (arg d1 1).i.toNat 0 [D.int (arg d1 0).i]) (arg d1 1).i.toNat 1 [D.int (w64 ((arg d1 0).i + 1))]) (arg d1 1).i.toNat 2 [D.int (w64 ((w64 ((arg d1 0).i + 1)) + 1))]) (arg d1 1).i.toNat 3 [D.int (w64 ((w64 ((w64 ((arg d1 0).i + 1)) + 1)) + 1))]) (arg d1 1).i.toNat 4 [D.int (w64 ((w64 ((w64 ((w64 ((arg d1 0).i + 1)) + 1)) + 1)) + 1))]).length : Int) then
                some (.inl [D.int (w64 ((w64 ((w64 ((w64 ((w64 ((w64 ((arg d1 0).i + 1)) + 1)) + 1)) + 1)) + 1)) + 1)), D.int (w64 ((arg d1 1).i + 1)), D.rows (setCells (setCells (setCells (setCells (setCells (setCells (arg d1 2).r (arg d1 1).i.toNat 0 [D.int (arg d1 0).i]) (arg d1 1).i.toNat 1 [D.int (w64 ((arg d1 0).i + 1))]) (arg d1 1).i.toNat 2 [D.int (w64 ((w64 ((arg d1 0).i + 1)) + 1))]) (arg d1 1).i.toNat 3 [D.int (w64 ((w64 ((w64 ((arg d1 0).i + 1)) + 1)) + 1))]) (arg d1 1).i.toNat 4 [D.int (w64 ((w64 ((w64 ((w64 ((arg d1 0).i + 1)) + 1)) + 1)) + 1))]) (arg d1 1).i.toNat 5 [D.int (w64 ((w64 ((w64 ((w64 ((w64 ((arg d1 0).i + 1)) + 1)) + 1)) + 1)) + 1))])])
              else none
            else none
          else none
        else none
      else none
    else none
  else
    some (.inr (.inl [D.int (arg d1 0).i, D.rows (arg d1 2).r]))
def wmarkFactS.b (a0 a1 : D) : Option (List D) :=
  loop (wmarkFactS.l1) [D.int a1.i, D.int 0, D.rows a0.r] (fun x1 =>
    some [D.int (arg x1 0).i, D.rows (arg x1 1).r]) fun y1 => some y1
def wmarkFactS.t (a : List D) : Option (List D) := wmarkFactS.b (res a 0) (res a 1)
def wmarkRevokedS.l1 (d1 : List D) : LR :=
  bif ltI (arg d1 1).i ((arg d1 2).r.length : Int) then
    bif leI 0 (arg d1 1).i && ltI (arg d1 1).i ((arg d1 2).r.length : Int) then
      bif leI 0 (arg d1 1).i && ltI (arg d1 1).i ((setCells (arg d1 2).r (arg d1 1).i.toNat 0 [D.int (arg d1 0).i]).length : Int) then
        some (.inl [D.int (w64 ((w64 ((arg d1 0).i + 1)) + 1)), D.int (w64 ((arg d1 1).i + 1)), D.rows (setCells (setCells (arg d1 2).r (arg d1 1).i.toNat 0 [D.int (arg d1 0).i]) (arg d1 1).i.toNat 1 [D.int (w64 ((arg d1 0).i + 1))])])
      else none
    else none
  else
    some (.inr (.inl [D.int (arg d1 0).i, D.rows (arg d1 2).r]))
def wmarkRevokedS.b (a0 a1 : D) : Option (List D) :=
  loop (wmarkRevokedS.l1) [D.int a1.i, D.int 0, D.rows a0.r] (fun x1 =>
    some [D.int (arg x1 0).i, D.rows (arg x1 1).r]) fun y1 => some y1
def wmarkRevokedS.t (a : List D) : Option (List D) := wmarkRevokedS.b (res a 0) (res a 1)
def wmarkSavedS.l1 (d1 : List D) : LR :=
  bif ltI (arg d1 1).i ((arg d1 2).r.length : Int) then
    bif leI 0 (arg d1 1).i && ltI (arg d1 1).i ((arg d1 2).r.length : Int) then
      bif leI 0 (arg d1 1).i && ltI (arg d1 1).i ((setCells (arg d1 2).r (arg d1 1).i.toNat 0 [D.int (arg d1 0).i]).length : Int) then
        bif leI 0 (arg d1 1).i && ltI (arg d1 1).i ((setCells (setCells (arg d1 2).r (arg d1 1).i.toNat 0 [D.int (arg d1 0).i]) (arg d1 1).i.toNat 1 [D.int (w64 ((arg d1 0).i + 1))]).length : Int) then
          bif leI 0 (arg d1 1).i && ltI (arg d1 1).i ((setCells (setCells (setCells (arg d1 2).r (arg d1 1).i.toNat 0 [D.int (arg d1 0).i]) (arg d1 1).i.toNat 1 [D.int (w64 ((arg d1 0).i + 1))]) (arg d1 1).i.toNat 2 [D.int (w64 ((w64 ((arg d1 0).i + 1)) + 1))]).length : Int) then
            bif leI 0 (arg d1 1).i && ltI (arg d1 1).i ((setCells (setCells (setCells (setCells (arg d1 2).r (arg d1 1).i.toNat 0 [D.int (arg d1 0).i]) (arg d1 1).i.toNat 1 [D.int (w64 ((arg d1 0).i + 1))]) (arg d1 1).i.toNat 2 [D.int (w64 ((w64 ((arg d1 0).i + 1)) + 1))]) (arg d1 1).i.toNat 3 [D.int (w64 ((w64 ((w64 ((arg d1 0).i + 1)) + 1)) + 1))]).length : Int) then
              bif leI 0 (arg d1 1).i && ltI (arg d1 1).i ((setCells (setCells (setCells (setCells (setCells (arg d1 2).r (arg d1 1).i.toNat 0 [D.int (arg d1 0).i]) (arg d1 1).i.toNat 1 [D.int (w64 ((arg d1 0).i + 1))]) (arg d1 1).i.toNat 2 [D.int (w64 ((w64 ((arg d1 0).i + 1)) + 1))]) (arg d1 1).i.toNat 3 [D.int (w64 ((w64 ((w64 ((arg d1 0).i + 1)) + 1)) + 1))]) (arg d1 1).i.toNat 4 [D.int (w64 ((w64 ((w64 ((w64 ((arg d1 0).i + 1)) + 1)) + 1)) + 1))]).length : Int) then
                bif leI 0 (arg d1 1).i && ltI (arg d1 1).i ((setCells (setCells (setCells (setCells (setCells (setCells (arg d1 2).r (arg d1 1).i.toNat 0 [D.int (arg d1 0).i]) (arg d1 1).i.toNat 1 [D.int (w64 ((arg d1 0).i + 1))]) (arg d1 1).i.toNat 2 [D.int (w64 ((w64 ((arg d1 0).i + 1)) + 1))]) (arg d1 1).i.toNat 3 [D.int (w64 ((w64 ((w64 ((arg d1 0).i + 1)) + 1)) + 1))]) (arg d1 1).i.toNat 4 [D.int (w64 ((w64 ((w64 ((w64 ((arg d1 0).i + 1)) + 1)) + 1)) + 1))]) (arg d1 1).i.toNat 5 [D.int (w64 ((w64 ((w64 ((w64 ((w64 ((arg d1 0).i + 1)) + 1)) + 1)) + 1)) + 1))]).length : Int) then
                  bif leI 0 (arg d1 1).i && ltI (arg d1 1).i ((setCells (setCells (setCells (setCells (setCells (setCells (setCells (arg d1 2).r (arg d1 1).i.toNat 0 [D.int (arg d1 0).i]) (arg d1 1).i.toNat 1 [D.int (w64 ((arg d1 0).i + 1))]) (arg d1 1).i.toNat 2 [D.int (w64 ((w64 ((arg d1 0).i + 1)) + 1))]) (arg d1 1).i.toNat 3 [D.int (w64 ((w64 ((w64 ((arg d1 0).i + 1)) + 1)) + 1))]) (arg d1 1).i.toNat 4 [D.int (w64 ((w64 ((w64 ((w64 ((arg d1 0).i + 1)) + 1)) + 1)) + 1))]) (arg d1 1).i.toNat 5 [D.int (w64 ((w64 ((w64 ((w64 ((w64 ((arg d1 0).i + 1)) + 1)) + 1)) + 1)) + 1))]) (arg d1 1).i.toNat 6 [D.int (w64 ((w64 ((w64 ((w64 ((w64 ((w64 ((arg d1 0).i + 1)) + 1)) + 1)) + 1)) + 1)) + 1))]).length : Int) then
                    some (.inl [D.int (w64 ((w64 ((w64 ((w64 ((w64 ((w64 ((w64 ((w64 ((arg d1 0).i + 1)) + 1)) + 1)) + 1)) + 1)) + 1)) + 1)) + 1)), D.int (w64 ((arg d1 1).i + 1)), D.rows (setCells (setCells (setCells (setCells (setCells (setCells (setCells (setCells (arg d1 2).r (arg d1 1).i.toNat 0 [D.int (arg d1 0).i]) (arg d1 1).i.toNat 1 [D.int (w64 ((arg d1 0).i + 1))]) (arg d1 1).i.toNat 2 [D.int (w64 ((w64 ((arg d1 0).i + 1)) + 1))]) (arg d1 1).i.toNat 3 [D.int (w64 ((w64 ((w64 ((arg d1 0).i + 1)) + 1)) + 1))]) (arg d1 1).i.toNat 4 [D.int (w64 ((w64 ((w64 ((w64 ((arg d1 0).i + 1)) + 1)) + 1)) + 1))]) (arg d1 1).i.toNat 5 [D.int (w64 ((w64 ((w64 ((w64 ((w64 ((arg d1 0).i + 1)) + 1)) + 1)) + 1)) + 1))]) (arg d1 1).i.toNat 6 [D.int (w64 ((w64 ((w64 ((w64 ((w64 ((w64 ((arg d1 0).i + 1)) + 1)) + 1)) + 1)) + 1)) + 1))]) (arg d1 1).i.toNat 7 [D.int (w64 ((w64 ((w64 ((w64 ((w64 ((w64 ((w64 ((arg d1 0).i + 1)) + 1)) + 1)) + 1)) + 1)) + 1)) + 1))])])
                  else none
                else none
              else none
            else none
          else none
        else none
      else none
    else none
  else
    some (.inr (.inl [D.int (arg d1 0).i, D.rows (arg d1 2).r]))
def wmarkSavedS.b (a0 a1 : D) : Option (List D) :=
  loop (wmarkSavedS.l1) [D.int a1.i, D.int 0, D.rows a0.r] (fun x1 =>
    some [D.int (arg x1 0).i, D.rows (arg x1 1).r]) fun y1 => some y1
def wmarkSavedS.t (a : List D) : Option (List D) := wmarkSavedS.b (res a 0) (res a 1)
def wmarkPointS.l1 (d1 : List D) : LR :=
  bif ltI (arg d1 1).i ((arg d1 2).r.length : Int) then
    bif leI 0 (arg d1 1).i && ltI (arg d1 1).i ((arg d1 2).r.length : Int) then
      bif leI 0 (arg d1 1).i && ltI (arg d1 1).i ((setCells (arg d1 2).r (arg d1 1).i.toNat 0 [D.int (arg d1 0).i]).length : Int) then
        bif leI 0 (arg d1 1).i && ltI (arg d1 1).i ((setCells (setCells (arg d1 2).r (arg d1 1).i.toNat 0 [D.int (arg d1 0).i]) (arg d1 1).i.toNat 1 [D.int (w64 ((arg d1 0).i + 1))]).length : Int) then
          bif leI 0 (arg d1 1).i && ltI (arg d1 1).i ((setCells (setCells (setCells (arg d1 2).r (arg d1 1).i.toNat 0 [D.int (arg d1 0).i]) (arg d1 1).i.toNat 1 [D.int (w64 ((arg d1 0).i + 1))]) (arg d1 1).i.toNat 2 [D.int (w64 ((w64 ((arg d1 0).i + 1)) + 1))]).length : Int) then
            Option.bind (wmarkIncludesS.t [D.rows (cell (setCells (setCells (setCells (arg d1 2).r (arg d1 1).i.toNat 0 [D.int (arg d1 0).i]) (arg d1 1).i.toNat 1 [D.int (w64 ((arg d1 0).i + 1))]) (arg d1 1).i.toNat 2 [D.int (w64 ((w64 ((arg d1 0).i + 1)) + 1))]) (arg d1 1).i.toNat 3).r, D.int (w64 ((w64 ((w64 ((arg d1 0).i + 1)) + 1)) + 1))]) fun r1 =>
              bif leI 0 (arg d1 1).i && ltI (arg d1 1).i ((setIn (setCells (setCells (setCells (arg d1 2).r (arg d1 1).i.toNat 0 [D.int (arg d1 0).i]) (arg d1 1).i.toNat 1 [D.int (w64 ((arg d1 0).i + 1))]) (arg d1 1).i.toNat 2 [D.int (w64 ((w64 ((arg d1 0).i + 1)) + 1))]) (arg d1 1).i.toNat 3 (res r1 1).r).length : Int) then
                bif leI 0 (arg d1 1).i && ltI (arg d1 1).i ((setCells (setIn (setCells (setCells (setCells (arg d1 2).r (arg d1 1).i.toNat 0 [D.int (arg d1 0).i]) (arg d1 1).i.toNat 1 [D.int (w64 ((arg d1 0).i + 1))]) (arg d1 1).i.toNat 2 [D.int (w64 ((w64 ((arg d1 0).i + 1)) + 1))]) (arg d1 1).i.toNat 3 (res r1 1).r) (arg d1 1).i.toNat 4 [D.int (res r1 0).i]).length : Int) then
                  Option.bind (wmarkRuleS.t [D.rows (cell (setCells (setIn (setCells (setCells (setCells (arg d1 2).r (arg d1 1).i.toNat 0 [D.int (arg d1 0).i]) (arg d1 1).i.toNat 1 [D.int (w64 ((arg d1 0).i + 1))]) (arg d1 1).i.toNat 2 [D.int (w64 ((w64 ((arg d1 0).i + 1)) + 1))]) (arg d1 1).i.toNat 3 (res r1 1).r) (arg d1 1).i.toNat 4 [D.int (res r1 0).i]) (arg d1 1).i.toNat 5).r, D.int (w64 ((res r1 0).i + 1))]) fun r2 =>
                    bif leI 0 (arg d1 1).i && ltI (arg d1 1).i ((setIn (setCells (setIn (setCells (setCells (setCells (arg d1 2).r (arg d1 1).i.toNat 0 [D.int (arg d1 0).i]) (arg d1 1).i.toNat 1 [D.int (w64 ((arg d1 0).i + 1))]) (arg d1 1).i.toNat 2 [D.int (w64 ((w64 ((arg d1 0).i + 1)) + 1))]) (arg d1 1).i.toNat 3 (res r1 1).r) (arg d1 1).i.toNat 4 [D.int (res r1 0).i]) (arg d1 1).i.toNat 5 (res r2 1).r).length : Int) then
                      Option.bind (wmarkFactS.t [D.rows (cell (setIn (setCells (setIn (setCells (setCells (setCells (arg d1 2).r (arg d1 1).i.toNat 0 [D.int (arg d1 0).i]) (arg d1 1).i.toNat 1 [D.int (w64 ((arg d1 0).i + 1))]) (arg d1 1).i.toNat 2 [D.int (w64 ((w64 ((arg d1 0).i + 1)) + 1))]) (arg d1 1).i.toNat 3 (res r1 1).r) (arg d1 1).i.toNat 4 [D.int (res r1 0).i]) (arg d1 1).i.toNat 5 (res r2 1).r) (arg d1 1).i.toNat 6).r, D.int (res r2 0).i]) fun r3 =>
                        bif leI 0 (arg d1 1).i && ltI (arg d1 1).i ((setIn (setIn (setCells (setIn (setCells (setCells (setCells (arg d1 2).r (arg d1 1).i.toNat 0 [D.int (arg d1 0).i]) (arg d1 1).i.toNat 1 [D.int (w64 ((arg d1 0).i + 1))]) (arg d1 1).i.toNat 2 [D.int (w64 ((w64 ((arg d1 0).i + 1)) + 1))]) (arg d1 1).i.toNat 3 (res r1 1).r) (arg d1 1).i.toNat 4 [D.int (res r1 0).i]) (arg d1 1).i.toNat 5 (res r2 1).r) (arg d1 1).i.toNat 6 (res r3 1).r).length : Int) then
                          Option.bind (wmarkRevokedS.t [D.rows (cell (setIn (setIn (setCells (setIn (setCells (setCells (setCells (arg d1 2).r (arg d1 1).i.toNat 0 [D.int (arg d1 0).i]) (arg d1 1).i.toNat 1 [D.int (w64 ((arg d1 0).i + 1))]) (arg d1 1).i.toNat 2 [D.int (w64 ((w64 ((arg d1 0).i + 1)) + 1))]) (arg d1 1).i.toNat 3 (res r1 1).r) (arg d1 1).i.toNat 4 [D.int (res r1 0).i]) (arg d1 1).i.toNat 5 (res r2 1).r) (arg d1 1).i.toNat 6 (res r3 1).r) (arg d1 1).i.toNat 7).r, D.int (res r3 0).i]) fun r4 =>
                            bif leI 0 (arg d1 1).i && ltI (arg d1 1).i ((setIn (setIn (setIn (setCells (setIn (setCells (setCells (setCells (arg d1 2).r (arg d1 1).i.toNat 0 [D.int (arg d1 0).i]) (arg d1 1).i.toNat 1 [D.int (w64 ((arg d1 0).i + 1))]) (arg d1 1).i.toNat 2 [D.int (w64 ((w64 ((arg d1 0).i + 1)) + 1))]) (arg d1 1).i.toNat 3 (res r1 1).r) (arg d1 1).i.toNat 4 [D.int (res r1 0).i]) (arg d1 1).i.toNat 5 (res r2 1).r) (arg d1 1).i.toNat 6 (res r3 1).r) (arg d1 1).i.toNat 7 (res r4 1).r).length : Int) then
                              bif leI 0 (arg d1 1).i && ltI (arg d1 1).i ((setCells (setIn (setIn (setIn (setCells (setIn (setCells (setCells (setCells (arg d1 2).r (arg d1 1).i.toNat 0 [D.int (arg d1 0).i]) (arg d1 1).i.toNat 1 [D.int (w64 ((arg d1 0).i + 1))]) (arg d1 1).i.toNat 2 [D.int (w64 ((w64 ((arg d1 0).i + 1)) + 1))]) (arg d1 1).i.toNat 3 (res r1 1).r) (arg d1 1).i.toNat 4 [D.int (res r1 0).i]) (arg d1 1).i.toNat 5 (res r2 1).r) (arg d1 1).i.toNat 6 (res r3 1).r) (arg d1 1).i.toNat 7 (res r4 1).r) (arg d1 1).i.toNat 8 [D.int (res r4 0).i]).length : Int) then
                                Option.bind (wmarkSavedS.t [D.rows (cell (setCells (setIn (setIn (setIn (setCells (setIn (setCells (setCells (setCells (arg d1 2).r (arg d1 1).i.toNat 0 [D.int (arg d1 0).i]) (arg d1 1).i.toNat 1 [D.int (w64 ((arg d1 0).i + 1))]) (arg d1 1).i.toNat 2 [D.int (w64 ((w64 ((arg d1 0).i + 1)) + 1))]) (arg d1 1).i.toNat 3 (res r1 1).r) (arg d1 1).i.toNat 4 [D.int (res r1 0).i]) (arg d1 1).i.toNat 5 (res r2 1).r) (arg d1 1).i.toNat 6 (res r3 1).r) (arg d1 1).i.toNat 7 (res r4 1).r) (arg d1 1).i.toNat 8 [D.int (res r4 0).i]) (arg d1 1).i.toNat 9).r, D.int (w64 ((res r4 0).i + 1))]) fun r5 =>
                                  some (.inl [D.int (res r5 0).i, D.int (w64 ((arg d1 1).i + 1)), D.rows (setIn (setCells (setIn (setIn (setIn (setCells (setIn (setCells (setCells (setCells (arg d1 2).r (arg d1 1).i.toNat 0 [D.int (arg d1 0).i]) (arg d1 1).i.toNat 1 [D.int (w64 ((arg d1 0).i + 1))]) (arg d1 1).i.toNat 2 [D.int (w64 ((w64 ((arg d1 0).i + 1)) + 1))]) (arg d1 1).i.toNat 3 (res r1 1).r) (arg d1 1).i.toNat 4 [D.int (res r1 0).i]) (arg d1 1).i.toNat 5 (res r2 1).r) (arg d1 1).i.toNat 6 (res r3 1).r) (arg d1 1).i.toNat 7 (res r4 1).r) (arg d1 1).i.toNat 8 [D.int (res r4 0).i]) (arg d1 1).i.toNat 9 (res r5 1).r)])
                              else none
                            else none
                        else none
                    else none
                else none
              else none
          else none
        else none
      else none
    else none
  else
    some (.inr (.inl [D.int (arg d1 0).i, D.rows (arg d1 2).r]))
def wmarkPointS.b (a0 a1 : D) : Option (List D) :=
  loop (wmarkPointS.l1) [D.int a1.i, D.int 0, D.rows a0.r] (fun x1 =>
    some [D.int (arg x1 0).i, D.rows (arg x1 1).r]) fun y1 => some y1
def wmarkPointS.t (a : List D) : Option (List D) := wmarkPointS.b (res a 0) (res a 1)
def wmarkCertS.l1 (d1 : List D) : LR :=
  bif ltI (arg d1 1).i ((arg d1 2).r.length : Int) then
    bif leI 0 (arg d1 1).i && ltI (arg d1 1).i ((arg d1 2).r.length : Int) then
      bif leI 0 (arg d1 1).i && ltI (arg d1 1).i ((setCells (arg d1 2).r (arg d1 1).i.toNat 0 [D.int (arg d1 0).i]).length : Int) then
        bif leI 0 (arg d1 1).i && ltI (arg d1 1).i ((setCells (setCells (arg d1 2).r (arg d1 1).i.toNat 0 [D.int (arg d1 0).i]) (arg d1 1).i.toNat 1 [D.int (w64 ((arg d1 0).i + 1))]).length : Int) then
          bif leI 0 (arg d1 1).i && ltI (arg d1 1).i ((setCells (setCells (setCells (arg d1 2).r (arg d1 1).i.toNat 0 [D.int (arg d1 0).i]) (arg d1 1).i.toNat 1 [D.int (w64 ((arg d1 0).i + 1))]) (arg d1 1).i.toNat 2 [D.int (w64 ((w64 ((arg d1 0).i + 1)) + 1))]).length : Int) then
            bif leI 0 (arg d1 1).i && ltI (arg d1 1).i ((setCells (setCells (setCells (setCells (arg d1 2).r (arg d1 1).i.toNat 0 [D.int (arg d1 0).i]) (arg d1 1).i.toNat 1 [D.int (w64 ((arg d1 0).i + 1))]) (arg d1 1).i.toNat 2 [D.int (w64 ((w64 ((arg d1 0).i + 1)) + 1))]) (arg d1 1).i.toNat 3 [D.int (w64 ((w64 ((w64 ((arg d1 0).i + 1)) + 1)) + 1))]).length : Int) then
              bif leI 0 (arg d1 1).i && ltI (arg d1 1).i ((setCells (setCells (setCells (setCells (setCells (arg d1 2).r (arg d1 1).i.toNat 0 [D.int (arg d1 0).i]) (arg d1 1).i.toNat 1 [D.int (w64 ((arg d1 0).i + 1))]) (arg d1 1).i.toNat 2 [D.int (w64 ((w64 ((arg d1 0).i + 1)) + 1))]) (arg d1 1).i.toNat 3 [D.int (w64 ((w64 ((w64 ((arg d1 0).i + 1)) + 1)) + 1))]) (arg d1 1).i.toNat 4 [D.int (w64 ((w64 ((w64 ((w64 ((arg d1 0).i + 1)) + 1)) + 1)) + 1))]).length : Int) then
                some (.inl [D.int (w64 ((w64 ((w64 ((w64 ((w64 ((w64 ((arg d1 0).i + 1)) + 1)) + 1)) + 1)) + 1)) + 1)), D.int (w64 ((arg d1 1).i + 1)), D.rows (setCells (setCells (setCells (setCells (setCells (setCells (arg d1 2).r (arg d1 1).i.toNat 0 [D.int (arg d1 0).i]) (arg d1 1).i.toNat 1 [D.int (w64 ((arg d1 0).i + 1))]) (arg d1 1).i.toNat 2 [D.int (w64 ((w64 ((arg d1 0).i + 1)) + 1))]) (arg d1 1).i.toNat 3 [D.int (w64 ((w64 ((w64 ((arg d1 0).i + 1)) + 1)) + 1))]) (arg d1 1).i.toNat 4 [D.int (w64 ((w64 ((w64 ((w64 ((arg d1 0).i + 1)) + 1)) + 1)) + 1))]) (arg d1 1).i.toNat 5 [D.int (w64 ((w64 ((w64 ((w64 ((w64 ((arg d1 0).i + 1)) + 1)) + 1)) + 1)) + 1))])])
              else none
            else none
          else none
        else none
      else none
    else none
  else
    some (.inr (.inl [D.int (arg d1 0).i, D.rows (arg d1 2).r]))
def wmarkCertS.b (a0 a1 : D) : Option (List D) :=
  loop (wmarkCertS.l1) [D.int a1.i, D.int 0, D.rows a0.r] (fun x1 =>
    some [D.int (arg x1 0).i, D.rows (arg x1 1).r]) fun y1 => some y1
def wmarkCertS.t (a : List D) : Option (List D) := wmarkCertS.b (res a 0) (res a 1)
def wheldSessionS.l1 (d1 : List D) : LR :=
  bif ltI (arg d1 1).i ((arg d1 2).r.length : Int) then
    bif leI 0 (arg d1 1).i && ltI (arg d1 1).i ((arg d1 2).r.length : Int) then
      bif ((cell (arg d1 2).r (arg d1 1).i.toNat 0).i != (arg d1 0).i) then
        some (.inr (.inr [D.int (-1)]))
      else
        bif leI 0 (arg d1 1).i && ltI (arg d1 1).i ((arg d1 2).r.length : Int) then
          bif ((cell (arg d1 2).r (arg d1 1).i.toNat 1).i != w64 ((arg d1 0).i + 1)) then
            some (.inr (.inr [D.int (-1)]))
          else
            bif leI 0 (arg d1 1).i && ltI (arg d1 1).i ((arg d1 2).r.length : Int) then
              bif ((cell (arg d1 2).r (arg d1 1).i.toNat 2).i != w64 ((w64 ((arg d1 0).i + 1)) + 1)) then
                some (.inr (.inr [D.int (-1)]))
              else
                bif leI 0 (arg d1 1).i && ltI (arg d1 1).i ((arg d1 2).r.length : Int) then
                  bif ((cell (arg d1 2).r (arg d1 1).i.toNat 3).i != w64 ((w64 ((w64 ((arg d1 0).i + 1)) + 1)) + 1)) then
                    some (.inr (.inr [D.int (-1)]))
                  else
                    bif leI 0 (arg d1 1).i && ltI (arg d1 1).i ((arg d1 2).r.length : Int) then
                      bif ((cell (arg d1 2).r (arg d1 1).i.toNat 4).i != w64 ((w64 ((w64 ((w64 ((arg d1 0).i + 1)) + 1)) + 1)) + 1)) then
                        some (.inr (.inr [D.int (-1)]))
                      else
                        bif leI 0 (arg d1 1).i && ltI (arg d1 1).i ((arg d1 2).r.length : Int) then
                          bif ((cell (arg d1 2).r (arg d1 1).i.toNat 5).i != w64 ((w64 ((w64 ((w64 ((w64 ((arg d1 0).i + 1)) + 1)) + 1)) + 1)) + 1)) then
                            some (.inr (.inr [D.int (-1)]))
                          else
                            bif leI 0 (arg d1 1).i && ltI (arg d1 1).i ((arg d1 2).r.length : Int) then
                              bif ((cell (arg d1 2).r (arg d1 1).i.toNat 6).i != w64 ((w64 ((w64 ((w64 ((w64 ((w64 ((arg d1 0).i + 1)) + 1)) + 1)) + 1)) + 1)) + 1)) then
                                some (.inr (.inr [D.int (-1)]))
                              else
                                bif leI 0 (arg d1 1).i && ltI (arg d1 1).i ((arg d1 2).r.length : Int) then
                                  bif ((cell (arg d1 2).r (arg d1 1).i.toNat 7).i != w64 ((w64 ((w64 ((w64 ((w64 ((w64 ((w64 ((arg d1 0).i + 1)) + 1)) + 1)) + 1)) + 1)) + 1)) + 1)) then
                                    some (.inr (.inr [D.int (-1)]))
                                  else
                                    bif leI 0 (arg d1 1).i && ltI (arg d1 1).i ((arg d1 2).r.length : Int) then
                                      bif ((cell (arg d1 2).r (arg d1 1).i.toNat 8).i != w64 ((w64 ((w64 ((w64 ((w64 ((w64 ((w64 ((w64 ((arg d1 0).i + 1)) + 1)) + 1)) + 1)) + 1)) + 1)) + 1)) + 1)) then
                                        some (.inr (.inr [D.int (-1)]))
                                      else
                                        bif leI 0 (arg d1 1).i && ltI (arg d1 1).i ((arg d1 2).r.length : Int) then
                                          bif !((cell (arg d1 2).r (arg d1 1).i.toNat 9).b == ((w64 ((w64 ((w64 ((w64 ((w64 ((w64 ((w64 ((w64 ((w64 ((arg d1 0).i + 1)) + 1)) + 1)) + 1)) + 1)) + 1)) + 1)) + 1)) + 1)).tmod 3 == 0)) then
                                            some (.inr (.inr [D.int (-1)]))
                                          else
                                            some (.inl [D.int (w64 ((w64 ((w64 ((w64 ((w64 ((w64 ((w64 ((w64 ((w64 ((w64 ((arg d1 0).i + 1)) + 1)) + 1)) + 1)) + 1)) + 1)) + 1)) + 1)) + 1)) + 1)), D.int (w64 ((arg d1 1).i + 1)), D.rows (arg d1 2).r])
                                        else none
                                    else none
                                else none
                            else none
                        else none
                    else none
                else none
            else none
        else none
    else none
  else
    some (.inr (.inl [D.int (arg d1 0).i]))
def wheldSessionS.b (a0 a1 : D) : Option (List D) :=
  loop (wheldSessionS.l1) [D.int a1.i, D.int 0, D.rows a0.r] (fun x1 =>
    some [D.int (arg x1 0).i]) fun y1 => some y1
def wheldSessionS.t (a : List D) : Option (List D) := wheldSessionS.b (res a 0) (res a 1)
def wFnExactReviewSessions.b (a0 a1 a2 a3 a4 : D) : Option (List D) :=
  Option.bind (wszSessionS.t [D.rows a0.r, D.int 1048576]) fun r1 =>
    bif ltI (res r1 0).i 0 then
      some [D.bool true]
    else
      Option.bind (wszPointS.t [D.rows a1.r, D.int (res r1 0).i]) fun r2 =>
        bif ltI (res r2 0).i 0 then
          some [D.bool true]
        else
          Option.bind (wszCertS.t [D.rows a3.r, D.int (res r2 0).i]) fun r3 =>
            bif ltI (res r3 0).i 0 then
              some [D.bool true]
            else
              Option.bind (wtoSessionS.t [D.rows a0.r]) fun r4 =>
                Option.bind (wtoPointS.t [D.rows a1.r]) fun r5 =>
                  Option.bind (wtoCertS.t [D.rows a3.r]) fun r6 =>
                    Option.bind (sReviewSessions.t [D.rows (res r4 0).r, D.rows (res r5 0).r, D.int a2.i, D.rows (res r6 0).r, D.int a4.i]) fun r7 =>
                      Option.bind (wtoSessionS.t [D.rows a0.r]) fun r8 =>
                        Option.bind (wtoPointS.t [D.rows a1.r]) fun r9 =>
                          Option.bind (wtoCertS.t [D.rows a3.r]) fun r10 =>
                            Option.bind (iReviewSessions.t [D.rows (res r8 0).r, D.rows (res r9 0).r, D.int a2.i, D.rows (res r10 0).r, D.int a4.i]) fun r11 =>
                              Option.bind (weqSessionS.t [D.rows (res r11 0).r, D.rows (res r7 0).r]) fun r12 =>
                                bif !(res r12 0).b then
                                  some [D.bool false]
                                else
                                  bif ((res r11 1).i != (res r7 1).i) then
                                    some [D.bool false]
                                  else
                                    Option.bind (wtoSessionS.t [D.rows a0.r]) fun r13 =>
                                      Option.bind (weqSessionS.t [D.rows (res r8 0).r, D.rows (res r13 0).r]) fun r14 =>
                                        bif !(res r14 0).b then
                                          some [D.bool false]
                                        else
                                          Option.bind (wtoPointS.t [D.rows a1.r]) fun r15 =>
                                            Option.bind (weqPointS.t [D.rows (res r9 0).r, D.rows (res r15 0).r]) fun r16 =>
                                              bif !(res r16 0).b then
                                                some [D.bool false]
                                              else
                                                Option.bind (wtoCertS.t [D.rows a3.r]) fun r17 =>
                                                  Option.bind (weqCertS.t [D.rows (res r10 0).r, D.rows (res r17 0).r]) fun r18 =>
                                                    bif !(res r18 0).b then
                                                      some [D.bool false]
                                                    else
                                                      Option.bind (wmarkSessionS.t [D.rows (res r8 0).r, D.int 1]) fun r19 =>
                                                        Option.bind (wmarkPointS.t [D.rows (res r9 0).r, D.int (res r19 0).i]) fun r20 =>
                                                          Option.bind (wmarkCertS.t [D.rows (res r10 0).r, D.int (res r20 0).i]) fun r21 =>
                                                            bif ltI (res r21 0).i 0 then
                                                              some [D.bool false]
                                                            else
                                                              Option.bind (weqSessionS.t [D.rows (res r11 0).r, D.rows (res r7 0).r]) fun r22 =>
                                                                bif !(res r22 0).b then
                                                                  some [D.bool false]
                                                                else
                                                                  bif ((res r11 1).i != (res r7 1).i) then
                                                                    some [D.bool false]
                                                                  else
                                                                    Option.bind (wmarkSessionS.t [D.rows (res r11 0).r, D.int 1]) fun r23 =>
                                                                      Option.bind (wheldSessionS.t [D.rows (res r23 1).r, D.int 1]) fun r24 =>
                                                                        bif ltI (res r24 0).i 0 then
                                                                          some [D.bool false]
                                                                        else
                                                                          bif ((res r24 0).i != (res r23 0).i) then
                                                                            some [D.bool false]
                                                                          else
                                                                            Option.bind (wtoSessionS.t [D.rows a0.r]) fun r25 =>
                                                                              Option.bind (wtoPointS.t [D.rows a1.r]) fun r26 =>
                                                                                Option.bind (wtoCertS.t [D.rows a3.r]) fun r27 =>
                                                                                  Option.bind (iReviewSessions.t [D.rows (res r25 0).r, D.rows (res r26 0).r, D.int a2.i, D.rows (res r27 0).r, D.int a4.i]) fun r28 =>
                                                                                    Option.bind (weqSessionS.t [D.rows (res r28 0).r, D.rows (res r7 0).r]) fun r29 =>
                                                                                      bif !(res r29 0).b then
                                                                                        some [D.bool false]
                                                                                      else
                                                                                        bif ((res r28 1).i != (res r7 1).i) then
                                                                                          some [D.bool false]
                                                                                        else
                                                                                          Option.bind (wheldSessionS.t [D.rows (res r23 1).r, D.int 1]) fun r30 =>
                                                                                            bif ltI (res r30 0).i 0 then
                                                                                              some [D.bool false]
                                                                                            else
                                                                                              bif ((res r30 0).i != (res r23 0).i) then
                                                                                                some [D.bool false]
                                                                                              else
                                                                                                some [D.bool true]
def wFnExactReviewSessions.t (a : List D) : Option (List D) := wFnExactReviewSessions.b (res a 0) (res a 1) (res a 2) (res a 3) (res a 4)
def sAreSessions.l1 (d1 : List D) : LR :=
  bif ltI (arg d1 0).i ((arg d1 1).r.length : Int) then
    bif leI 0 (arg d1 0).i && ltI (arg d1 0).i ((arg d1 1).r.length : Int) then
      bif ((cell (arg d1 1).r (arg d1 0).i.toNat 0).i != w64 ((arg d1 0).i + 1)) then
        some (.inr (.inr [D.bool false]))
      else
        bif leI 0 (arg d1 0).i && ltI (arg d1 0).i ((arg d1 1).r.length : Int) then
          bif ltI (cell (arg d1 1).r (arg d1 0).i.toNat 1).i 1 then
            some (.inr (.inr [D.bool false]))
          else
            bif leI 0 (arg d1 0).i && ltI (arg d1 0).i ((arg d1 1).r.length : Int) then
              bif ltI (cell (arg d1 1).r (arg d1 0).i.toNat 2).i 1 then
                some (.inr (.inr [D.bool false]))
              else
                bif leI 0 (arg d1 0).i && ltI (arg d1 0).i ((arg d1 1).r.length : Int) then
                  Option.bind (sIsRequest.t [D.st [D.int (cell (arg d1 1).r (arg d1 0).i.toNat 3).i, D.int (cell (arg d1 1).r (arg d1 0).i.toNat 4).i, D.int (cell (arg d1 1).r (arg d1 0).i.toNat 5).i, D.int (cell (arg d1 1).r (arg d1 0).i.toNat 6).i, D.int (cell (arg d1 1).r (arg d1 0).i.toNat 7).i, D.int (cell (arg d1 1).r (arg d1 0).i.toNat 8).i]]) fun r1 =>
                    bif !(res r1 0).b then
                      some (.inr (.inr [D.bool false]))
                    else
                      some (.inl [D.int (w64 ((arg d1 0).i + 1)), D.rows (arg d1 1).r])
                else none
            else none
        else none
    else none
  else
    some (.inr (.inl [D.rows (arg d1 1).r]))
def sAreSessions.b (a0 : D) : Option (List D) :=
  loop (sAreSessions.l1) [D.int 0, D.rows a0.r] (fun x1 =>
    some [D.bool (leI ((arg x1 0).r.length : Int) 10)]) fun y1 => some y1
def sAreSessions.t (a : List D) : Option (List D) := sAreSessions.b (res a 0)
def sStartSession.b (a0 a1 a2 a3 a4 : D) : Option (List D) :=
  bif leN (N0.length + a0.r.length) 4294967296 then
    Option.bind (sAreSessions.t [D.rows a0.r]) fun r1 =>
      bif !(res r1 0).b then
        Option.bind (sl27Copy.t [D.st [D.int (a1.f 0).i, D.int (a1.f 1).i, D.int (a1.f 2).i, D.rows (a1.f 3).r, D.int (a1.f 4).i, D.rows (a1.f 5).r, D.rows (a1.f 6).r, D.rows (a1.f 7).r, D.int (a1.f 8).i, D.rows (a1.f 9).r]]) fun r2 =>
          some [D.rows (N0 ++ a0.r), D.st [D.int ((res r2 0).f 0).i, D.int ((res r2 0).f 1).i, D.int ((res r2 0).f 2).i, D.rows ((res r2 0).f 3).r, D.int ((res r2 0).f 4).i, D.rows ((res r2 0).f 5).r, D.rows ((res r2 0).f 6).r, D.rows ((res r2 0).f 7).r, D.int ((res r2 0).f 8).i, D.rows ((res r2 0).f 9).r], D.int 4]
      else
        bif geI (a0.r.length : Int) 10 then
          Option.bind (sl27Copy.t [D.st [D.int (a1.f 0).i, D.int (a1.f 1).i, D.int (a1.f 2).i, D.rows (a1.f 3).r, D.int (a1.f 4).i, D.rows (a1.f 5).r, D.rows (a1.f 6).r, D.rows (a1.f 7).r, D.int (a1.f 8).i, D.rows (a1.f 9).r]]) fun r3 =>
            some [D.rows (N0 ++ a0.r), D.st [D.int ((res r3 0).f 0).i, D.int ((res r3 0).f 1).i, D.int ((res r3 0).f 2).i, D.rows ((res r3 0).f 3).r, D.int ((res r3 0).f 4).i, D.rows ((res r3 0).f 5).r, D.rows ((res r3 0).f 6).r, D.rows ((res r3 0).f 7).r, D.int ((res r3 0).f 8).i, D.rows ((res r3 0).f 9).r], D.int 4]
        else
          bif ltI (a1.f 0).i 1 then
            Option.bind (sl27Copy.t [D.st [D.int (a1.f 0).i, D.int (a1.f 1).i, D.int (a1.f 2).i, D.rows (a1.f 3).r, D.int (a1.f 4).i, D.rows (a1.f 5).r, D.rows (a1.f 6).r, D.rows (a1.f 7).r, D.int (a1.f 8).i, D.rows (a1.f 9).r]]) fun r4 =>
              some [D.rows (N0 ++ a0.r), D.st [D.int ((res r4 0).f 0).i, D.int ((res r4 0).f 1).i, D.int ((res r4 0).f 2).i, D.rows ((res r4 0).f 3).r, D.int ((res r4 0).f 4).i, D.rows ((res r4 0).f 5).r, D.rows ((res r4 0).f 6).r, D.rows ((res r4 0).f 7).r, D.int ((res r4 0).f 8).i, D.rows ((res r4 0).f 9).r], D.int 4]
          else
            Option.bind (sAskPoint.t [D.st [D.int (a1.f 0).i, D.int (a1.f 1).i, D.int (a1.f 2).i, D.rows (a1.f 3).r, D.int (a1.f 4).i, D.rows (a1.f 5).r, D.rows (a1.f 6).r, D.rows (a1.f 7).r, D.int (a1.f 8).i, D.rows (a1.f 9).r], D.int a2.i, D.st [D.int (a3.f 0).i, D.int (a3.f 1).i, D.int (a3.f 2).i, D.int (a3.f 3).i, D.int (a3.f 4).i, D.int (a3.f 5).i], D.st [D.int (a4.f 0).i, D.int (a4.f 1).i, D.int (a4.f 2).i, D.int (a4.f 3).i, D.int (a4.f 4).i, D.int (a4.f 5).i]]) fun r5 =>
              bif ((res r5 1).i == 1) then
                bif leN ((N0 ++ a0.r).length + [[D.int (w64 ((a0.r.length : Int) + 1)), D.int (a1.f 0).i, D.int (a3.f 0).i, D.int (a4.f 0).i, D.int (a4.f 1).i, D.int (a4.f 2).i, D.int (a4.f 3).i, D.int (a4.f 4).i, D.int (a4.f 5).i, D.bool true]].length) 4294967296 then
                  some [D.rows ((N0 ++ a0.r) ++ [[D.int (w64 ((a0.r.length : Int) + 1)), D.int (a1.f 0).i, D.int (a3.f 0).i, D.int (a4.f 0).i, D.int (a4.f 1).i, D.int (a4.f 2).i, D.int (a4.f 3).i, D.int (a4.f 4).i, D.int (a4.f 5).i, D.bool true]]), D.st [D.int ((res r5 0).f 0).i, D.int ((res r5 0).f 1).i, D.int ((res r5 0).f 2).i, D.rows ((res r5 0).f 3).r, D.int ((res r5 0).f 4).i, D.rows ((res r5 0).f 5).r, D.rows ((res r5 0).f 6).r, D.rows ((res r5 0).f 7).r, D.int ((res r5 0).f 8).i, D.rows ((res r5 0).f 9).r], D.int (res r5 1).i]
                else none
              else
                some [D.rows (N0 ++ a0.r), D.st [D.int ((res r5 0).f 0).i, D.int ((res r5 0).f 1).i, D.int ((res r5 0).f 2).i, D.rows ((res r5 0).f 3).r, D.int ((res r5 0).f 4).i, D.rows ((res r5 0).f 5).r, D.rows ((res r5 0).f 6).r, D.rows ((res r5 0).f 7).r, D.int ((res r5 0).f 8).i, D.rows ((res r5 0).f 9).r], D.int (res r5 1).i]
  else none
def sStartSession.t (a : List D) : Option (List D) := sStartSession.b (res a 0) (res a 1) (res a 2) (res a 3) (res a 4)
def iAreSessions.l1 (d1 : List D) : LR :=
  bif ltI (arg d1 1).i (arg d1 0).i then
    bif leI 0 (arg d1 1).i && ltI (arg d1 1).i ((arg d1 2).r.length : Int) then
      bif ((cell (arg d1 2).r (arg d1 1).i.toNat 0).i != w64 ((arg d1 1).i + 1)) then
        some (.inr (.inr [D.bool false]))
      else
        bif ltI (cell (arg d1 2).r (arg d1 1).i.toNat 1).i 1 then
          some (.inr (.inr [D.bool false]))
        else
          bif ltI (cell (arg d1 2).r (arg d1 1).i.toNat 2).i 1 then
            some (.inr (.inr [D.bool false]))
          else
            Option.bind (iIsRequest.t [D.st [D.int (cell (arg d1 2).r (arg d1 1).i.toNat 3).i, D.int (cell (arg d1 2).r (arg d1 1).i.toNat 4).i, D.int (cell (arg d1 2).r (arg d1 1).i.toNat 5).i, D.int (cell (arg d1 2).r (arg d1 1).i.toNat 6).i, D.int (cell (arg d1 2).r (arg d1 1).i.toNat 7).i, D.int (cell (arg d1 2).r (arg d1 1).i.toNat 8).i]]) fun r1 =>
              bif !(res r1 0).b then
                some (.inr (.inr [D.bool false]))
              else
                some (.inl [D.int (arg d1 0).i, D.int (w64 ((arg d1 1).i + 1)), D.rows (arg d1 2).r])
    else none
  else
    some (.inr (.inl [D.rows (arg d1 2).r]))
def iAreSessions.b (a0 : D) : Option (List D) :=
  loop (iAreSessions.l1) [D.int (a0.r.length : Int), D.int 0, D.rows a0.r] (fun x1 =>
    some [D.bool (leI ((arg x1 0).r.length : Int) 10)]) fun y1 => some y1
def iAreSessions.t (a : List D) : Option (List D) := iAreSessions.b (res a 0)
def iStartSession.b (a0 a1 a2 a3 a4 : D) : Option (List D) :=
  bif leN (N0.length + a0.r.length) 4294967296 then
    Option.bind (iAreSessions.t [D.rows a0.r]) fun r1 =>
      bif !(res r1 0).b then
        Option.bind (icopyPoint.t [D.st [D.int (a1.f 0).i, D.int (a1.f 1).i, D.int (a1.f 2).i, D.rows (a1.f 3).r, D.int (a1.f 4).i, D.rows (a1.f 5).r, D.rows (a1.f 6).r, D.rows (a1.f 7).r, D.int (a1.f 8).i, D.rows (a1.f 9).r]]) fun r2 =>
          some [D.rows (N0 ++ a0.r), D.st [D.int ((res r2 0).f 0).i, D.int ((res r2 0).f 1).i, D.int ((res r2 0).f 2).i, D.rows ((res r2 0).f 3).r, D.int ((res r2 0).f 4).i, D.rows ((res r2 0).f 5).r, D.rows ((res r2 0).f 6).r, D.rows ((res r2 0).f 7).r, D.int ((res r2 0).f 8).i, D.rows ((res r2 0).f 9).r], D.int 4]
      else
        bif geI (a0.r.length : Int) 10 then
          Option.bind (icopyPoint.t [D.st [D.int (a1.f 0).i, D.int (a1.f 1).i, D.int (a1.f 2).i, D.rows (a1.f 3).r, D.int (a1.f 4).i, D.rows (a1.f 5).r, D.rows (a1.f 6).r, D.rows (a1.f 7).r, D.int (a1.f 8).i, D.rows (a1.f 9).r]]) fun r3 =>
            some [D.rows (N0 ++ a0.r), D.st [D.int ((res r3 0).f 0).i, D.int ((res r3 0).f 1).i, D.int ((res r3 0).f 2).i, D.rows ((res r3 0).f 3).r, D.int ((res r3 0).f 4).i, D.rows ((res r3 0).f 5).r, D.rows ((res r3 0).f 6).r, D.rows ((res r3 0).f 7).r, D.int ((res r3 0).f 8).i, D.rows ((res r3 0).f 9).r], D.int 4]
        else
          bif ltI (a1.f 0).i 1 then
            Option.bind (icopyPoint.t [D.st [D.int (a1.f 0).i, D.int (a1.f 1).i, D.int (a1.f 2).i, D.rows (a1.f 3).r, D.int (a1.f 4).i, D.rows (a1.f 5).r, D.rows (a1.f 6).r, D.rows (a1.f 7).r, D.int (a1.f 8).i, D.rows (a1.f 9).r]]) fun r4 =>
              some [D.rows (N0 ++ a0.r), D.st [D.int ((res r4 0).f 0).i, D.int ((res r4 0).f 1).i, D.int ((res r4 0).f 2).i, D.rows ((res r4 0).f 3).r, D.int ((res r4 0).f 4).i, D.rows ((res r4 0).f 5).r, D.rows ((res r4 0).f 6).r, D.rows ((res r4 0).f 7).r, D.int ((res r4 0).f 8).i, D.rows ((res r4 0).f 9).r], D.int 4]
          else
            Option.bind (iAskPoint.t [D.st [D.int (a1.f 0).i, D.int (a1.f 1).i, D.int (a1.f 2).i, D.rows (a1.f 3).r, D.int (a1.f 4).i, D.rows (a1.f 5).r, D.rows (a1.f 6).r, D.rows (a1.f 7).r, D.int (a1.f 8).i, D.rows (a1.f 9).r], D.int a2.i, D.st [D.int (a3.f 0).i, D.int (a3.f 1).i, D.int (a3.f 2).i, D.int (a3.f 3).i, D.int (a3.f 4).i, D.int (a3.f 5).i], D.st [D.int (a4.f 0).i, D.int (a4.f 1).i, D.int (a4.f 2).i, D.int (a4.f 3).i, D.int (a4.f 4).i, D.int (a4.f 5).i]]) fun r5 =>
              bif ((res r5 1).i == 1) then
                bif leN ((N0 ++ a0.r).length + [[D.int (w64 ((a0.r.length : Int) + 1)), D.int (a1.f 0).i, D.int (a3.f 0).i, D.int (a4.f 0).i, D.int (a4.f 1).i, D.int (a4.f 2).i, D.int (a4.f 3).i, D.int (a4.f 4).i, D.int (a4.f 5).i, D.bool true]].length) 4294967296 then
                  some [D.rows ((N0 ++ a0.r) ++ [[D.int (w64 ((a0.r.length : Int) + 1)), D.int (a1.f 0).i, D.int (a3.f 0).i, D.int (a4.f 0).i, D.int (a4.f 1).i, D.int (a4.f 2).i, D.int (a4.f 3).i, D.int (a4.f 4).i, D.int (a4.f 5).i, D.bool true]]), D.st [D.int ((res r5 0).f 0).i, D.int ((res r5 0).f 1).i, D.int ((res r5 0).f 2).i, D.rows ((res r5 0).f 3).r, D.int ((res r5 0).f 4).i, D.rows ((res r5 0).f 5).r, D.rows ((res r5 0).f 6).r, D.rows ((res r5 0).f 7).r, D.int ((res r5 0).f 8).i, D.rows ((res r5 0).f 9).r], D.int (res r5 1).i]
                else none
              else
                some [D.rows (N0 ++ a0.r), D.st [D.int ((res r5 0).f 0).i, D.int ((res r5 0).f 1).i, D.int ((res r5 0).f 2).i, D.rows ((res r5 0).f 3).r, D.int ((res r5 0).f 4).i, D.rows ((res r5 0).f 5).r, D.rows ((res r5 0).f 6).r, D.rows ((res r5 0).f 7).r, D.int ((res r5 0).f 8).i, D.rows ((res r5 0).f 9).r], D.int (res r5 1).i]
  else none
def iStartSession.t (a : List D) : Option (List D) := iStartSession.b (res a 0) (res a 1) (res a 2) (res a 3) (res a 4)
def wmarkPolicy.b (a0 a1 : D) : Option (List D) :=
  Option.bind (wmarkRuleS.t [D.rows (a0.f 1).r, D.int a1.i]) fun r1 =>
    some [D.int (res r1 0).i, D.st [D.int (a0.f 0).i, D.rows (res r1 1).r]]
def wmarkPolicy.t (a : List D) : Option (List D) := wmarkPolicy.b (res a 0) (res a 1)
def wmarkEpoch.b (a0 a1 : D) : Option (List D) :=
  Option.bind (wmarkIncludesS.t [D.rows (a0.f 2).r, D.int a1.i]) fun r1 =>
    Option.bind (wmarkPolicy.t [D.st [D.int (a0.f 3).i, D.rows (a0.f 4).r], D.int (res r1 0).i]) fun r2 =>
      some [D.int (res r2 0).i, D.st [D.int (a0.f 0).i, D.int (a0.f 1).i, D.rows (res r1 1).r, D.int (a0.f 3).i, D.rows ((res r2 1).f 1).r]]
def wmarkEpoch.t (a : List D) : Option (List D) := wmarkEpoch.b (res a 0) (res a 1)
def wmarkPoint.b (a0 a1 : D) : Option (List D) :=
  Option.bind (wmarkEpoch.t [D.st [D.int (a0.f 1).i, D.int (a0.f 2).i, D.rows (a0.f 3).r, D.int (a0.f 4).i, D.rows (a0.f 5).r], D.int a1.i]) fun r1 =>
    Option.bind (wmarkFactS.t [D.rows (a0.f 6).r, D.int (res r1 0).i]) fun r2 =>
      Option.bind (wmarkRevokedS.t [D.rows (a0.f 7).r, D.int (res r2 0).i]) fun r3 =>
        Option.bind (wmarkSavedS.t [D.rows (a0.f 9).r, D.int (res r3 0).i]) fun r4 =>
          some [D.int (res r4 0).i, D.st [D.int (a0.f 0).i, D.int (a0.f 1).i, D.int (a0.f 2).i, D.rows ((res r1 1).f 2).r, D.int (a0.f 4).i, D.rows ((res r1 1).f 4).r, D.rows (res r2 1).r, D.rows (res r3 1).r, D.int (a0.f 8).i, D.rows (res r4 1).r]]
def wmarkPoint.t (a : List D) : Option (List D) := wmarkPoint.b (res a 0) (res a 1)
def wheldIncludesS.l1 (d1 : List D) : LR :=
  bif ltI (arg d1 1).i ((arg d1 2).r.length : Int) then
    bif leI 0 (arg d1 1).i && ltI (arg d1 1).i ((arg d1 2).r.length : Int) then
      bif ((cell (arg d1 2).r (arg d1 1).i.toNat 0).i != (arg d1 0).i) then
        some (.inr (.inr [D.int (-1)]))
      else
        bif leI 0 (arg d1 1).i && ltI (arg d1 1).i ((arg d1 2).r.length : Int) then
          bif ((cell (arg d1 2).r (arg d1 1).i.toNat 1).i != w64 ((arg d1 0).i + 1)) then
            some (.inr (.inr [D.int (-1)]))
          else
            some (.inl [D.int (w64 ((w64 ((arg d1 0).i + 1)) + 1)), D.int (w64 ((arg d1 1).i + 1)), D.rows (arg d1 2).r])
        else none
    else none
  else
    some (.inr (.inl [D.int (arg d1 0).i]))
def wheldIncludesS.b (a0 a1 : D) : Option (List D) :=
  loop (wheldIncludesS.l1) [D.int a1.i, D.int 0, D.rows a0.r] (fun x1 =>
    some [D.int (arg x1 0).i]) fun y1 => some y1
def wheldIncludesS.t (a : List D) : Option (List D) := wheldIncludesS.b (res a 0) (res a 1)
def wheldCondS.l1 (g : GT) (d1 : List D) : LR :=
  bif ltI (arg d1 1).i ((arg d1 2).r.length : Int) then
    bif leI 0 (arg d1 1).i && ltI (arg d1 1).i ((arg d1 2).r.length : Int) then
      bif ((cell (arg d1 2).r (arg d1 1).i.toNat 0).i != (arg d1 0).i) then
        some (.inr (.inr [D.int (-1)]))
      else
        bif leI 0 (arg d1 1).i && ltI (arg d1 1).i ((arg d1 2).r.length : Int) then
          bif ((cell (arg d1 2).r (arg d1 1).i.toNat 1).i != w64 ((arg d1 0).i + 1)) then
            some (.inr (.inr [D.int (-1)]))
          else
            bif leI 0 (arg d1 1).i && ltI (arg d1 1).i ((arg d1 2).r.length : Int) then
              bif ((cell (arg d1 2).r (arg d1 1).i.toNat 2).i != w64 ((w64 ((arg d1 0).i + 1)) + 1)) then
                some (.inr (.inr [D.int (-1)]))
              else
                bif leI 0 (arg d1 1).i && ltI (arg d1 1).i ((arg d1 2).r.length : Int) then
                  Option.bind (g wheldCondS.n [D.rows (cell (arg d1 2).r (arg d1 1).i.toNat 3).r, D.int (w64 ((w64 ((w64 ((arg d1 0).i + 1)) + 1)) + 1))]) fun r1 =>
                    bif ltI (res r1 0).i 0 then
                      some (.inr (.inr [D.int (-1)]))
                    else
                      some (.inl [D.int (res r1 0).i, D.int (w64 ((arg d1 1).i + 1)), D.rows (arg d1 2).r])
                else none
            else none
        else none
    else none
  else
    some (.inr (.inl [D.int (arg d1 0).i]))
def wheldCondS.b (g : GT) (a0 a1 : D) : Option (List D) :=
  loop (wheldCondS.l1 g) [D.int a1.i, D.int 0, D.rows a0.r] (fun x1 =>
    some [D.int (arg x1 0).i]) fun y1 => some y1
def wheldCondS.F : Nat → GT
  | 0 => fun _ _ => none
  | n + 1 => fun k => look (fun _ => none) [(wheldCondS.n, fun a => wheldCondS.b (wheldCondS.F n) (res a 0) (res a 1))] k
def wheldCondS.t (a : List D) : Option (List D) := lim fun n => wheldCondS.F n wheldCondS.n a
def wheldRuleS.l1 (d1 : List D) : LR :=
  bif ltI (arg d1 1).i ((arg d1 2).r.length : Int) then
    bif leI 0 (arg d1 1).i && ltI (arg d1 1).i ((arg d1 2).r.length : Int) then
      bif ((cell (arg d1 2).r (arg d1 1).i.toNat 0).i != (arg d1 0).i) then
        some (.inr (.inr [D.int (-1)]))
      else
        bif leI 0 (arg d1 1).i && ltI (arg d1 1).i ((arg d1 2).r.length : Int) then
          bif ((cell (arg d1 2).r (arg d1 1).i.toNat 1).i != w64 ((arg d1 0).i + 1)) then
            some (.inr (.inr [D.int (-1)]))
          else
            bif leI 0 (arg d1 1).i && ltI (arg d1 1).i ((arg d1 2).r.length : Int) then
              bif ((cell (arg d1 2).r (arg d1 1).i.toNat 2).i != w64 ((w64 ((arg d1 0).i + 1)) + 1)) then
                some (.inr (.inr [D.int (-1)]))
              else
                bif leI 0 (arg d1 1).i && ltI (arg d1 1).i ((arg d1 2).r.length : Int) then
                  bif ((cell (arg d1 2).r (arg d1 1).i.toNat 3).i != w64 ((w64 ((w64 ((arg d1 0).i + 1)) + 1)) + 1)) then
                    some (.inr (.inr [D.int (-1)]))
                  else
                    bif leI 0 (arg d1 1).i && ltI (arg d1 1).i ((arg d1 2).r.length : Int) then
                      bif ((cell (arg d1 2).r (arg d1 1).i.toNat 4).i != w64 ((w64 ((w64 ((w64 ((arg d1 0).i + 1)) + 1)) + 1)) + 1)) then
                        some (.inr (.inr [D.int (-1)]))
                      else
                        bif leI 0 (arg d1 1).i && ltI (arg d1 1).i ((arg d1 2).r.length : Int) then
                          bif ((cell (arg d1 2).r (arg d1 1).i.toNat 5).i != w64 ((w64 ((w64 ((w64 ((w64 ((arg d1 0).i + 1)) + 1)) + 1)) + 1)) + 1)) then
                            some (.inr (.inr [D.int (-1)]))
                          else
                            bif leI 0 (arg d1 1).i && ltI (arg d1 1).i ((arg d1 2).r.length : Int) then
                              Option.bind (wheldCondS.t [D.rows (cell (arg d1 2).r (arg d1 1).i.toNat 6).r, D.int (w64 ((w64 ((w64 ((w64 ((w64 ((w64 ((arg d1 0).i + 1)) + 1)) + 1)) + 1)) + 1)) + 1))]) fun r1 =>
                                bif ltI (res r1 0).i 0 then
                                  some (.inr (.inr [D.int (-1)]))
                                else
                                  some (.inl [D.int (res r1 0).i, D.int (w64 ((arg d1 1).i + 1)), D.rows (arg d1 2).r])
                            else none
                        else none
                    else none
                else none
            else none
        else none
    else none
  else
    some (.inr (.inl [D.int (arg d1 0).i]))
def wheldRuleS.b (a0 a1 : D) : Option (List D) :=
  loop (wheldRuleS.l1) [D.int a1.i, D.int 0, D.rows a0.r] (fun x1 =>
    some [D.int (arg x1 0).i]) fun y1 => some y1
def wheldRuleS.t (a : List D) : Option (List D) := wheldRuleS.b (res a 0) (res a 1)
def wheldPolicy.b (a0 a1 : D) : Option (List D) :=
  Option.bind (wheldRuleS.t [D.rows (a0.f 1).r, D.int a1.i]) fun r1 =>
    bif ltI (res r1 0).i 0 then
      some [D.int (-1)]
    else
      some [D.int (res r1 0).i]
def wheldPolicy.t (a : List D) : Option (List D) := wheldPolicy.b (res a 0) (res a 1)
def wheldEpoch.b (a0 a1 : D) : Option (List D) :=
  Option.bind (wheldIncludesS.t [D.rows (a0.f 2).r, D.int a1.i]) fun r1 =>
    bif ltI (res r1 0).i 0 then
      some [D.int (-1)]
    else
      Option.bind (wheldPolicy.t [D.st [D.int (a0.f 3).i, D.rows (a0.f 4).r], D.int (res r1 0).i]) fun r2 =>
        bif ltI (res r2 0).i 0 then
          some [D.int (-1)]
        else
          some [D.int (res r2 0).i]
def wheldEpoch.t (a : List D) : Option (List D) := wheldEpoch.b (res a 0) (res a 1)
def wheldFactS.l1 (d1 : List D) : LR :=
  bif ltI (arg d1 1).i ((arg d1 2).r.length : Int) then
    bif leI 0 (arg d1 1).i && ltI (arg d1 1).i ((arg d1 2).r.length : Int) then
      bif ((cell (arg d1 2).r (arg d1 1).i.toNat 0).i != (arg d1 0).i) then
        some (.inr (.inr [D.int (-1)]))
      else
        bif leI 0 (arg d1 1).i && ltI (arg d1 1).i ((arg d1 2).r.length : Int) then
          bif ((cell (arg d1 2).r (arg d1 1).i.toNat 1).i != w64 ((arg d1 0).i + 1)) then
            some (.inr (.inr [D.int (-1)]))
          else
            bif leI 0 (arg d1 1).i && ltI (arg d1 1).i ((arg d1 2).r.length : Int) then
              bif ((cell (arg d1 2).r (arg d1 1).i.toNat 2).i != w64 ((w64 ((arg d1 0).i + 1)) + 1)) then
                some (.inr (.inr [D.int (-1)]))
              else
                bif leI 0 (arg d1 1).i && ltI (arg d1 1).i ((arg d1 2).r.length : Int) then
                  bif ((cell (arg d1 2).r (arg d1 1).i.toNat 3).i != w64 ((w64 ((w64 ((arg d1 0).i + 1)) + 1)) + 1)) then
                    some (.inr (.inr [D.int (-1)]))
                  else
                    bif leI 0 (arg d1 1).i && ltI (arg d1 1).i ((arg d1 2).r.length : Int) then
                      bif ((cell (arg d1 2).r (arg d1 1).i.toNat 4).i != w64 ((w64 ((w64 ((w64 ((arg d1 0).i + 1)) + 1)) + 1)) + 1)) then
                        some (.inr (.inr [D.int (-1)]))
                      else
                        bif leI 0 (arg d1 1).i && ltI (arg d1 1).i ((arg d1 2).r.length : Int) then
                          bif ((cell (arg d1 2).r (arg d1 1).i.toNat 5).i != w64 ((w64 ((w64 ((w64 ((w64 ((arg d1 0).i + 1)) + 1)) + 1)) + 1)) + 1)) then
                            some (.inr (.inr [D.int (-1)]))
                          else
                            some (.inl [D.int (w64 ((w64 ((w64 ((w64 ((w64 ((w64 ((arg d1 0).i + 1)) + 1)) + 1)) + 1)) + 1)) + 1)), D.int (w64 ((arg d1 1).i + 1)), D.rows (arg d1 2).r])
                        else none
                    else none
                else none
            else none
        else none
    else none
  else
    some (.inr (.inl [D.int (arg d1 0).i]))
def wheldFactS.b (a0 a1 : D) : Option (List D) :=
  loop (wheldFactS.l1) [D.int a1.i, D.int 0, D.rows a0.r] (fun x1 =>
    some [D.int (arg x1 0).i]) fun y1 => some y1
def wheldFactS.t (a : List D) : Option (List D) := wheldFactS.b (res a 0) (res a 1)
def wheldRevokedS.l1 (d1 : List D) : LR :=
  bif ltI (arg d1 1).i ((arg d1 2).r.length : Int) then
    bif leI 0 (arg d1 1).i && ltI (arg d1 1).i ((arg d1 2).r.length : Int) then
      bif ((cell (arg d1 2).r (arg d1 1).i.toNat 0).i != (arg d1 0).i) then
        some (.inr (.inr [D.int (-1)]))
      else
        bif leI 0 (arg d1 1).i && ltI (arg d1 1).i ((arg d1 2).r.length : Int) then
          bif ((cell (arg d1 2).r (arg d1 1).i.toNat 1).i != w64 ((arg d1 0).i + 1)) then
            some (.inr (.inr [D.int (-1)]))
          else
            some (.inl [D.int (w64 ((w64 ((arg d1 0).i + 1)) + 1)), D.int (w64 ((arg d1 1).i + 1)), D.rows (arg d1 2).r])
        else none
    else none
  else
    some (.inr (.inl [D.int (arg d1 0).i]))
def wheldRevokedS.b (a0 a1 : D) : Option (List D) :=
  loop (wheldRevokedS.l1) [D.int a1.i, D.int 0, D.rows a0.r] (fun x1 =>
    some [D.int (arg x1 0).i]) fun y1 => some y1
def wheldRevokedS.t (a : List D) : Option (List D) := wheldRevokedS.b (res a 0) (res a 1)
def wheldSavedS.l1 (d1 : List D) : LR :=
  bif ltI (arg d1 1).i ((arg d1 2).r.length : Int) then
    bif leI 0 (arg d1 1).i && ltI (arg d1 1).i ((arg d1 2).r.length : Int) then
      bif ((cell (arg d1 2).r (arg d1 1).i.toNat 0).i != (arg d1 0).i) then
        some (.inr (.inr [D.int (-1)]))
      else
        bif leI 0 (arg d1 1).i && ltI (arg d1 1).i ((arg d1 2).r.length : Int) then
          bif ((cell (arg d1 2).r (arg d1 1).i.toNat 1).i != w64 ((arg d1 0).i + 1)) then
            some (.inr (.inr [D.int (-1)]))
          else
            bif leI 0 (arg d1 1).i && ltI (arg d1 1).i ((arg d1 2).r.length : Int) then
              bif ((cell (arg d1 2).r (arg d1 1).i.toNat 2).i != w64 ((w64 ((arg d1 0).i + 1)) + 1)) then
                some (.inr (.inr [D.int (-1)]))
              else
                bif leI 0 (arg d1 1).i && ltI (arg d1 1).i ((arg d1 2).r.length : Int) then
                  bif ((cell (arg d1 2).r (arg d1 1).i.toNat 3).i != w64 ((w64 ((w64 ((arg d1 0).i + 1)) + 1)) + 1)) then
                    some (.inr (.inr [D.int (-1)]))
                  else
                    bif leI 0 (arg d1 1).i && ltI (arg d1 1).i ((arg d1 2).r.length : Int) then
                      bif ((cell (arg d1 2).r (arg d1 1).i.toNat 4).i != w64 ((w64 ((w64 ((w64 ((arg d1 0).i + 1)) + 1)) + 1)) + 1)) then
                        some (.inr (.inr [D.int (-1)]))
                      else
                        bif leI 0 (arg d1 1).i && ltI (arg d1 1).i ((arg d1 2).r.length : Int) then
                          bif ((cell (arg d1 2).r (arg d1 1).i.toNat 5).i != w64 ((w64 ((w64 ((w64 ((w64 ((arg d1 0).i + 1)) + 1)) + 1)) + 1)) + 1)) then
                            some (.inr (.inr [D.int (-1)]))
                          else
                            bif leI 0 (arg d1 1).i && ltI (arg d1 1).i ((arg d1 2).r.length : Int) then
                              bif ((cell (arg d1 2).r (arg d1 1).i.toNat 6).i != w64 ((w64 ((w64 ((w64 ((w64 ((w64 ((arg d1 0).i + 1)) + 1)) + 1)) + 1)) + 1)) + 1)) then
                                some (.inr (.inr [D.int (-1)]))
                              else
                                bif leI 0 (arg d1 1).i && ltI (arg d1 1).i ((arg d1 2).r.length : Int) then
                                  bif ((cell (arg d1 2).r (arg d1 1).i.toNat 7).i != w64 ((w64 ((w64 ((w64 ((w64 ((w64 ((w64 ((arg d1 0).i + 1)) + 1)) + 1)) + 1)) + 1)) + 1)) + 1)) then
                                    some (.inr (.inr [D.int (-1)]))
                                  else
                                    some (.inl [D.int (w64 ((w64 ((w64 ((w64 ((w64 ((w64 ((w64 ((w64 ((arg d1 0).i + 1)) + 1)) + 1)) + 1)) + 1)) + 1)) + 1)) + 1)), D.int (w64 ((arg d1 1).i + 1)), D.rows (arg d1 2).r])
                                else none
                            else none
                        else none
                    else none
                else none
            else none
        else none
    else none
  else
    some (.inr (.inl [D.int (arg d1 0).i]))
def wheldSavedS.b (a0 a1 : D) : Option (List D) :=
  loop (wheldSavedS.l1) [D.int a1.i, D.int 0, D.rows a0.r] (fun x1 =>
    some [D.int (arg x1 0).i]) fun y1 => some y1
def wheldSavedS.t (a : List D) : Option (List D) := wheldSavedS.b (res a 0) (res a 1)
def wheldPoint.b (a0 a1 : D) : Option (List D) :=
  Option.bind (wheldEpoch.t [D.st [D.int (a0.f 1).i, D.int (a0.f 2).i, D.rows (a0.f 3).r, D.int (a0.f 4).i, D.rows (a0.f 5).r], D.int a1.i]) fun r1 =>
    bif ltI (res r1 0).i 0 then
      some [D.int (-1)]
    else
      Option.bind (wheldFactS.t [D.rows (a0.f 6).r, D.int (res r1 0).i]) fun r2 =>
        bif ltI (res r2 0).i 0 then
          some [D.int (-1)]
        else
          Option.bind (wheldRevokedS.t [D.rows (a0.f 7).r, D.int (res r2 0).i]) fun r3 =>
            bif ltI (res r3 0).i 0 then
              some [D.int (-1)]
            else
              Option.bind (wheldSavedS.t [D.rows (a0.f 9).r, D.int (res r3 0).i]) fun r4 =>
                bif ltI (res r4 0).i 0 then
                  some [D.int (-1)]
                else
                  some [D.int (res r4 0).i]
def wheldPoint.t (a : List D) : Option (List D) := wheldPoint.b (res a 0) (res a 1)
def wFnExactStartSession.b (a0 a1 a2 a3 a4 : D) : Option (List D) :=
  Option.bind (wszSessionS.t [D.rows a0.r, D.int 1048576]) fun r1 =>
    bif ltI (res r1 0).i 0 then
      some [D.bool true]
    else
      Option.bind (wszPoint.t [D.st [D.int (a1.f 0).i, D.int (a1.f 1).i, D.int (a1.f 2).i, D.rows (a1.f 3).r, D.int (a1.f 4).i, D.rows (a1.f 5).r, D.rows (a1.f 6).r, D.rows (a1.f 7).r, D.int (a1.f 8).i, D.rows (a1.f 9).r], D.int (res r1 0).i]) fun r2 =>
        bif ltI (res r2 0).i 0 then
          some [D.bool true]
        else
          Option.bind (wtoSessionS.t [D.rows a0.r]) fun r3 =>
            Option.bind (wtoPoint.t [D.st [D.int (a1.f 0).i, D.int (a1.f 1).i, D.int (a1.f 2).i, D.rows (a1.f 3).r, D.int (a1.f 4).i, D.rows (a1.f 5).r, D.rows (a1.f 6).r, D.rows (a1.f 7).r, D.int (a1.f 8).i, D.rows (a1.f 9).r]]) fun r4 =>
              Option.bind (wtoCert.t [D.st [D.int (a3.f 0).i, D.int (a3.f 1).i, D.int (a3.f 2).i, D.int (a3.f 3).i, D.int (a3.f 4).i, D.int (a3.f 5).i]]) fun r5 =>
                Option.bind (wtoRequest.t [D.st [D.int (a4.f 0).i, D.int (a4.f 1).i, D.int (a4.f 2).i, D.int (a4.f 3).i, D.int (a4.f 4).i, D.int (a4.f 5).i]]) fun r6 =>
                  Option.bind (sStartSession.t [D.rows (res r3 0).r, D.st [D.int ((res r4 0).f 0).i, D.int ((res r4 0).f 1).i, D.int ((res r4 0).f 2).i, D.rows ((res r4 0).f 3).r, D.int ((res r4 0).f 4).i, D.rows ((res r4 0).f 5).r, D.rows ((res r4 0).f 6).r, D.rows ((res r4 0).f 7).r, D.int ((res r4 0).f 8).i, D.rows ((res r4 0).f 9).r], D.int a2.i, D.st [D.int ((res r5 0).f 0).i, D.int ((res r5 0).f 1).i, D.int ((res r5 0).f 2).i, D.int ((res r5 0).f 3).i, D.int ((res r5 0).f 4).i, D.int ((res r5 0).f 5).i], D.st [D.int ((res r6 0).f 0).i, D.int ((res r6 0).f 1).i, D.int ((res r6 0).f 2).i, D.int ((res r6 0).f 3).i, D.int ((res r6 0).f 4).i, D.int ((res r6 0).f 5).i]]) fun r7 =>
                    Option.bind (wtoSessionS.t [D.rows a0.r]) fun r8 =>
                      Option.bind (wtoPoint.t [D.st [D.int (a1.f 0).i, D.int (a1.f 1).i, D.int (a1.f 2).i, D.rows (a1.f 3).r, D.int (a1.f 4).i, D.rows (a1.f 5).r, D.rows (a1.f 6).r, D.rows (a1.f 7).r, D.int (a1.f 8).i, D.rows (a1.f 9).r]]) fun r9 =>
                        Option.bind (wtoCert.t [D.st [D.int (a3.f 0).i, D.int (a3.f 1).i, D.int (a3.f 2).i, D.int (a3.f 3).i, D.int (a3.f 4).i, D.int (a3.f 5).i]]) fun r10 =>
                          Option.bind (wtoRequest.t [D.st [D.int (a4.f 0).i, D.int (a4.f 1).i, D.int (a4.f 2).i, D.int (a4.f 3).i, D.int (a4.f 4).i, D.int (a4.f 5).i]]) fun r11 =>
                            Option.bind (iStartSession.t [D.rows (res r8 0).r, D.st [D.int ((res r9 0).f 0).i, D.int ((res r9 0).f 1).i, D.int ((res r9 0).f 2).i, D.rows ((res r9 0).f 3).r, D.int ((res r9 0).f 4).i, D.rows ((res r9 0).f 5).r, D.rows ((res r9 0).f 6).r, D.rows ((res r9 0).f 7).r, D.int ((res r9 0).f 8).i, D.rows ((res r9 0).f 9).r], D.int a2.i, D.st [D.int ((res r10 0).f 0).i, D.int ((res r10 0).f 1).i, D.int ((res r10 0).f 2).i, D.int ((res r10 0).f 3).i, D.int ((res r10 0).f 4).i, D.int ((res r10 0).f 5).i], D.st [D.int ((res r11 0).f 0).i, D.int ((res r11 0).f 1).i, D.int ((res r11 0).f 2).i, D.int ((res r11 0).f 3).i, D.int ((res r11 0).f 4).i, D.int ((res r11 0).f 5).i]]) fun r12 =>
                              Option.bind (weqSessionS.t [D.rows (res r12 0).r, D.rows (res r7 0).r]) fun r13 =>
                                bif !(res r13 0).b then
                                  some [D.bool false]
                                else
                                  Option.bind (weqPoint.t [D.st [D.int ((res r12 1).f 0).i, D.int ((res r12 1).f 1).i, D.int ((res r12 1).f 2).i, D.rows ((res r12 1).f 3).r, D.int ((res r12 1).f 4).i, D.rows ((res r12 1).f 5).r, D.rows ((res r12 1).f 6).r, D.rows ((res r12 1).f 7).r, D.int ((res r12 1).f 8).i, D.rows ((res r12 1).f 9).r], D.st [D.int ((res r7 1).f 0).i, D.int ((res r7 1).f 1).i, D.int ((res r7 1).f 2).i, D.rows ((res r7 1).f 3).r, D.int ((res r7 1).f 4).i, D.rows ((res r7 1).f 5).r, D.rows ((res r7 1).f 6).r, D.rows ((res r7 1).f 7).r, D.int ((res r7 1).f 8).i, D.rows ((res r7 1).f 9).r]]) fun r14 =>
                                    bif !(res r14 0).b then
                                      some [D.bool false]
                                    else
                                      bif ((res r12 2).i != (res r7 2).i) then
                                        some [D.bool false]
                                      else
                                        Option.bind (wtoSessionS.t [D.rows a0.r]) fun r15 =>
                                          Option.bind (weqSessionS.t [D.rows (res r8 0).r, D.rows (res r15 0).r]) fun r16 =>
                                            bif !(res r16 0).b then
                                              some [D.bool false]
                                            else
                                              Option.bind (wtoPoint.t [D.st [D.int (a1.f 0).i, D.int (a1.f 1).i, D.int (a1.f 2).i, D.rows (a1.f 3).r, D.int (a1.f 4).i, D.rows (a1.f 5).r, D.rows (a1.f 6).r, D.rows (a1.f 7).r, D.int (a1.f 8).i, D.rows (a1.f 9).r]]) fun r17 =>
                                                Option.bind (weqPoint.t [D.st [D.int ((res r9 0).f 0).i, D.int ((res r9 0).f 1).i, D.int ((res r9 0).f 2).i, D.rows ((res r9 0).f 3).r, D.int ((res r9 0).f 4).i, D.rows ((res r9 0).f 5).r, D.rows ((res r9 0).f 6).r, D.rows ((res r9 0).f 7).r, D.int ((res r9 0).f 8).i, D.rows ((res r9 0).f 9).r], D.st [D.int ((res r17 0).f 0).i, D.int ((res r17 0).f 1).i, D.int ((res r17 0).f 2).i, D.rows ((res r17 0).f 3).r, D.int ((res r17 0).f 4).i, D.rows ((res r17 0).f 5).r, D.rows ((res r17 0).f 6).r, D.rows ((res r17 0).f 7).r, D.int ((res r17 0).f 8).i, D.rows ((res r17 0).f 9).r]]) fun r18 =>
                                                  bif !(res r18 0).b then
                                                    some [D.bool false]
                                                  else
                                                    Option.bind (wmarkSessionS.t [D.rows (res r8 0).r, D.int 1]) fun r19 =>
                                                      Option.bind (wmarkPoint.t [D.st [D.int ((res r9 0).f 0).i, D.int ((res r9 0).f 1).i, D.int ((res r9 0).f 2).i, D.rows ((res r9 0).f 3).r, D.int ((res r9 0).f 4).i, D.rows ((res r9 0).f 5).r, D.rows ((res r9 0).f 6).r, D.rows ((res r9 0).f 7).r, D.int ((res r9 0).f 8).i, D.rows ((res r9 0).f 9).r], D.int (res r19 0).i]) fun r20 =>
                                                        bif ltI (res r20 0).i 0 then
                                                          some [D.bool false]
                                                        else
                                                          Option.bind (weqSessionS.t [D.rows (res r12 0).r, D.rows (res r7 0).r]) fun r21 =>
                                                            bif !(res r21 0).b then
                                                              some [D.bool false]
                                                            else
                                                              Option.bind (weqPoint.t [D.st [D.int ((res r12 1).f 0).i, D.int ((res r12 1).f 1).i, D.int ((res r12 1).f 2).i, D.rows ((res r12 1).f 3).r, D.int ((res r12 1).f 4).i, D.rows ((res r12 1).f 5).r, D.rows ((res r12 1).f 6).r, D.rows ((res r12 1).f 7).r, D.int ((res r12 1).f 8).i, D.rows ((res r12 1).f 9).r], D.st [D.int ((res r7 1).f 0).i, D.int ((res r7 1).f 1).i, D.int ((res r7 1).f 2).i, D.rows ((res r7 1).f 3).r, D.int ((res r7 1).f 4).i, D.rows ((res r7 1).f 5).r, D.rows ((res r7 1).f 6).r, D.rows ((res r7 1).f 7).r, D.int ((res r7 1).f 8).i, D.rows ((res r7 1).f 9).r]]) fun r22 =>
                                                                bif !(res r22 0).b then
                                                                  some [D.bool false]
                                                                else
                                                                  bif ((res r12 2).i != (res r7 2).i) then
                                                                    some [D.bool false]
                                                                  else
                                                                    Option.bind (wmarkSessionS.t [D.rows (res r12 0).r, D.int 1]) fun r23 =>
                                                                      Option.bind (wmarkPoint.t [D.st [D.int ((res r12 1).f 0).i, D.int ((res r12 1).f 1).i, D.int ((res r12 1).f 2).i, D.rows ((res r12 1).f 3).r, D.int ((res r12 1).f 4).i, D.rows ((res r12 1).f 5).r, D.rows ((res r12 1).f 6).r, D.rows ((res r12 1).f 7).r, D.int ((res r12 1).f 8).i, D.rows ((res r12 1).f 9).r], D.int (res r23 0).i]) fun r24 =>
                                                                        Option.bind (wheldSessionS.t [D.rows (res r23 1).r, D.int 1]) fun r25 =>
                                                                          bif ltI (res r25 0).i 0 then
                                                                            some [D.bool false]
                                                                          else
                                                                            Option.bind (wheldPoint.t [D.st [D.int ((res r12 1).f 0).i, D.int ((res r12 1).f 1).i, D.int ((res r12 1).f 2).i, D.rows ((res r24 1).f 3).r, D.int ((res r12 1).f 4).i, D.rows ((res r24 1).f 5).r, D.rows ((res r24 1).f 6).r, D.rows ((res r24 1).f 7).r, D.int ((res r12 1).f 8).i, D.rows ((res r24 1).f 9).r], D.int (res r25 0).i]) fun r26 =>
                                                                              bif ltI (res r26 0).i 0 then
                                                                                some [D.bool false]
                                                                              else
                                                                                bif ((res r26 0).i != (res r24 0).i) then
                                                                                  some [D.bool false]
                                                                                else
                                                                                  Option.bind (wtoSessionS.t [D.rows a0.r]) fun r27 =>
                                                                                    Option.bind (wtoPoint.t [D.st [D.int (a1.f 0).i, D.int (a1.f 1).i, D.int (a1.f 2).i, D.rows (a1.f 3).r, D.int (a1.f 4).i, D.rows (a1.f 5).r, D.rows (a1.f 6).r, D.rows (a1.f 7).r, D.int (a1.f 8).i, D.rows (a1.f 9).r]]) fun r28 =>
                                                                                      Option.bind (wtoCert.t [D.st [D.int (a3.f 0).i, D.int (a3.f 1).i, D.int (a3.f 2).i, D.int (a3.f 3).i, D.int (a3.f 4).i, D.int (a3.f 5).i]]) fun r29 =>
                                                                                        Option.bind (wtoRequest.t [D.st [D.int (a4.f 0).i, D.int (a4.f 1).i, D.int (a4.f 2).i, D.int (a4.f 3).i, D.int (a4.f 4).i, D.int (a4.f 5).i]]) fun r30 =>
                                                                                          Option.bind (iStartSession.t [D.rows (res r27 0).r, D.st [D.int ((res r28 0).f 0).i, D.int ((res r28 0).f 1).i, D.int ((res r28 0).f 2).i, D.rows ((res r28 0).f 3).r, D.int ((res r28 0).f 4).i, D.rows ((res r28 0).f 5).r, D.rows ((res r28 0).f 6).r, D.rows ((res r28 0).f 7).r, D.int ((res r28 0).f 8).i, D.rows ((res r28 0).f 9).r], D.int a2.i, D.st [D.int ((res r29 0).f 0).i, D.int ((res r29 0).f 1).i, D.int ((res r29 0).f 2).i, D.int ((res r29 0).f 3).i, D.int ((res r29 0).f 4).i, D.int ((res r29 0).f 5).i], D.st [D.int ((res r30 0).f 0).i, D.int ((res r30 0).f 1).i, D.int ((res r30 0).f 2).i, D.int ((res r30 0).f 3).i, D.int ((res r30 0).f 4).i, D.int ((res r30 0).f 5).i]]) fun r31 =>
                                                                                            Option.bind (weqSessionS.t [D.rows (res r31 0).r, D.rows (res r7 0).r]) fun r32 =>
                                                                                              bif !(res r32 0).b then
                                                                                                some [D.bool false]
                                                                                              else
                                                                                                Option.bind (weqPoint.t [D.st [D.int ((res r31 1).f 0).i, D.int ((res r31 1).f 1).i, D.int ((res r31 1).f 2).i, D.rows ((res r31 1).f 3).r, D.int ((res r31 1).f 4).i, D.rows ((res r31 1).f 5).r, D.rows ((res r31 1).f 6).r, D.rows ((res r31 1).f 7).r, D.int ((res r31 1).f 8).i, D.rows ((res r31 1).f 9).r], D.st [D.int ((res r7 1).f 0).i, D.int ((res r7 1).f 1).i, D.int ((res r7 1).f 2).i, D.rows ((res r7 1).f 3).r, D.int ((res r7 1).f 4).i, D.rows ((res r7 1).f 5).r, D.rows ((res r7 1).f 6).r, D.rows ((res r7 1).f 7).r, D.int ((res r7 1).f 8).i, D.rows ((res r7 1).f 9).r]]) fun r33 =>
                                                                                                  bif !(res r33 0).b then
                                                                                                    some [D.bool false]
                                                                                                  else
                                                                                                    bif ((res r31 2).i != (res r7 2).i) then
                                                                                                      some [D.bool false]
                                                                                                    else
                                                                                                      Option.bind (wheldSessionS.t [D.rows (res r23 1).r, D.int 1]) fun r34 =>
                                                                                                        bif ltI (res r34 0).i 0 then
                                                                                                          some [D.bool false]
                                                                                                        else
                                                                                                          Option.bind (wheldPoint.t [D.st [D.int ((res r12 1).f 0).i, D.int ((res r12 1).f 1).i, D.int ((res r12 1).f 2).i, D.rows ((res r24 1).f 3).r, D.int ((res r12 1).f 4).i, D.rows ((res r24 1).f 5).r, D.rows ((res r24 1).f 6).r, D.rows ((res r24 1).f 7).r, D.int ((res r12 1).f 8).i, D.rows ((res r24 1).f 9).r], D.int (res r34 0).i]) fun r35 =>
                                                                                                            bif ltI (res r35 0).i 0 then
                                                                                                              some [D.bool false]
                                                                                                            else
                                                                                                              bif ((res r35 0).i != (res r24 0).i) then
                                                                                                                some [D.bool false]
                                                                                                              else
                                                                                                                some [D.bool true]
def wFnExactStartSession.t (a : List D) : Option (List D) := wFnExactStartSession.b (res a 0) (res a 1) (res a 2) (res a 3) (res a 4)
end
end Go.Ev
