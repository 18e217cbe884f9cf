/- The evaluator: Go code over tree-shaped data, without memory. Definitions alone. The evaluator: how data lie in memory, and what a change of memory leaves of them. The evaluator: rows within rows. The evaluator: a state and the machine's memory; what a function's contract says. The evaluator: what a question's answer says; the table of types. The evaluator: single operations that change no memory. The evaluator: reading operations. The evaluator: addresses, lengths, slices, parts. The evaluator: elements, slices, parts of values. The evaluator: a change of memory; new variables. The evaluator: -/
import Derived.Calls
import Derived.KernelRfl
import Derived.Laws.StructEq
import Derived.Tactics
import Derived.Laws.Tables
import Derived.Great.BuildSlice
import Derived.IntWalk
set_option linter.unusedVariables false
set_option linter.unusedSimpArgs false
section
/- The evaluator: Go code over tree-shaped data, without memory. Definitions alone. -/
namespace Go.Ev

/-- data: a number, a truth value, a text, a slice's rows (a struct is one row) -/
inductive D where
  | mk (i : Int) (b : Bool) (s : ByteArray) (r : List (List D))
namespace D
def z : D := .mk 0 false ⟨#[]⟩ []
instance : Inhabited D := ⟨z⟩
def i : D → Int | .mk i _ _ _ => i
def b : D → Bool | .mk _ b _ _ => b
def s : D → ByteArray | .mk _ _ s _ => s
def r : D → List (List D) | .mk _ _ _ r => r
def int (n : Int) : D := .mk n false ⟨#[]⟩ []
def bool (b : Bool) : D := .mk 0 b ⟨#[]⟩ []
def str (s : ByteArray) : D := .mk 0 false s []
def rows (r : List (List D)) : D := .mk 0 false ⟨#[]⟩ r
def st (cs : List D) : D := .rows [cs]
end D

def nth {α : Type} (d : α) : List α → Nat → α
  | [], _ => d
  | x :: _, 0 => x
  | _ :: l, n + 1 => nth d l n
def D.cs (x : D) : List D := nth [] x.r 0
def D.c (x : D) (j : Nat) : D := nth D.z x.cs j
/-- argument j -/
def arg (x : List D) (j : Nat) : D := nth D.z x j
/-- replaces element i -/
def upd {α : Type} : List α → Nat → α → List α
  | [], _, _ => []
  | _ :: l, 0, v => v :: l
  | x :: l, n + 1, v => x :: upd l n v

/-- kinds of cells -/
inductive Ck where
  | int (k : IntKind) | bool | str | sl (e : TypeId) | ptr (e : TypeId) | fn (t : TypeId) | bad
  deriving Inhabited
def Ck.same : Ck → Ck → Bool
  | .int j, .int k => decide (j = k)
  | .bool, .bool => true
  | .str, .str => true
  | .sl e, .sl f => Nat.beq e f
  | _, _ => false
def Ck.sames : List Ck → List Ck → Bool
  | [], [] => true
  | a :: l, b :: m => a.same b && Ck.sames l m
  | _, _ => false
inductive Td where
  | prim | struct (fs : List (Nat × TypeId)) | arr (n : Nat) (e : TypeId) | sl (e : TypeId) | ptr (e : TypeId) | fn (ps rs : List TypeId) | bad
  deriving Inhabited
structure Ti where
  ks : List Ck
  agg : Bool
  d : Td
  bytes : Nat
  deriving Inhabited
def look {α : Type} (d : α) : List (Nat × α) → Nat → α
  | [], _ => d
  | (k, v) :: l, x => bif Nat.beq k x then v else look d l x
def find {α : Type} : List (Nat × α) → Nat → Option α
  | [], _ => none
  | (k, v) :: l, x => bif Nat.beq k x then some v else find l x
abbrev Tt := List (Nat × Ti)
def Tt.at (tt : Tt) (t : Nat) : Ti := look { ks := [], agg := false, d := .bad, bytes := 0 } tt t

def Tt.has (tt : Tt) (t : Nat) : Bool := match (tt.at t).d with | .bad => false | _ => true

abbrev Path := List (Nat × Nat)
/-- what a slot holds -/
inductive AV where
  | undef
  | un
  | int (k : IntKind) (n : Int)
  | bool (b : Bool)
  | str (s : ByteArray)
  | nil
  | slw (r : Nat) (p : Path) (ver : Nat)
  | sl (r : Nat) (p : Path) (off len : Nat) (ver : Nat)
  | ag (cs : List AV)
  | ptr (r : Nat) (p : Path) (i c : Nat) (ver : Nat)
  | ptrA (r : Nat) (i n c : Nat)
  | fn (f : Nat) (caps : List AV)
  | fd (t : TypeId) (x : D)
  | tup (vs : List AV)
  deriving Inhabited
inductive Root where
  | var (own : Bool) (cs : List AV)
  | row (own : Bool) (ks : List Ck) (rows : List (List D)) (ver : Nat)
  | dead
  deriving Inhabited
structure State where
  slots : List (Nat × AV)
  roots : List (Nat × Root)
def State.slot (σ : State) (k : Nat) : AV := look .undef σ.slots k
def State.root (σ : State) (r : Nat) : Option Root := find σ.roots r

/-! what an operation asks -/
inductive Q (α : Type) where
  | ok (a : α)
  | no
  | ask (r : Nat) (k : Option Root → Q α)
  | test (c : Bool) (k : Q α)
  | call (o : Option (List D)) (k : List D → Q α)
namespace Q
def bind {α β : Type} : Q α → (α → Q β) → Q β
  | .ok a, f => f a
  | .no, _ => .no
  | .ask r k, f => .ask r fun o => (k o).bind f
  | .test c k, f => .test c (k.bind f)
  | .call o k, f => .call o fun x => (k x).bind f
instance : Monad Q where
  pure := Q.ok
  bind := Q.bind
/-- runs; tr: the roots that were looked at -/
def runK {α R : Type} (rt : Nat → Option Root) : Q α → List Nat → (α → List Nat → Option R) → Option R
  | .ok a, tr, k => k a tr
  | .no, _, _ => none
  | .ask r q, tr, k => (q (rt r)).runK rt (r :: tr) k
  | .test c q, tr, k => bif c then q.runK rt tr k else none
  | .call o q, tr, k => o.bind fun x => (q x).runK rt tr k
/-- a static condition -/
def need (c : Bool) : Q Unit := bif c then .ok () else .no
def fresh (r : Nat) : Q Unit := .ask r fun | none => .ok () | some _ => .no
def freshes : List (Nat × Root) → Q Unit
  | [] => .ok ()
  | (r, _) :: l => (fresh r).bind fun _ => freshes l
end Q

structure Eff where
  v : AV
  up : List (Nat × Root)

/-! rows -/
def rowsAt : List (List D) → Path → List (List D)
  | rows, [] => rows
  | rows, (i, c) :: p => rowsAt (nth D.z (nth [] rows i) c).r p
def setRows : List (List D) → Path → List (List D) → List (List D)
  | _, [], new => new
  | rows, (i, c) :: p, new => upd rows i (upd (nth [] rows i) c (D.rows (setRows (nth D.z (nth [] rows i) c).r p new)))
def ksAt (tt : Tt) : List Ck → Path → List Ck
  | ks, [] => ks
  | ks, (_, c) :: p => match nth Ck.bad ks c with | .sl e => ksAt tt (tt.at e).ks p | _ => []
def pathOk : Path → Nat → Nat → Bool
  | [], _, _ => true
  | _ :: _, v, w => Nat.beq v w
/-- the rows at a place, with whether they may be written and their cells' kinds -/
def askRows (tt : Tt) (r : Nat) (p : Path) (ver : Nat) : Q (Bool × List Ck × List (List D)) :=
  .ask r fun
  | some (.row own ks rows v) => (Q.need (pathOk p v ver)).bind fun _ => .ok (own, ksAt tt ks p, rowsAt rows p)
  | _ => .no
/-- a value that lies in cells as it stands -/
def solidQ (tt : Tt) : AV → Q Unit
  | .int _ _ => .ok ()
  | .bool _ => .ok ()
  | .str _ => .ok ()
  | .nil => .ok ()
  | .ag _ => .ok ()
  | .fn _ _ => .ok ()
  | .fd _ _ => .ok ()
  | .slw r p ver => (askRows tt r p ver).bind fun _ => .ok ()
  | .sl r p _ _ ver => (askRows tt r p ver).bind fun _ => .ok ()
  | _ => .no
/-- a value of one cell -/
def cellQ (tt : Tt) : AV → Q Unit
  | .ag _ => .no
  | v => solidQ tt v
def cellsQ (tt : Tt) : List AV → Q Unit
  | [] => .ok ()
  | v :: l => (cellQ tt v).bind fun _ => cellsQ tt l
def solids (tt : Tt) : List AV → Q Unit
  | [] => .ok ()
  | v :: l => (solidQ tt v).bind fun _ => solids tt l
def cellAV (r : Nat) (p : Path) (ver : Nat) (k : Ck) (x : D) : AV :=
  match k with
  | .int k => .int k x.i
  | .bool => .bool x.b
  | .str => .str x.s
  | .sl _ => .slw r p ver
  | _ => .undef
def cellsAV (r : Nat) (p : Path) (i ver : Nat) (ks : List Ck) (el : List D) : Nat → Nat → List AV
  | 0, _ => []
  | n + 1, c => cellAV r (p ++ [(i, c)]) ver (nth Ck.bad ks c) (nth .z el c) :: cellsAV r p i ver ks el n (c + 1)

/-! values out of slots as data: borrowed; handed over -/
def content0 (tt : Tt) (k : Ck) (v : AV) : Q D :=
  match k, v with
  | .int k, .int k' n => (Q.need (decide (k = k'))).bind fun _ => .ok (D.int n)
  | .bool, .bool b => .ok (D.bool b)
  | .str, .str s => .ok (D.str s)
  | .sl _, .nil => .ok (D.rows [])
  | .sl e, .slw r p ver => (askRows tt r p ver).bind fun x => (Q.need (Ck.sames x.2.1 (tt.at e).ks)).bind fun _ => .ok (D.rows x.2.2)
  | .sl e, .sl r p off len ver => (askRows tt r p ver).bind fun x => (Q.need (Ck.sames x.2.1 (tt.at e).ks)).bind fun _ => .ok (D.rows ((x.2.2.drop off).take len))
  | _, _ => .no
def contents (tt : Tt) : List Ck → List AV → Q (List D)
  | [], [] => .ok []
  | k :: ks, v :: l => (content0 tt k v).bind fun x => (contents tt ks l).bind fun xs => .ok (x :: xs)
  | _, _ => .no
def pointee (tt : Tt) (e : TypeId) : AV → Q (List D)
  | .ptr r [] 0 0 _ => .ask r fun
    | some (.var _ cs) => contents tt (tt.at e).ks cs
    | _ => .no
  | _ => .no
def pointees (tt : Tt) : List TypeId → List AV → Q (List (List D))
  | [], [] => .ok []
  | e :: es, v :: l => (pointee tt e v).bind fun x => (pointees tt es l).bind fun xs => .ok (x :: xs)
  | _, _ => .no
/-- closures: type, and the types of the captured variables -/
abbrev Cl := List (Nat × (TypeId × List TypeId))
structure Rt where
  agg : Bool
  ks : List Ck
def content (tt : Tt) (cl : Cl) (rt : Rt) (v : AV) : Q D :=
  bif rt.agg then match v with
    | .ag cs => (contents tt rt.ks cs).bind fun ds => .ok (D.st ds)
    | _ => .no
  else match nth Ck.bad rt.ks 0 with
    | .ptr e => (pointee tt e v).bind fun ds => .ok (D.st ds)
    | .fn t => match v with
      | .fn f caps => match find cl f with
        | some (t', es) => (Q.need (Nat.beq t t')).bind fun _ => (pointees tt es caps).bind fun l => .ok (.mk (f : Int) false ⟨#[]⟩ l)
        | none => .no
      | .fd t' x => (Q.need (Nat.beq t t')).bind fun _ => .ok x
      | _ => .no
    | k => content0 tt k v
/-- what is handed over: its row dies -/
def absorb (tt : Tt) (k : Ck) (v : AV) : Q (D × List (Nat × Root)) :=
  match k, v with
  | .int k, .int k' n => (Q.need (decide (k = k'))).bind fun _ => .ok (D.int n, [])
  | .bool, .bool b => .ok (D.bool b, [])
  | .str, .str s => .ok (D.str s, [])
  | .sl _, .nil => .ok (D.rows [], [])
  | .sl e, .slw q [] _ => .ask q fun
    | some (.row true ks rows _) => (Q.need (Ck.sames ks (tt.at e).ks)).bind fun _ => .ok (D.rows rows, [(q, .dead)])
    | _ => .no
  | .sl e, .sl q [] off len _ => .ask q fun
    | some (.row true ks rows _) => (Q.need (Ck.sames ks (tt.at e).ks)).bind fun _ => .ok (D.rows ((rows.drop off).take len), [(q, .dead)])
    | _ => .no
  | _, _ => .no
def absorbs (tt : Tt) : List Ck → List AV → Q (List D × List (Nat × Root))
  | [], [] => .ok ([], [])
  | k :: ks, v :: vs => (absorb tt k v).bind fun x => (absorbs tt ks vs).bind fun y => .ok (x.1 :: y.1, x.2 ++ y.2)
  | _, _ => .no
def keysDistinct : List (Nat × Root) → Bool
  | [] => true
  | (k, _) :: l => (l.all fun y => !Nat.beq y.1 k) && keysDistinct l
def AV.cells : AV → List AV
  | .ag cs => cs
  | v => [v]
def zeroAV : Ck → AV
  | .int k => .int k 0
  | .bool => .bool false
  | .str => .str ⟨#[]⟩
  | .sl _ => .nil
  | _ => .undef
def zeroD : Ck → D
  | _ => D.z

/-! calls -/
inductive Pm where
  | val | own | io | iop | nilp | ioa
  deriving Inhabited
structure Sig where
  ms : List Pm
  ps : List Rt
  res : List Rt
  f : List D → Option (List D)

/-- what comes out of a call: a value and its rows -/
def resCell (tt : Tt) (own : Bool) (id : Nat) (k : Ck) (x : D) : AV × List (Nat × Root) :=
  match k with
  | .int k => (.int k x.i, [])
  | .bool => (.bool x.b, [])
  | .str => (.str x.s, [])
  | .sl e => (.slw id [] 0, [(id, .row own (tt.at e).ks x.r 0)])
  | _ => (.undef, [])
def resCells (tt : Tt) (own : Bool) : Nat → List Ck → List D → List AV × List (Nat × Root)
  | _, [], _ => ([], [])
  | id, k :: ks, ds =>
    let x := resCell tt own id k (nth D.z ds 0)
    let y := resCells tt own (id + 1) ks (ds.drop 1)
    (x.1 :: y.1, x.2 ++ y.2)
def resAV (tt : Tt) (own : Bool) (id : Nat) (rt : Rt) (x : D) : AV × List (Nat × Root) :=
  bif rt.agg then let y := resCells tt own id rt.ks x.cs; (.ag y.1, y.2)
  else resCell tt own id (nth Ck.bad rt.ks 0) x
def resAVs (tt : Tt) : Nat → List Rt → List D → List AV × List (Nat × Root)
  | _, [], _ => ([], [])
  | id, rt :: l, ds =>
    let x := resAV tt true id rt (nth D.z ds 0)
    let y := resAVs tt (id + 32) l (ds.drop 1)
    (x.1 :: y.1, x.2 ++ y.2)

/-- the roots that a borrowed argument looks at -/
def men : AV → List Nat
  | .slw r _ _ => [r]
  | .sl r _ _ _ _ => [r]
  | _ => []
def mens : List AV → List Nat
  | [] => []
  | v :: l => men v ++ mens l
def readPtr : AV → Q (List Nat)
  | .ptr r [] 0 0 _ => .ask r fun
    | some (.var _ cs) => .ok (r :: mens cs)
    | _ => .no
  | _ => .no
def readPtrs : List AV → Q (List Nat)
  | [] => .ok []
  | v :: l => (readPtr v).bind fun x => (readPtrs l).bind fun y => .ok (x ++ y)
def readsQ : AV → Q (List Nat)
  | .ag cs => .ok (mens cs)
  | .ptr r p i c ver => readPtr (.ptr r p i c ver)
  | .fn _ caps => readPtrs caps
  | v => .ok (men v)
def readsAll : List Pm → List AV → Q (List Nat)
  | .val :: ms, v :: vs => (readsQ v).bind fun x => (readsAll ms vs).bind fun y => .ok (x ++ y)
  | _ :: ms, _ :: vs => readsAll ms vs
  | _, _ => .ok []
def natIn (r : Nat) (l : List Nat) : Bool := l.any (Nat.beq r)
/-- cells of a struct that is lent for writing -/
def lend1 (tt : Tt) : Ck → AV → Q D
  | .sl _, .nil => .ok (D.rows [])
  | .sl e, .slw r p ver => (askRows tt r p ver).bind fun x => (Q.need (x.1 && Ck.sames x.2.1 (tt.at e).ks)).bind fun _ => .ok (D.rows x.2.2)
  | .int k, .int k' n => (Q.need (decide (k = k'))).bind fun _ => .ok (D.int n)
  | .bool, .bool b => .ok (D.bool b)
  | .str, .str s => .ok (D.str s)
  | _, _ => .no
def lends (tt : Tt) : List Ck → List AV → Q (List D)
  | [], [] => .ok []
  | k :: ks, v :: vs => (lend1 tt k v).bind fun x => (lends tt ks vs).bind fun y => .ok (x :: y)
  | _, _ => .no
def back1 : AV → D → Q (List (Nat × Root))
  | .slw r p ver, d => .ask r fun
    | some (.row own ks rows v) => (Q.need (pathOk p v ver)).bind fun _ => .ok [(r, .row own ks (setRows rows p d.r) (v + 1))]
    | _ => .no
  | _, _ => .ok []
def backC : List AV → List D → Q (List (Nat × Root))
  | [], _ => .ok []
  | v :: vs, ds => (back1 v (nth D.z ds 0)).bind fun x => (backC vs (ds.drop 1)).bind fun y => .ok (x ++ y)
/-- arguments: the data, what dies, and what is done with the data that come back -/
def argD (tt : Tt) (cl : Cl) (m : Pm) (rt : Rt) (v : AV) : Q (D × List (Nat × Root)) :=
  match m with
  | .val => (content tt cl rt v).bind fun x => .ok (x, [])
  | .own => absorb tt (nth Ck.bad rt.ks 0) v
  | .nilp => match v with | .nil => .ok (D.rows [], []) | _ => .no
  | .ioa => match v, rt.agg with | .ag cs, true => (lends tt rt.ks cs).bind fun x => .ok (D.st x, []) | _, _ => .no
  | .io => match v, nth Ck.bad rt.ks 0 with
    | .nil, .sl _ => .ok (D.rows [], [])
    | .slw r p ver, .sl e => (askRows tt r p ver).bind fun x => (Q.need (x.1 && Ck.sames x.2.1 (tt.at e).ks)).bind fun _ => .ok (D.rows x.2.2, [])
    | _, _ => .no
  | .iop => match v, nth Ck.bad rt.ks 0 with
    | .ptr r [] 0 0 _, .ptr e => .ask r fun
      | some (.var true cs) => (absorbs tt (tt.at e).ks cs).bind fun x => .ok (D.st x.1, x.2)
      | _ => .no
    | _, _ => .no
def argDs (tt : Tt) (cl : Cl) : List Pm → List Rt → List AV → Q (List D × List (Nat × Root))
  | [], [], [] => .ok ([], [])
  | m :: ms, rt :: rts, v :: vs => (argD tt cl m rt v).bind fun x => (argDs tt cl ms rts vs).bind fun y => .ok (x.1 :: y.1, x.2 ++ y.2)
  | _, _, _ => .no
/-- what comes back into arguments -/
def backs (tt : Tt) : Nat → List Pm → List Rt → List AV → List D → Q (List (Nat × Root) × List (Nat × Root))
  | _, [], [], [], _ => .ok ([], [])
  | id, .io :: ms, _ :: rts, .slw r p ver :: vs, ds => .ask r fun
    | some (.row own ks rows v) => (Q.need (pathOk p v ver)).bind fun _ =>
      (backs tt (id + 32) ms rts vs (ds.drop 1)).bind fun y => .ok ((r, .row own ks (setRows rows p (nth D.z ds 0).r) (v + 1)) :: y.1, y.2)
    | _ => .no
  | id, .io :: ms, _ :: rts, .nil :: vs, ds => backs tt (id + 32) ms rts vs (ds.drop 1)
  | id, .ioa :: ms, _ :: rts, .ag cs :: vs, ds => (backC cs (nth D.z ds 0).cs).bind fun x => (backs tt (id + 32) ms rts vs (ds.drop 1)).bind fun y => .ok (x ++ y.1, y.2)
  | id, .iop :: ms, rt :: rts, .ptr r [] 0 0 _ :: vs, ds => match nth Ck.bad rt.ks 0 with
    | .ptr e =>
      let x := resCells tt true id (tt.at e).ks (nth D.z ds 0).cs
      (backs tt (id + 32) ms rts vs (ds.drop 1)).bind fun y => .ok ((r, .var true x.1) :: y.1, x.2 ++ y.2)
    | _ => .no
  | id, _ :: ms, _ :: rts, _ :: vs, ds => backs tt id ms rts vs ds
  | _, _, _, _, _ => .no

structure Ctx where
  tt : Tt
  cl : Cl
  Γ : List (Nat × Sig)
  /-- function values that came in: type, number, arguments with what was captured -/
  G : Int → List D → Option (List D)

def tupAV (vs : List AV) : AV := match vs with | [v] => v | vs => .tup vs
/-- what is lent for reading is none of what is handed over -/
def apartQ (ms : List Pm) (vs : List AV) (ks : List (Nat × Root)) : Q Unit :=
  match ks with
  | [] => .ok ()
  | ks => (readsAll ms vs).bind fun rs => Q.need (rs.all fun r => !natIn r (ks.map fun y => y.1))
def callSig (cx : Ctx) (d : Nat) (s : Sig) (vs : List AV) : Q Eff :=
  (argDs cx.tt cx.cl s.ms s.ps vs).bind fun x =>
  .call (s.f x.1) fun rs =>
  let y := resAVs cx.tt (d * 256) s.res rs
  (backs cx.tt (d * 256 + 128) s.ms s.ps vs (rs.drop s.res.length)).bind fun z =>
  (apartQ s.ms vs (x.2 ++ z.1)).bind fun _ =>
  (Q.freshes (y.2 ++ z.2)).bind fun _ =>
  (Q.need (keysDistinct (x.2 ++ z.1 ++ (y.2 ++ z.2)))).bind fun _ =>
  .ok ⟨tupAV y.1, x.2 ++ z.1 ++ (y.2 ++ z.2)⟩


/-- a call of a function value that came in -/
def callFd (cx : Ctx) (d : Nat) (ps rs : List Rt) (x : D) (vs : List AV) : Q Eff :=
  (argDs cx.tt cx.cl (ps.map fun _ => .val) ps vs).bind fun a =>
  .call (cx.G x.i (a.1 ++ x.r.map D.st)) fun ds =>
  let y := resAVs cx.tt (d * 256) rs ds
  (Q.freshes y.2).bind fun _ =>
  (Q.need (keysDistinct y.2)).bind fun _ =>
  .ok ⟨tupAV y.1, y.2⟩

/-! one operation -/
def wr (k : IntKind) (n : Int) : Int := k.wrap n
def intOp (op : BinOp) (k : IntKind) (x y : Int) : Q AV :=
  match op with
  | .add => .ok (.int k (k.wrap (x + y)))
  | .sub => .ok (.int k (k.wrap (x - y)))
  | .mul => .ok (.int k (k.wrap (x * y)))
  | .quo => .test (!decide (y = 0)) (.ok (.int k (k.wrap (x.tdiv y))))
  | .rem => .test (!decide (y = 0)) (.ok (.int k (x.tmod y)))
  | .and => .ok (.int k (k.wrap ((BitVec.ofInt k.bits x &&& BitVec.ofInt k.bits y).toNat : Int)))
  | .or => .ok (.int k (k.wrap ((BitVec.ofInt k.bits x ||| BitVec.ofInt k.bits y).toNat : Int)))
  | .xor => .ok (.int k (k.wrap ((BitVec.ofInt k.bits x ^^^ BitVec.ofInt k.bits y).toNat : Int)))
  | .eql => .ok (.bool (x == y))
  | .neq => .ok (.bool (x != y))
  | .lss => .ok (.bool (decide (x < y)))
  | .leq => .ok (.bool (decide (x ≤ y)))
  | .gtr => .ok (.bool (decide (x > y)))
  | .geq => .ok (.bool (decide (x ≥ y)))
  | _ => .no
def strOp (op : BinOp) (x y : ByteArray) : Q AV :=
  match op with
  | .add => .test (decide (x.size + y.size ≤ 4294967296)) (.ok (.str (x ++ y)))
  | .eql => .ok (.bool (x.toList == y.toList))
  | .neq => .ok (.bool (!(x.toList == y.toList)))
  | _ => .no
/-- two values of one type, cell by cell -/
def eqCell : Ck → AV → AV → Option Bool
  | .int j, .int k x, .int k' y => bif decide (k = j) && decide (k' = j) then some (x == y) else none
  | .bool, .bool x, .bool y => some (x == y)
  | _, _, _ => none
def eqCells : List Ck → List AV → List AV → Option Bool
  | [], [], [] => some true
  | k :: ks, x :: l, y :: m => match eqCell k x y, eqCells ks l m with | some a, some b => some (a && b) | _, _ => none
  | _, _, _ => none
/-- a type whose values are compared cell by cell, in order -/
def eqFs (tt : Tt) (f : TypeId → Bool) : List (Nat × TypeId) → Nat → List Ck → Bool
  | [], _, ks => ks.isEmpty
  | (off, ft) :: l, cur, ks => Nat.beq off cur && tt.has ft && f ft && Ck.sames (ks.take (tt.at ft).ks.length) (tt.at ft).ks && eqFs tt f l (cur + (tt.at ft).ks.length) (ks.drop (tt.at ft).ks.length)
def eqTy (tt : Tt) : Nat → TypeId → Bool
  | 0, _ => false
  | n + 1, t => match (tt.at t).d with
    | .prim => true
    | .struct fs => eqFs tt (eqTy tt n) fs 0 (tt.at t).ks
    | _ => false
def isBool (tt : Tt) (t : TypeId) : Bool := match (tt.at t).d, (tt.at t).ks with | .prim, [.bool] => true | _, _ => false
def binQ (tt : Tt) (op : BinOp) (t : TypeId) (x y : AV) : Q AV :=
  match x, y with
  | .int k a, .int k' b => match op with
    | .shl => .test (decide (0 ≤ b)) (.ok (.int k (k.wrap (a * 2 ^ (min b.toNat k.bits)))))
    | .shr => .test (decide (0 ≤ b)) (.ok (.int k (a.fdiv (2 ^ (min b.toNat k.bits)))))
    | _ => (Q.need (decide (k = k'))).bind fun _ => intOp op k a b
  | .str a, .str b => strOp op a b
  | .bool a, .bool b => match op with
    | .eql => (Q.need (isBool tt t)).bind fun _ => .ok (.bool (a == b))
    | .neq => (Q.need (isBool tt t)).bind fun _ => .ok (.bool (!(a == b)))
    | _ => .no
  | .ag cs, .ag ds => (Q.need (tt.has t && eqTy tt 8 t && (tt.at t).agg)).bind fun _ => match op, eqCells (tt.at t).ks cs ds with
    | .eql, some b => .ok (.bool b)
    | .neq, some b => .ok (.bool (!b))
    | _, _ => .no
  | _, _ => .no
def pickQ (c a b : AV) : Q AV :=
  match c with
  | .bool c => match a, b with
    | .int k x, .int k' y => (Q.need (decide (k = k'))).bind fun _ => .ok (.int k (bif c then x else y))
    | .bool x, .bool y => .ok (.bool (bif c then x else y))
    | .str x, .str y => .ok (.str (bif c then x else y))
    | x, .un => .test c (.ok x)
    | .un, y => .test (!c) (.ok y)
    | _, _ => .no
  | _ => .no
def ints (k : IntKind) : List AV → Option (List D)
  | [] => some []
  | .int k' x :: l => bif decide (k' = k) then (match ints k l with | some ds => some (D.int x :: ds) | none => none) else none
  | _ => none
def bools : List AV → Option (List D)
  | [] => some []
  | .bool x :: l => match bools l with | some ds => some (D.bool x :: ds) | none => none
  | _ => none
def strs : List AV → Option (List D)
  | [] => some []
  | .str x :: l => match strs l with | some ds => some (D.str x :: ds) | none => none
  | _ => none
/-- element i of cells that are all alike -/
def pickCell (cs : List AV) (i : Nat) : Q AV :=
  match cs with
  | .int k _ :: _ => match ints k cs with
    | some ds => .ok (.int k (nth D.z ds i).i)
    | none => .no
  | .bool _ :: _ => match bools cs with
    | some ds => .ok (.bool (nth D.z ds i).b)
    | none => .no
  | .str _ :: _ => match strs cs with
    | some ds => .ok (.str (nth D.z ds i).s)
    | none => .no
  | _ => .no
/-- stores at element i -/
def putCell : List AV → Nat → Nat → AV → Option (List AV)
  | [], _, _, _ => some []
  | x :: l, j, i, v => match x, v, putCell l (j + 1) i v with
    | .int k a, .int k' b, some l => bif decide (k = k') then some (.int k (bif Nat.beq i j then b else a) :: l) else none
    | .bool a, .bool b, some l => some (.bool (bif Nat.beq i j then b else a) :: l)
    | _, _, _ => none
def splice {α : Type} (cs : List α) (c : Nat) (vs : List α) : List α := cs.take c ++ vs ++ cs.drop (c + vs.length)
def Rt.of (tt : Tt) (t : TypeId) : Rt := ⟨(tt.at t).agg, (tt.at t).ks⟩
def mkAV (agg : Bool) (cs : List AV) : Q AV := bif agg then .ok (.ag cs) else match cs with | [v] => .ok v | _ => .no
def loadQ (tt : Tt) (t : TypeId) (x : AV) : Q AV :=
  let n := (tt.at t).ks.length
  (Q.need (tt.has t)).bind fun _ =>
  match x with
  | .ptr r p i c ver => .ask r fun
    | some (.var _ cs) => match p, i with
      | [], 0 => (Q.need (Nat.ble (c + n) cs.length)).bind fun _ => mkAV (tt.at t).agg ((cs.drop c).take n)
      | _, _ => .no
    | some (.row _ ks rows v) =>
      (Q.need (pathOk p v ver && Ck.sames (((ksAt tt ks p).drop c).take n) (tt.at t).ks)).bind fun _ =>
      mkAV (tt.at t).agg (cellsAV r p i v (ksAt tt ks p) (nth [] (rowsAt rows p) i) n c)
    | _ => .no
  | .ptrA r i n' c => (Q.need (!(tt.at t).agg)).bind fun _ => .ask r fun
    | some (.var _ cs) => (Q.need (Nat.ble (c + n') cs.length)).bind fun _ => pickCell ((cs.drop c).take n') i
    | _ => .no
  | _ => .no
def setCells (rows : List (List D)) (i c : Nat) (ds : List D) : List (List D) := upd rows i (splice (nth [] rows i) c ds)
def storeQ (tt : Tt) (t : TypeId) (x v : AV) : Q (List (Nat × Root)) :=
  let n := (tt.at t).ks.length
  (solidQ tt v).bind fun _ => (Q.need (tt.has t && Nat.beq v.cells.length n && Nat.ble 1 n)).bind fun _ =>
  match x with
  | .ptr r p i c ver => .ask r fun
    | some (.var true cs) => match p, i with
      | [], 0 => (cellsQ tt v.cells).bind fun _ => (Q.need (Nat.ble (c + n) cs.length)).bind fun _ => .ok [(r, .var true (splice cs c v.cells))]
      | _, _ => .no
    | some (.row true ks rows rv) =>
      (Q.need (pathOk p rv ver && Ck.sames (((ksAt tt ks p).drop c).take n) (tt.at t).ks)).bind fun _ =>
      (absorbs tt (tt.at t).ks v.cells).bind fun y =>
      (Q.need (keysDistinct ((r, .dead) :: y.2))).bind fun _ =>
      .ok ((r, .row true ks (setRows rows p (setCells (rowsAt rows p) i c y.1)) (rv + 1)) :: y.2)
    | _ => .no
  | .ptrA r i n' c => .ask r fun
    | some (.var true cs) => (cellsQ tt v.cells).bind fun _ => (Q.need (Nat.ble (c + n') cs.length && Nat.beq n 1)).bind fun _ =>
      match putCell ((cs.drop c).take n') 0 i (nth .undef v.cells 0) with
      | some ds => .ok [(r, .var true (splice cs c ds))]
      | none => .no
    | _ => .no
  | _ => .no
def isStr (tt : Tt) (t : TypeId) : Bool := match (tt.at t).d, (tt.at t).ks with | .prim, [.str] => true | _, _ => false
def slElem (tt : Tt) (t : TypeId) : Q TypeId := match (tt.at t).d with | .sl e => (Q.need (tt.has e)).bind fun _ => .ok e | _ => .no
def isSl (tt : Tt) (t : TypeId) : Bool := match (tt.at t).d with | .sl _ => true | _ => false
def lenQ (tt : Tt) (t : TypeId) (x : AV) : Q Nat :=
  match x with
  | .nil => (Q.need (isSl tt t)).bind fun _ => .ok 0
  | .slw r p ver => (Q.need (isSl tt t)).bind fun _ => (askRows tt r p ver).bind fun x => .ok x.2.2.length
  | .sl r p _ len ver => (Q.need (isSl tt t)).bind fun _ => (askRows tt r p ver).bind fun _ => .ok len
  | .str s => (Q.need (isStr tt t)).bind fun _ => .ok s.size
  | .ag _ => match (tt.at t).d with | .arr n _ => .ok n | _ => .no
  | _ => .no
/-- the pointer's root lives -/
def aliveQ (r : Nat) (p : Path) (i ver : Nat) : Q Unit :=
  .ask r fun
  | some (.var _ _) => match p, i with | [], 0 => .ok () | _, _ => .no
  | some (.row _ _ _ v) => Q.need (pathOk p v ver)
  | _ => .no
def indexAddrQ (tt : Tt) (t : TypeId) (x ix : AV) : Q AV :=
  match ix with
  | .int _ i => match (tt.at t).d with
    | .sl e => (Q.need (tt.has e)).bind fun _ => match x with
      | .slw r p ver => (askRows tt r p ver).bind fun y => (Q.need (Nat.beq y.2.1.length (tt.at e).ks.length)).bind fun _ => .test (decide (0 ≤ i) && decide (i < (y.2.2.length : Int))) (.ok (.ptr r p i.toNat 0 ver))
      | .sl r p off len ver => (askRows tt r p ver).bind fun y => (Q.need (Nat.beq y.2.1.length (tt.at e).ks.length)).bind fun _ =>
        .test (decide (0 ≤ i) && decide (i < (len : Int))) (.ok (.ptr r p (i.toNat + off) 0 ver))
      | _ => .no
    | .arr n e => match x with
      | .ptr r [] 0 c ver => (aliveQ r [] 0 ver).bind fun _ => (Q.need (tt.has e && Nat.beq (tt.at e).ks.length 1)).bind fun _ => .test (decide (0 ≤ i) && decide (i < (n : Int))) (.ok (.ptrA r i.toNat n c))
      | _ => .no
    | _ => .no
  | _ => .no
def indexQ (tt : Tt) (t : TypeId) (x ix : AV) : Q AV :=
  match ix with
  | .int _ i => match x with
    | .ag cs => match (tt.at t).d with
      | .arr n e => (Q.need (tt.has e && Nat.beq (tt.at e).ks.length 1 && !(tt.at e).agg && Nat.beq cs.length n)).bind fun _ =>
        .test (decide (0 ≤ i) && decide (i < (n : Int))) (pickCell cs i.toNat)
      | _ => .no
    | .str s => (Q.need (isStr tt t)).bind fun _ => .test (decide (0 ≤ i) && decide (i < (s.size : Int))) (.ok (.int .u8 ((nth 0 s.data.toList i.toNat).toNat : Int)))
    | _ => .no
  | _ => .no
def boundQ (v : Option AV) (d : Int) : Q Int :=
  match v with
  | none => .ok d
  | some (.int _ i) => .ok i
  | _ => .no
def sliceQ (tt : Tt) (t : TypeId) (x : AV) (lo hi mx : Option AV) : Q AV :=
  match mx with
  | some m => match x, lo, hi, m with     -- s[:0:0] alone
    | .slw r p ver, none, some (.int _ 0), .int _ 0 => (slElem tt t).bind fun _ => (askRows tt r p ver).bind fun _ => .ok .nil
    | .nil, none, some (.int _ 0), .int _ 0 => (slElem tt t).bind fun _ => .ok .nil
    | _, _, _, _ => .no
  | none => (boundQ lo 0).bind fun l =>
    match x with
    | .slw r p ver => (slElem tt t).bind fun e => (askRows tt r p ver).bind fun y => (Q.need (Nat.beq y.2.1.length (tt.at e).ks.length)).bind fun _ =>
      (boundQ hi (y.2.2.length : Int)).bind fun h =>
      .test (decide (0 ≤ l) && decide (l ≤ h) && decide (h ≤ (y.2.2.length : Int))) (.ok (.sl r p l.toNat (h.toNat - l.toNat) ver))
    | .sl r p off len ver => (slElem tt t).bind fun e => (askRows tt r p ver).bind fun y => (Q.need (Nat.beq y.2.1.length (tt.at e).ks.length)).bind fun _ =>
      (boundQ hi (len : Int)).bind fun h =>
      .test (decide (0 ≤ l) && decide (l ≤ h) && decide (h ≤ (len : Int))) (.ok (.sl r p (l.toNat + off) (h.toNat - l.toNat) ver))
    | .str s => (Q.need (isStr tt t)).bind fun _ => (boundQ hi (s.size : Int)).bind fun h =>
      .test (decide (0 ≤ l) && decide (l ≤ h) && decide (h ≤ (s.size : Int))) (.ok (.str (s.extract l.toNat h.toNat)))
    | .nil => (slElem tt t).bind fun _ => (boundQ hi 0).bind fun h => .test (decide (l = 0) && decide (h = 0)) (.ok .nil)
    | _ => .no
/-- the rows of an own slice, which dies; nil has none -/
def ownRows (tt : Tt) (e : TypeId) (x : AV) : Q (List (List D) × List (Nat × Root)) :=
  (absorb tt (.sl e) x).bind fun y => .ok (y.1.r, y.2)
def flat : List Ck → Bool
  | [] => true
  | .int _ :: l => flat l
  | .bool :: l => flat l
  | .str :: l => flat l
  | _ => false
def plain : List Ck → Bool
  | [] => true
  | .int _ :: l => plain l
  | .bool :: l => plain l
  | .str :: l => plain l
  | .sl _ :: l => plain l
  | _ => false
def appendQ (cx : Ctx) (d : Nat) (t : TypeId) (s x : AV) : Q Eff :=
  match (cx.tt.at t).d with
  | .sl e =>
    (Q.need (cx.tt.has e && Nat.ble (cx.tt.at e).bytes 4096)).bind fun _ =>
    (ownRows cx.tt e s).bind fun a =>
    (bif flat (cx.tt.at e).ks then (content0 cx.tt (.sl e) x).bind fun y => .ok (y.r, []) else ownRows cx.tt e x).bind fun b =>
    (Q.need (keysDistinct (a.2 ++ b.2))).bind fun _ =>
    (Q.fresh (d * 256)).bind fun _ =>
    .test (decide (a.1.length + b.1.length ≤ 4294967296))
    (.ok ⟨.slw (d * 256) [] 0, a.2 ++ b.2 ++ [(d * 256, .row true (cx.tt.at e).ks (a.1 ++ b.1) 0)]⟩)
  | _ => .no
/-- handed over where it is the call's own, else borrowed -/
def absorbE (tt : Tt) (k : Ck) (v : AV) : Q (Bool × D × List (Nat × Root)) :=
  match k, v with
  | .sl e, .slw q p ver => .ask q fun
    | some (.row own ks rows v) => bif own then (absorb tt k (.slw q p ver)).bind fun x => .ok (true, x)
      else (Q.need (pathOk p v ver && Ck.sames (ksAt tt ks p) (tt.at e).ks)).bind fun _ => .ok (false, D.rows (rowsAt rows p), [])
    | _ => .no
  | .sl e, .sl q p off len ver => .ask q fun
    | some (.row own ks rows v) => bif own then (absorb tt k (.sl q p off len ver)).bind fun x => .ok (true, x)
      else (Q.need (pathOk p v ver && Ck.sames (ksAt tt ks p) (tt.at e).ks)).bind fun _ => .ok (false, D.rows (((rowsAt rows p).drop off).take len), [])
    | _ => .no
  | k, v => (absorb tt k v).bind fun x => .ok (true, x)
def absorbsE (tt : Tt) : List Ck → List AV → Q (Bool × List D × List (Nat × Root))
  | [], [] => .ok (true, [], [])
  | k :: ks, v :: vs => (absorbE tt k v).bind fun x => (absorbsE tt ks vs).bind fun y => .ok (x.1 && y.1, x.2.1 :: y.2.1, x.2.2 ++ y.2.2)
  | _, _ => .no
/-- the elements of a literal, one behind the other -/
def litRows (tt : Tt) (ks : List Ck) : List (Nat × AV) → Nat → Q (Bool × List (List D) × List (Nat × Root))
  | [], _ => .ok (true, [], [])
  | (i, v) :: l, j => (Q.need (Nat.beq i j)).bind fun _ => (solidQ tt v).bind fun _ => (absorbsE tt ks v.cells).bind fun a => (litRows tt ks l (j + 1)).bind fun b =>
    .ok (a.1 && b.1, a.2.1 :: b.2.1, a.2.2 ++ b.2.2)
def fieldOf (tt : Tt) (t : TypeId) (f : Nat) : Option (Nat × TypeId) :=
  match (tt.at t).d with
  | .struct fs => (fs.drop f).head?
  | _ => none
def fieldsHas (tt : Tt) (t : TypeId) : Bool :=
  match (tt.at t).d with
  | .struct fs => fs.all fun x => tt.has x.2
  | .arr _ e => tt.has e
  | _ => false
def placesOf (tt : Tt) (t : TypeId) (f : Nat) : Option (Nat × TypeId) :=
  match (tt.at t).d with
  | .struct fs => (fs.drop f).head?
  | .arr n e => bif Nat.ble (f + 1) n then some (f * (tt.at e).ks.length, e) else none
  | _ => none
def fillAV (tt : Tt) (t : TypeId) : List (Nat × AV) → List AV → Option (List AV)
  | [], cs => some cs
  | (f, v) :: l, cs => match placesOf tt t f with
    | some (off, ft) => bif tt.has ft && Nat.beq v.cells.length (tt.at ft).ks.length && Nat.ble (off + v.cells.length) cs.length then fillAV tt t l (splice cs off v.cells) else none
    | none => none
def partsOf (ev : Operand → AV) (ps : Array (Nat × Operand)) : List (Nat × AV) := ps.toList.map fun x => (x.1, ev x.2)
def convertQ (cx : Ctx) (src dst : TypeId) (x : AV) : Q Eff :=
  match x with
  | .int _ n => (Q.need (cx.tt.has src)).bind fun _ => match (cx.tt.at dst).d, (cx.tt.at dst).ks with
    | .prim, [.int k] => .ok ⟨.int k (k.wrap n), []⟩
    | _, _ => .no
  | .str s => (Q.need (cx.tt.has src && isStr cx.tt dst)).bind fun _ => .ok ⟨.str s, []⟩
  | _ => .no
def opt (d : Option Nat) : Q Nat := match d with | some n => .ok n | none => .no
def evs (ev : Operand → AV) (xs : Array Operand) : List AV := xs.toList.map ev
def minGo (isMax : Bool) (k : IntKind) : Int → List AV → Q AV
  | x, [] => .ok (.int k x)
  | x, .int k' y :: l => (Q.need (decide (k = k'))).bind fun _ => minGo isMax k (bif isMax then (if x < y then y else x) else (if y < x then y else x)) l
  | _, _ => .no
def minQ (isMax : Bool) : List AV → Q AV
  | .int k x :: l => minGo isMax k x l
  | _ => .no
/-- zeros behind nil: append(nil, make([]E, n)...) -/
def appendZ (cx : Ctx) (d : Nat) (t u : TypeId) (s x : AV) : Q Eff :=
  match (cx.tt.at t).d, (cx.tt.at u).d, (cx.tt.at u).ks, s, x with
  | .sl e, .prim, [.int .i64], .nil, .int .i64 n =>
    (Q.need (cx.tt.has e && Nat.ble (cx.tt.at e).bytes 4096 && plain (cx.tt.at e).ks && Nat.ble 1 (cx.tt.at e).ks.length)).bind fun _ =>
    (Q.fresh (d * 256)).bind fun _ =>
    .test (decide (0 ≤ n) && decide (n ≤ 4294967296))
    (.ok ⟨.slw (d * 256) [] 0, [(d * 256, .row true (cx.tt.at e).ks (List.replicate n.toNat ((cx.tt.at e).ks.map zeroD)) 0)]⟩)
  | _, _, _, _, _ => .no
def capQ : AV → Q Int
  | .nil => .ok 0
  | _ => .no
def callQ (cx : Ctx) (d : Option Nat) (c : Call) (ev : Operand → AV) : Q Eff :=
  match c.callee with
  | .builtin .len => match evs ev c.args, c.argTypes.toList with
    | [x], [t] => (lenQ cx.tt t x).bind fun n => .ok ⟨.int .i64 (n : Int), []⟩
    | _, _ => .no
  | .builtin .cap => match evs ev c.args, c.argTypes.toList with
    | [x], [t] => (Q.need (isSl cx.tt t)).bind fun _ => (capQ x).bind fun n => .ok ⟨.int .i64 n, []⟩
    | _, _ => .no
  | .builtin .append => match evs ev c.args, c.argTypes.toList with
    | [s, x], [t, u] => bif Nat.beq t u then (opt d).bind fun d => appendQ cx d t s x else (opt d).bind fun d => appendZ cx d t u s x
    | _, _ => .no
  | .builtin .min => (minQ false (evs ev c.args)).bind fun v => .ok ⟨v, []⟩
  | .builtin .max => (minQ true (evs ev c.args)).bind fun v => .ok ⟨v, []⟩
  | .builtin _ => .no
  | .invoke _ _ => .no
  | .value f => (opt d).bind fun d => match ev f with
    | .fn f caps => match find cx.Γ f with
      | some s => callSig cx d s (evs ev c.args ++ caps)
      | none => .no
    | .fd t x => match (cx.tt.at t).d with
      | .fn ps rs => callFd cx d (ps.map (Rt.of cx.tt)) (rs.map (Rt.of cx.tt)) x (evs ev c.args)
      | _ => .no
    | _ => .no
def unQ (op : UnOp) (x : AV) : Q AV :=
  match op, x with
  | .not, .bool b => .ok (.bool (!b))
  | .neg, .int k n => .ok (.int k (k.wrap (0 - n)))
  | _, _ => .no
def effOp (cx : Ctx) (d : Option Nat) (op : Op) (ev : Operand → AV) : Q Eff :=
  match op with
  | .move x => .ok ⟨ev x, []⟩
  | .assign x => .ok ⟨ev x, []⟩
  | .pick c a b => (pickQ (ev c) (ev a) (ev b)).bind fun v => .ok ⟨v, []⟩
  | .alloc t => (Q.need (cx.tt.has t)).bind fun _ => (opt d).bind fun d => (Q.fresh (d * 256)).bind fun _ => .ok ⟨.ptr (d * 256) [] 0 0 0, [(d * 256, .var true ((cx.tt.at t).ks.map zeroAV))]⟩
  | .box _ x => (solidQ cx.tt (ev x)).bind fun _ => (opt d).bind fun d => (Q.fresh (d * 256)).bind fun _ => .ok ⟨.ptr (d * 256) [] 0 0 0, [(d * 256, .var true (ev x).cells)]⟩
  | .build t ps => (solids cx.tt ((partsOf ev ps).map (·.2))).bind fun _ => (Q.need (fieldsHas cx.tt t)).bind fun _ => match (cx.tt.at t).agg, fillAV cx.tt t (partsOf ev ps) ((cx.tt.at t).ks.map zeroAV) with
    | true, some cs => .ok ⟨.ag cs, []⟩
    | _, _ => .no
  | .load t a => (loadQ cx.tt t (ev a)).bind fun v => .ok ⟨v, []⟩
  | .store t a x => (storeQ cx.tt t (ev a) (ev x)).bind fun u => .ok ⟨.undef, u⟩
  | .nilCheck x => match ev x with
    | .ptr r p i c ver => (aliveQ r p i ver).bind fun _ => .ok ⟨.ptr r p i c ver, []⟩
    | _ => .no
  | .binOp op t x y _ => (binQ cx.tt op t (ev x) (ev y)).bind fun v => .ok ⟨v, []⟩
  | .unOp op _ x => (unQ op (ev x)).bind fun v => .ok ⟨v, []⟩
  | .convert s t x => convertQ cx s t (ev x)
  | .makeFunc (.func f) first caps => (Q.need first.isEmpty).bind fun _ => .ok ⟨.fn f (evs ev caps), []⟩
  | .slice t x lo hi mx => (sliceQ cx.tt t (ev x) (lo.map ev) (hi.map ev) (mx.map ev)).bind fun v => .ok ⟨v, []⟩
  | .fieldAddr t x f => match ev x, fieldOf cx.tt t f with
    | .ptr r p i c ver, some (off, ft) => (aliveQ r p i ver).bind fun _ => (Q.need (cx.tt.has ft && Nat.ble 1 (cx.tt.at ft).ks.length)).bind fun _ => .ok ⟨.ptr r p i (c + off) ver, []⟩
    | _, _ => .no
  | .field t x f => match ev x, fieldOf cx.tt t f with
    | .ag cs, some (off, ft) => (Q.need (cx.tt.has ft && Nat.ble (off + (cx.tt.at ft).ks.length) cs.length)).bind fun _ =>
      (mkAV (cx.tt.at ft).agg ((cs.drop off).take (cx.tt.at ft).ks.length)).bind fun v => .ok ⟨v, []⟩
    | _, _ => .no
  | .indexAddr t x i => (indexAddrQ cx.tt t (ev x) (ev i)).bind fun v => .ok ⟨v, []⟩
  | .index t x i => (indexQ cx.tt t (ev x) (ev i)).bind fun v => .ok ⟨v, []⟩
  | .extract t i => match ev t with
    | .tup vs => (Q.need (Nat.ble (i + 1) vs.length)).bind fun _ => .ok ⟨nth .undef vs i, []⟩
    | _ => .no
  | .makeSlice t n c => match (cx.tt.at t).d, ev n, ev c with
    | .sl e, .int _ n, .int _ c => (Q.need (cx.tt.has e && Nat.ble (cx.tt.at e).bytes 4096 && plain (cx.tt.at e).ks && Nat.ble 1 (cx.tt.at e).ks.length)).bind fun _ => (opt d).bind fun d => (Q.fresh (d * 256)).bind fun _ =>
      .test (decide (0 ≤ n) && decide (n ≤ c) && decide (c ≤ 4294967296))
      (.ok ⟨.slw (d * 256) [] 0, [(d * 256, .row true (cx.tt.at e).ks (List.replicate n.toNat ((cx.tt.at e).ks.map zeroD)) 0)]⟩)
    | _, _, _ => .no
  | .buildSlice t n ps => match (cx.tt.at t).d with
    | .sl e => (Q.need (cx.tt.has e)).bind fun _ => (opt d).bind fun d => (Q.fresh (d * 256)).bind fun _ =>
      (Q.need (Nat.ble (n * (cx.tt.at e).ks.length) 16777216)).bind fun _ =>
      (Q.need (Nat.beq (partsOf ev ps).length n)).bind fun _ =>
      (litRows cx.tt (cx.tt.at e).ks (partsOf ev ps) 0).bind fun y =>
      (Q.need (keysDistinct y.2.2)).bind fun _ =>
      .ok ⟨.slw (d * 256) [] 0, y.2.2 ++ [(d * 256, .row y.1 (cx.tt.at e).ks y.2.1 0)]⟩
    | _ => .no
  | .call c => callQ cx d c ev
  | _ => .no

/-! a state's shape and its data -/
def pathD : Path → List D
  | [] => []
  | (i, _) :: p => D.int (i : Int) :: pathD p
def pathFill (d : List D) : Path → Nat → Path × Nat
  | [], j => ([], j)
  | (_, c) :: p, j => let x := pathFill d p (j + 1); (((arg d j).i.toNat, c) :: x.1, x.2)
mutual
def AV.data : AV → List D
  | .int _ n => [D.int n]
  | .bool b => [D.bool b]
  | .str s => [D.str s]
  | .slw _ p _ => pathD p
  | .sl _ p off len _ => pathD p ++ [D.int (off : Int), D.int (len : Int)]
  | .ptr _ p _ _ _ => pathD p
  | .ptrA _ i _ _ => [D.int (i : Int)]
  | .ag cs => AV.datas cs
  | .fn _ cs => AV.datas cs
  | .tup cs => AV.datas cs
  | .fd _ x => [x]
  | _ => []
def AV.datas : List AV → List D
  | [] => []
  | v :: l => v.data ++ AV.datas l
end
mutual
def AV.fill (d : List D) : AV → Nat → AV × Nat
  | .int k _, j => (.int k (arg d j).i, j + 1)
  | .bool _, j => (.bool (arg d j).b, j + 1)
  | .str _, j => (.str (arg d j).s, j + 1)
  | .slw r p ver, j => let x := pathFill d p j; (.slw r x.1 ver, x.2)
  | .sl r p _ _ ver, j => let x := pathFill d p j; (.sl r x.1 (arg d x.2).i.toNat (arg d (x.2 + 1)).i.toNat ver, x.2 + 2)
  | .ptr r p i c ver, j => let x := pathFill d p j; (.ptr r x.1 i c ver, x.2)
  | .ptrA r _ n c, j => (.ptrA r (arg d j).i.toNat n c, j + 1)
  | .ag cs, j => let x := AV.fills d cs j; (.ag x.1, x.2)
  | .fn f cs, j => let x := AV.fills d cs j; (.fn f x.1, x.2)
  | .tup cs, j => let x := AV.fills d cs j; (.tup x.1, x.2)
  | .fd t _, j => (.fd t (arg d j), j + 1)
  | v, j => (v, j)
def AV.fills (d : List D) : List AV → Nat → List AV × Nat
  | [], j => ([], j)
  | v :: l, j => let x := v.fill d j; let y := AV.fills d l x.2; (x.1 :: y.1, y.2)
end
def pathSame : Path → Path → Bool
  | [], [] => true
  | (_, c) :: p, (_, c') :: q => Nat.beq c c' && pathSame p q
  | _, _ => false
mutual
def AV.like : AV → AV → Bool
  | .undef, .undef => true
  | .un, .un => true
  | .nil, .nil => true
  | .int k _, .int k' _ => decide (k = k')
  | .bool _, .bool _ => true
  | .str _, .str _ => true
  | .slw r p v, .slw r' p' v' => Nat.beq r r' && pathSame p p' && Nat.beq v v'
  | .sl r p _ _ v, .sl r' p' _ _ v' => Nat.beq r r' && pathSame p p' && Nat.beq v v'
  | .ptr r p i c v, .ptr r' p' i' c' v' => Nat.beq r r' && pathSame p p' && Nat.beq i i' && Nat.beq c c' && Nat.beq v v'
  | .ptrA r _ n c, .ptrA r' _ n' c' => Nat.beq r r' && Nat.beq n n' && Nat.beq c c'
  | .ag cs, .ag ds => AV.likes cs ds
  | .fn f cs, .fn f' ds => Nat.beq f f' && AV.likes cs ds
  | .tup cs, .tup ds => AV.likes cs ds
  | .fd t _, .fd t' _ => Nat.beq t t'
  | _, _ => false
def AV.likes : List AV → List AV → Bool
  | [], [] => true
  | v :: l, u :: m => v.like u && AV.likes l m
  | _, _ => false
end
def Root.data : Root → List D
  | .var _ cs => AV.datas cs
  | .row _ _ rows _ => [D.rows rows]
  | .dead => []
def Root.fill (d : List D) : Root → Nat → Root × Nat
  | .var own cs, j => let x := AV.fills d cs j; (.var own x.1, x.2)
  | .row own ks _ ver, j => (.row own ks (arg d j).r ver, j + 1)
  | .dead, j => (.dead, j)
def beqB : Bool → Bool → Bool
  | true, true => true
  | false, false => true
  | _, _ => false
def Root.like : Root → Root → Bool
  | .var o cs, .var o' ds => beqB o o' && AV.likes cs ds
  | .row o ks _ v, .row o' ks' _ v' => beqB o o' && Ck.sames ks ks' && Nat.beq v v'
  | .dead, .dead => true
  | _, _ => false
def slotsData : List (Nat × AV) → List D
  | [] => []
  | (_, v) :: l => v.data ++ slotsData l
def rootsData : List (Nat × Root) → List D
  | [] => []
  | (_, v) :: l => v.data ++ rootsData l
def slotsFill (d : List D) : List (Nat × AV) → Nat → List (Nat × AV) × Nat
  | [], j => ([], j)
  | (k, v) :: l, j => let x := v.fill d j; let y := slotsFill d l x.2; ((k, x.1) :: y.1, y.2)
def rootsFill (d : List D) : List (Nat × Root) → Nat → List (Nat × Root) × Nat
  | [], j => ([], j)
  | (k, v) :: l, j => let x := v.fill d j; let y := rootsFill d l x.2; ((k, x.1) :: y.1, y.2)
def slotsLike : List (Nat × AV) → List (Nat × AV) → Bool
  | [], [] => true
  | (k, v) :: l, (k', u) :: m => Nat.beq k k' && v.like u && slotsLike l m
  | _, _ => false
def rootsLike : List (Nat × Root) → List (Nat × Root) → Bool
  | [], [] => true
  | (k, v) :: l, (k', u) :: m => Nat.beq k k' && v.like u && rootsLike l m
  | _, _ => false
def State.data (σ : State) : List D := slotsData σ.slots ++ rootsData σ.roots
def State.fill (σ : State) (d : List D) : State :=
  let x := slotsFill d σ.slots 0
  ⟨x.1, (rootsFill d σ.roots x.2).1⟩
def State.like (σ τ : State) : Bool := slotsLike σ.slots τ.slots && rootsLike σ.roots τ.roots

/-! forgetting: what isn't listed goes; the roots get names of their order -/
mutual
def AV.rts : AV → List Nat
  | .slw r _ _ => [r]
  | .sl r _ _ _ _ => [r]
  | .ptr r _ _ _ _ => [r]
  | .ptrA r _ _ _ => [r]
  | .ag cs => AV.rtss cs
  | .fn _ cs => AV.rtss cs
  | .tup cs => AV.rtss cs
  | _ => []
def AV.rtss : List AV → List Nat
  | [] => []
  | v :: l => v.rts ++ AV.rtss l
end
def dedup : List Nat → List Nat → List Nat
  | [], acc => acc.reverse
  | r :: l, acc => bif natIn r acc then dedup l acc else dedup l (r :: acc)
def idx (l : List Nat) (r : Nat) : Nat → Option Nat
  | j => match l with
    | [] => none
    | x :: l => bif Nat.beq x r then some j else idx l r (j + 1)
def base : Nat := 1000000
/-- a place inside a root that stands as it was when the address was taken -/
def verOk (σ : State) (r : Nat) (p : Path) (ver : Nat) : Bool :=
  match p with
  | [] => true
  | _ :: _ => match σ.root r with | some (.row _ _ _ rv) => Nat.beq rv ver | _ => false
mutual
def AV.ren (σ : State) (seen : List Nat) : AV → AV
  | .slw r p ver => match idx seen r base with | some j => bif verOk σ r p ver then .slw j p 0 else .undef | none => .undef
  | .sl r p off len ver => match idx seen r base with | some j => bif verOk σ r p ver then .sl j p off len 0 else .undef | none => .undef
  | .ptr r p i c ver => match idx seen r base with | some j => bif verOk σ r p ver then .ptr j p i c 0 else .undef | none => .undef
  | .ptrA r i n c => match idx seen r base with | some j => .ptrA j i n c | none => .undef
  | .ag cs => .ag (AV.rens σ seen cs)
  | .fn f cs => .fn f (AV.rens σ seen cs)
  | .tup cs => .tup (AV.rens σ seen cs)
  | v => v
def AV.rens (σ : State) (seen : List Nat) : List AV → List AV
  | [] => []
  | v :: l => v.ren σ seen :: AV.rens σ seen l
end
def Root.ren (σ : State) (seen : List Nat) : Root → Root
  | .var own cs => .var own (AV.rens σ seen cs)
  | .row own ks rows _ => .row own ks rows 0
  | .dead => .dead
def liveRoots (σ : State) (L : List Nat) : List Nat :=
  let a := L.flatMap fun k => (σ.slot k).rts
  let b := a.flatMap fun r => match σ.root r with | some (.var _ cs) => AV.rtss cs | _ => []
  dedup (a ++ b) []
def nameRoots (σ : State) (seen : List Nat) : List Nat → Nat → List (Nat × Root)
  | [], _ => []
  | r :: l, j => (j, match σ.root r with | some x => x.ren σ seen | none => .dead) :: nameRoots σ seen l (j + 1)
def State.prune (σ : State) (L : List Nat) : State :=
  let seen := liveRoots σ L
  ⟨L.map fun k => (k, (σ.slot k).ren σ seen), nameRoots σ seen seen base⟩

/-! other words for the same -/
inductive Fix where
  | nilS (k : Nat) (e : TypeId)
  | nilC (k c : Nat) (e : TypeId)
  | sl (k : Nat)
/-- a slice that is nil gets a root of its own; a whole slice is told as a part -/
def State.fix (tt : Tt) (σ : State) (id : Nat) : Fix → State
  | .nilS k e => bif Nat.ble k 499999 then (match σ.root id, σ.slot k with
    | none, .nil => ⟨(k, .slw id [] 0) :: σ.slots, (id, .row true (tt.at e).ks [] 0) :: σ.roots⟩
    | _, _ => σ) else σ
  | .nilC k c e => match σ.root id, σ.slot k with
    | none, .ptr r [] 0 0 _ => match σ.root r with
      | some (.var own cs) => match nth .undef cs c with
        | .nil => ⟨σ.slots, (id, .row true (tt.at e).ks [] 0) :: (r, .var own (upd cs c (.slw id [] 0))) :: σ.roots⟩
        | _ => σ
      | _ => σ
    | _, _ => σ
  | .sl k => match σ.slot k with
    | .slw r p ver => match σ.root r with
      | some (.row _ _ rows v) => bif pathOk p v ver then ⟨(k, .sl r p 0 (rowsAt rows p).length ver) :: σ.slots, σ.roots⟩ else σ
      | _ => σ
    | _ => σ
def State.fixes (tt : Tt) (σ : State) : List Fix → Nat → State
  | [], _ => σ
  | f :: l, id => (σ.fix tt id f).fixes tt l (id + 1)

/-! loops -/
def iterN {S B : Type} (f : S → Option (S ⊕ B)) : Nat → S → Option B
  | 0, _ => none
  | n + 1, s => match f s with
    | none => none
    | some (.inl s') => iterN f n s'
    | some (.inr b) => some b
open Classical in
noncomputable def iter {S B : Type} (f : S → Option (S ⊕ B)) (s : S) : Option B :=
  if h : ∃ n, (iterN f n s).isSome = true then iterN f (Classical.choose h) s else none

/-! code -/
inductive Out where
  | nrm (σ : State)
  | ext (id : Nat) (σ : State)
  | fin (ds : List D)
structure Fx where
  results : List ResultVar
  rts : List Rt
  ms : List Pm
  ps : List Rt
  ann : List (Nat × List Nat × List Fix)
def ioSlot (k : Nat) : Nat := 500000 + k
def ioSlots : List Pm → Nat → List Nat
  | [], _ => []
  | .io :: l, k => ioSlot k :: ioSlots l (k + 1)
  | .iop :: l, k => ioSlot k :: ioSlots l (k + 1)
  | .ioa :: l, k => ioSlot k :: ioSlots l (k + 1)
  | _ :: l, k => ioSlots l (k + 1)
/-- a frame's slot -/
def State.tmp (σ : State) (t : Nat) : AV := bif Nat.ble t 499999 then σ.slot t else .undef
def resultQ (tt : Tt) (σ : State) : List ResultVar → List Rt → Q (List D × List (Nat × Root))
  | [], [] => .ok ([], [])
  | rv :: rvs, rt :: rts =>
    (match rv with
      | .tmp t => Q.ok (σ.tmp t)
      | .cell a t => loadQ tt t (σ.tmp a)).bind fun v =>
    (match v, rt.agg with
      | .ag cs, true => (absorbs tt rt.ks cs).bind fun x => Q.ok (D.st x.1, x.2)
      | v, false => absorb tt (nth Ck.bad rt.ks 0) v
      | _, _ => .no).bind fun x =>
    (resultQ tt σ rvs rts).bind fun y => .ok (x.1 :: y.1, x.2 ++ y.2)
  | _, _ => .no
def ioQ (tt : Tt) (σ : State) : List Pm → List Rt → Nat → Q (List D × List (Nat × Root))
  | [], [], _ => .ok ([], [])
  | .io :: ms, p :: ps, k => (absorb tt (nth Ck.bad p.ks 0) (σ.slot (ioSlot k))).bind fun x => (ioQ tt σ ms ps (k + 1)).bind fun y => .ok (x.1 :: y.1, x.2 ++ y.2)
  | .iop :: ms, p :: ps, k => (match σ.slot (ioSlot k), nth Ck.bad p.ks 0 with
      | .ptr r [] 0 0 _, .ptr e => Q.ask r fun
        | some (.var true cs) => (absorbs tt (tt.at e).ks cs).bind fun x => .ok (D.st x.1, (r, Root.dead) :: x.2)
        | _ => .no
      | _, _ => .no).bind fun x => (ioQ tt σ ms ps (k + 1)).bind fun y => .ok (x.1 :: y.1, x.2 ++ y.2)
  | .ioa :: ms, p :: ps, k => (match σ.slot (ioSlot k), p.agg with
      | .ag cs, true => (absorbs tt p.ks cs).bind fun x => .ok (D.st x.1, x.2)
      | _, _ => .no).bind fun x => (ioQ tt σ ms ps (k + 1)).bind fun y => .ok (x.1 :: y.1, x.2 ++ y.2)
  | _ :: ms, _ :: ps, k => ioQ tt σ ms ps (k + 1)
  | _, _, _ => .no
def exportQ (tt : Tt) (fx : Fx) (σ : State) : Q (List D) :=
  (resultQ tt σ fx.results fx.rts).bind fun x => (ioQ tt σ fx.ms fx.ps 0).bind fun y =>
  (Q.need (keysDistinct (x.2 ++ y.2))).bind fun _ => .ok (x.1 ++ y.1)

structure Tr where
  dst : Option Nat
  names : List Nat
  keys : List Nat
  seen : List Nat
def optIn (d : Option Nat) (l : List Nat) : Bool := match d with | some n => natIn n l | none => false
def optSame (d e : Option Nat) : Bool := match d, e with | some n, some m => Nat.beq n m | _, _ => false
def disj (l m : List Nat) : Bool := l.all fun r => !natIn r m
def Tr.apart (a b : Tr) : Bool :=
  !optIn a.dst b.names && !optIn b.dst a.names && !optSame a.dst b.dst && disj a.keys b.keys && disj a.keys b.seen && disj b.keys a.seen
def maskOf (ms : List Nat) (o : Oper) : Nat :=
  o.after.toList.foldl (fun s e => bif Region.binds .any e then Nat.lor (Nat.lor s (2 ^ e.on)) (nth 0 ms e.on) else s) 0
def masksOf : List Oper → List Nat → List Nat
  | [], ms => ms
  | o :: l, ms => masksOf l (ms ++ [maskOf ms o])
def tmpsIn (xs : List Operand) : List Nat := xs.filterMap fun | .tmp t => some t | _ => none
def dstOf (ops : List Oper) (j : Nat) : Option Nat := match (ops.drop j).head? with | some o => o.dst | none => none
def namesOf (ops : List Oper) (o : Oper) : List Nat :=
  (match o.guard with | some (j, _) => (dstOf ops j).toList | none => []) ++ tmpsIn o.op.operands.toList
def apartAll (mask : Nat) (t : Tr) : List Tr → Nat → Bool
  | [], _ => true
  | u :: l, j => (Nat.testBit mask j || u.apart t) && apartAll mask t l (j + 1)
def State.set (σ : State) (d : Option Nat) (v : AV) : State := match d with | some n => ⟨(n, v) :: σ.slots, σ.roots⟩ | none => σ
def Eff.on (e : Eff) (d : Option Nat) (σ : State) : State := match d with
  | some n => ⟨(n, e.v) :: σ.slots, e.up ++ σ.roots⟩
  | none => ⟨σ.slots, e.up ++ σ.roots⟩
def evOf (σ : State) : Operand → AV
  | .tmp t => σ.tmp t
  | .const (.int k n) => .int k n
  | .const (.bool b) => .bool b
  | .const (.string s) => .str s
  | .const (.slice none 0 0) => .nil
  | .func f => .fn f []
  | _ => .undef
def runOps {R : Type} (cx : Ctx) (draw : Bool) (ops : List Oper) (masks : List Nat) : List Oper → Nat → State → List Tr → (State → Option R) → Option R
  | [], _, σ, _, K => K σ
  | o :: l, j, σ, tr, K =>
    let go (σ : State) : Option R := (effOp cx o.dst o.op (evOf σ)).runK σ.root [] fun e seen =>
      bif draw then
        let t : Tr := ⟨o.dst, namesOf ops o, e.up.map (·.1), seen⟩
        bif apartAll (nth 0 masks j) t tr 0 then runOps cx draw ops masks l (j + 1) (e.on o.dst σ) (tr ++ [t]) K else none
      else runOps cx draw ops masks l (j + 1) (e.on o.dst σ) tr K
    let skip (σ : State) : Option R :=
      bif draw then
        let t : Tr := ⟨o.dst, namesOf ops o, [], []⟩
        bif apartAll (nth 0 masks j) t tr 0 then runOps cx draw ops masks l (j + 1) (σ.set o.dst .un) (tr ++ [t]) K else none
      else runOps cx draw ops masks l (j + 1) (σ.set o.dst .un) tr K
    match o.guard with
    | none => go σ
    | some (g, want) => match dstOf ops g with
      | none => none
      | some t => match σ.tmp t with
        | .bool b => match want with
          | true => bif b then go (σ.set (some t) (.bool true)) else skip (σ.set (some t) (.bool false))
          | false => bif b then skip (σ.set (some t) (.bool true)) else go (σ.set (some t) (.bool false))
        | .un => skip σ
        | _ => none
def annAt (tt : Tt) (fx : Fx) (k : Nat) (σ : State) : State :=
  match find fx.ann k with
  | some (L, fs) => (σ.fixes tt fs 3000000).prune (ioSlots fx.ms 0 ++ L)
  | none => σ
noncomputable def denK (cx : Ctx) (fx : Fx) : Code → Nat → State → (R : Type) → (Out → Option R) → Option R
  | .skip, _, σ, _, K => K (.nrm σ)
  | .region _ ops draw, _, σ, _, K => runOps cx draw ops.toList (bif draw then masksOf ops.toList [] else []) ops.toList 0 σ [] fun σ => K (.nrm σ)
  | .seq a b, bid, σ, R, K => denK cx fx a bid σ R fun
    | .nrm σ => denK cx fx b bid σ R K
    | o => K o
  | .cond c a b, bid, σ, R, K => match c with
    | .tmp t => match σ.tmp t with
      | .bool v => bif v then denK cx fx a bid (σ.set (some t) (.bool true)) R K else denK cx fx b bid (σ.set (some t) (.bool false)) R K
      | _ => none
    | _ => none
  | .block id c, _, σ, R, K => denK cx fx c id σ R fun
    | .nrm σ => K (.nrm (annAt cx.tt fx id σ))
    | .ext id' σ => bif Nat.beq id' id then K (.nrm (annAt cx.tt fx id σ)) else K (.ext id' σ)
    | o => K o
  | .loop c, bid, σ, _, K =>
    let σ0 := annAt cx.tt fx (1000 + bid) σ
    let σx := annAt cx.tt fx bid σ0
    (iter (fun d => denK cx fx c bid (σ0.fill d) (List D ⊕ (List D ⊕ List D)) fun
      | .nrm σ => let τ := annAt cx.tt fx (1000 + bid) σ; bif τ.like σ0 then some (.inl τ.data) else none
      | .ext id σ => bif Nat.beq id bid then (let τ := annAt cx.tt fx bid σ; bif τ.like σx then some (.inr (.inl τ.data)) else none) else none
      | .fin ds => some (.inr (.inr ds))) σ0.data).bind fun
      | .inl d => K (.ext bid (σx.fill d))
      | .inr ds => K (.fin ds)
  | .exit id, _, σ, _, K => K (.ext id σ)
  | .ret, _, σ, _, K => (exportQ cx.tt fx σ).runK σ.root [] fun ds _ => K (.fin ds)
  | _, _, _, _, _ => none

/-! a static check -/
def fitsOp (n : Nat) (o : Oper) : Bool := match o.dst with | some d => Nat.ble (d + 1) n | none => true
def backOps : List Oper → Nat → Bool
  | [], _ => true
  | o :: l, j => o.after.toList.all (fun e => !Region.binds .any e || Nat.ble (e.on + 1) j) && backOps l (j + 1)
def fits (n : Nat) : Code → Bool
  | .region _ ops draw => ops.toList.all (fitsOp n) && (!draw || backOps ops.toList 0)
  | .seq a b => fits n a && fits n b
  | .cond _ a b => fits n a && fits n b
  | .block _ c => fits n c
  | .loop c => fits n c
  | _ => true

/-! a call begins -/
def paramAV (tt : Tt) (k : Nat) (m : Pm) (rt : Rt) (x : D) : AV × List (Nat × Root) :=
  match m with
  | .val => bif rt.agg then resAV tt false (k * 256) rt x else match nth Ck.bad rt.ks 0 with
    | .ptr e => let y := resCells tt false (k * 256 + 1) (tt.at e).ks x.cs; (.ptr (k * 256) [] 0 0 0, (k * 256, .var false y.1) :: y.2)
    | .fn t => (.fd t x, [])
    | _ => resAV tt false (k * 256) rt x
  | .own => resCell tt true (k * 256) (nth Ck.bad rt.ks 0) x
  | .nilp => (.nil, [])
  | .ioa => resAV tt true (k * 256) rt x
  | .io => resCell tt true (k * 256) (nth Ck.bad rt.ks 0) x
  | .iop => match nth Ck.bad rt.ks 0 with
    | .ptr e => let y := resCells tt true (k * 256 + 1) (tt.at e).ks x.cs; (.ptr (k * 256) [] 0 0 0, (k * 256, .var true y.1) :: y.2)
    | _ => (.undef, [])
def params (tt : Tt) : List Pm → List Rt → List D → Nat → List (Nat × AV) × List (Nat × Root)
  | m :: ms, rt :: ps, ds, k =>
    let x := paramAV tt k m rt (nth D.z ds 0)
    let y := params tt ms ps (ds.drop 1) (k + 1)
    ((k, x.1) :: (match m with | .io => [(ioSlot k, x.1)] | .iop => [(ioSlot k, x.1)] | .ioa => [(ioSlot k, x.1)] | _ => []) ++ y.1, x.2 ++ y.2)
  | _, _, _, _ => ([], [])
noncomputable def denF (cx : Ctx) (fx : Fx) (body : Code) (args : List D) : Option (List D) :=
  let y := params cx.tt fx.ms fx.ps args 0
  bif keysDistinct y.2 then denK cx fx body 0 ⟨y.1, y.2⟩ (List D) fun
    | .fin ds => some ds
    | .nrm σ => (exportQ cx.tt fx σ).runK σ.root [] fun ds _ => some ds
    | _ => none
  else none

end Go.Ev
end
section
/- The evaluator: how data lie in memory, and what a change of memory leaves of them. -/
namespace Go.Ev

abbrev Bs := Nat → Prop
def Dis (A B : Bs) : Prop := ∀ c, A c → B c → False
def Sub (A B : Bs) : Prop := ∀ c, A c → B c
def Un (A B : Bs) : Bs := fun c => A c ∨ B c

inductive It where
  | C (k : Ck) (v : Value) (x : D)
  | W (ks : List Ck) (a : Option Addr) (cap : Nat) (rows : List (List D))
  | R (ks : List Ck) (b o : Nat) (rows : List (List D))
  | S (ks : List Ck) (b o : Nat) (ds : List D)
def It.blk : It → Bs
  | .R _ b _ _ => fun c => c = b
  | .S _ b _ _ => fun c => c = b
  | _ => fun _ => False
/-- block b is a row of variables, none frozen, of m cells at least -/
def Room (w : World) (b m : Nat) : Prop := ∃ c e, w.heap[b]? = some (.cells c e (0, 0)) ∧ m ≤ c.size

/-- It reads in memory w as data; its memory lies in B; own: no block is met twice, and all may be written. -/
inductive Rd (tt : Tt) (w : World) (own : Bool) : It → Bs → Prop
  | int {k x B} : Rd tt w own (.C (.int k) (.int k x.i) x) B
  | bool {x B} : Rd tt w own (.C .bool (.bool x.b) x) B
  | str {x B} : Rd tt w own (.C .str (.string x.s) x) B
  | sl {e a cap x B} (h : Rd tt w own (.W (tt.at e).ks a cap x.r) B) : Rd tt w own (.C (.sl e) (.slice a x.r.length cap) x) B
  | wnil {ks a B} : Rd tt w own (.W ks a 0 []) B
  | w {ks b o cap rows B B'} (hc : rows.length ≤ cap) (hr : own = true → Room w b (o + cap * ks.length)) (h : Rd tt w own (.R ks b o rows) B')
      (hb : B b) (hs : Sub B' B) (hn : own = true → ¬ B' b) : Rd tt w own (.W ks (some ⟨b, o, none⟩) cap rows) B
  | rnil {ks b o B} : Rd tt w own (.R ks b o []) B
  | rcons {ks b o row rows B B1 B2} (h1 : Rd tt w own (.S ks b o row) B1) (h2 : Rd tt w own (.R ks b (o + ks.length) rows) B2)
      (s1 : Sub B1 B) (s2 : Sub B2 B) (hd : own = true → Dis B1 B2) : Rd tt w own (.R ks b o (row :: rows)) B
  | snil {b o B} : Rd tt w own (.S [] b o []) B
  | scons {k ks b o v d ds B B1 B2} (hv : w.cell? ⟨b, o, none⟩ = some v) (h1 : Rd tt w own (.C k v d) B1) (h2 : Rd tt w own (.S ks b (o + 1) ds) B2)
      (s1 : Sub B1 B) (s2 : Sub B2 B) (hd : own = true → Dis B1 B2) : Rd tt w own (.S (k :: ks) b o (d :: ds)) B

section
variable {tt : Tt} {w w' : World} {own : Bool}

theorem Rd.mono {it : It} {B B' : Bs} (h : Rd tt w own it B) (hs : Sub B B') : Rd tt w own it B' := by
  induction h generalizing B' with
  | int => exact .int
  | bool => exact .bool
  | str => exact .str
  | sl _ ih => exact .sl (ih hs)
  | wnil => exact .wnil
  | w hc hr h hb h2 hn _ => exact .w hc hr h (hs _ hb) (fun c hc => hs c (h2 c hc)) hn
  | rnil => exact .rnil
  | rcons h1 h2 s1 s2 hd => exact .rcons h1 h2 (fun c hc => hs c (s1 c hc)) (fun c hc => hs c (s2 c hc)) hd
  | snil => exact .snil
  | scons hv h1 h2 s1 s2 hd => exact .scons hv h1 h2 (fun c hc => hs c (s1 c hc)) (fun c hc => hs c (s2 c hc)) hd

theorem Rd.borrow {it : It} {B : Bs} (h : Rd tt w own it B) : Rd tt w false it B := by
  induction h with
  | int => exact .int
  | bool => exact .bool
  | str => exact .str
  | sl _ ih => exact .sl ih
  | wnil => exact .wnil
  | w hc hr h hb h2 hn ih => exact .w hc (by simp) ih hb h2 (by simp)
  | rnil => exact .rnil
  | rcons h1 h2 s1 s2 hd i1 i2 => exact .rcons i1 i2 s1 s2 (by simp)
  | snil => exact .snil
  | scons hv h1 h2 s1 s2 hd i1 i2 => exact .scons hv i1 i2 s1 s2 (by simp)

theorem cell_same {w w' : World} {b o : Nat} (h : w'.heap[b]? = w.heap[b]?) : w'.cell? ⟨b, o, none⟩ = w.cell? ⟨b, o, none⟩ := by
  unfold World.cell?; simp only [h]
theorem Room.same {b m : Nat} (h : Room w b m) (hs : w'.heap[b]? = w.heap[b]?) : Room w' b m := by
  unfold Room at *; rw [hs]; exact h

theorem Rd.frame {it : It} {B : Bs} (h : Rd tt w own it B) (hs : ∀ c, (B c ∨ it.blk c) → w'.heap[c]? = w.heap[c]?) : Rd tt w' own it B := by
  induction h with
  | int => exact .int
  | bool => exact .bool
  | str => exact .str
  | sl _ ih => exact .sl (ih fun c hc => hs c (.inl (by rcases hc with h | h; exact h; exact h.elim)))
  | wnil => exact .wnil
  | w hc hr h hb h2 hn ih =>
    refine .w hc (fun e => (hr e).same (hs _ (.inl hb))) (ih fun c hc => ?_) hb h2 hn
    rcases hc with h | h
    · exact hs _ (.inl (h2 _ h))
    · simp only [It.blk] at h; subst h; exact hs _ (.inl hb)
  | rnil => exact .rnil
  | rcons h1 h2 s1 s2 hd i1 i2 =>
    refine .rcons (i1 fun c hc => ?_) (i2 fun c hc => ?_) s1 s2 hd
    · rcases hc with h | h; exact hs _ (.inl (s1 _ h)); exact hs _ (.inr h)
    · rcases hc with h | h; exact hs _ (.inl (s2 _ h)); exact hs _ (.inr h)
  | snil => exact .snil
  | scons hv h1 h2 s1 s2 hd i1 i2 =>
    refine .scons ((cell_same (hs _ (.inr rfl))).trans hv) (i1 fun c hc => ?_) (i2 fun c hc => ?_) s1 s2 hd
    · rcases hc with h | h; exact hs _ (.inl (s1 _ h)); exact h.elim
    · rcases hc with h | h; exact hs _ (.inl (s2 _ h)); exact hs _ (.inr h)

/-! ### cells in a row -/
theorem S_len {ks : List Ck} {b o : Nat} {ds : List D} {B : Bs} (h : Rd tt w own (.S ks b o ds) B) : ds.length = ks.length := by
  induction ks generalizing o ds B with
  | nil => cases h; rfl
  | cons k ks ih => cases h with | scons hv h1 h2 s1 s2 hd => simp [ih h2]
theorem S_get {ks : List Ck} {b o : Nat} {ds : List D} {B : Bs} (h : Rd tt w own (.S ks b o ds) B) {j : Nat} (hj : j < ks.length) :
    ∃ v, w.cell? ⟨b, o + j, none⟩ = some v ∧ Rd tt w own (.C (nth Ck.bad ks j) v (nth D.z ds j)) B := by
  induction ks generalizing o ds B j with
  | nil => simp at hj
  | cons k ks ih =>
    cases h with
    | scons hv h1 h2 s1 s2 hd =>
      cases j with
      | zero => exact ⟨_, hv, h1.mono s1⟩
      | succ j =>
        obtain ⟨v, hv', hc⟩ := ih h2 (j := j) (by simpa using hj)
        refine ⟨v, ?_, hc.mono s2⟩
        rw [show o + (j + 1) = o + 1 + j by omega]; exact hv'
theorem S_frame {ks : List Ck} {b o : Nat} {ds : List D} {B : Bs} (h : Rd tt w own (.S ks b o ds) B)
    (hc : ∀ p, o ≤ p → p < o + ks.length → w'.cell? ⟨b, p, none⟩ = w.cell? ⟨b, p, none⟩) (hb : ∀ c, B c → w'.heap[c]? = w.heap[c]?) :
    Rd tt w' own (.S ks b o ds) B := by
  induction ks generalizing o ds B with
  | nil => cases h; exact .snil
  | cons k ks ih =>
    cases h with
    | scons hv h1 h2 s1 s2 hd =>
      refine .scons ((hc o (by omega) (by simp)).trans hv) (h1.frame fun c hc => ?_) (ih h2 (fun p h1 h2 => hc p (by omega) (by simp; omega)) fun c hc => hb c (s2 c hc)) s1 s2 hd
      rcases hc with h | h
      · exact hb _ (s1 _ h)
      · exact h.elim
theorem S_split {k1 k2 : List Ck} {b o : Nat} {ds : List D} {B : Bs} (h : Rd tt w own (.S (k1 ++ k2) b o ds) B) :
    ∃ B1 B2, Rd tt w own (.S k1 b o (ds.take k1.length)) B1 ∧ Rd tt w own (.S k2 b (o + k1.length) (ds.drop k1.length)) B2 ∧ Sub B1 B ∧ Sub B2 B ∧ (own = true → Dis B1 B2) := by
  induction k1 generalizing o ds B with
  | nil => exact ⟨fun _ => False, B, by simpa using .snil, by simpa using h, fun _ h => h.elim, fun _ h => h, fun _ _ h => h.elim⟩
  | cons k k1 ih =>
    cases h with
    | scons hv h1 h2 s1 s2 hd =>
      rename_i B1 B2
      obtain ⟨C1, C2, g1, g2, t1, t2, td⟩ := ih h2
      refine ⟨Un B1 C1, C2, .scons hv h1 g1 (fun _ h => .inl h) (fun _ h => .inr h) (fun e c a b => hd e c a (t1 c b)), ?_, ?_, fun c h => s2 c (t2 c h), ?_⟩
      · rw [show o + (k :: k1).length = o + 1 + k1.length by simp; omega]; exact g2
      · rintro c (h | h); exact s1 _ h; exact s2 _ (t1 _ h)
      · rintro e c (h | h) h'
        · exact hd e c h (t2 c h')
        · exact td e c h h'
theorem S_join {k1 k2 : List Ck} {b o : Nat} {d1 d2 : List D} {B1 B2 : Bs} (h1 : Rd tt w own (.S k1 b o d1) B1) (h2 : Rd tt w own (.S k2 b (o + k1.length) d2) B2) (hd : own = true → Dis B1 B2) :
    Rd tt w own (.S (k1 ++ k2) b o (d1 ++ d2)) (Un B1 B2) := by
  induction k1 generalizing o d1 B1 with
  | nil => cases h1; exact h2.mono fun _ h => .inr h
  | cons k k1 ih =>
    cases h1 with
    | scons hv g1 g2 s1 s2 he =>
      rename_i C1 C2
      refine .scons hv g1 (ih g2 (by rw [show o + 1 + k1.length = o + (k :: k1).length by simp; omega]; exact h2) fun e c a b => hd e c (s2 c a) b) (fun c h => .inl (s1 c h)) ?_ ?_
      · rintro c (h | h); exact .inl (s2 c h); exact .inr h
      · rintro e c a (h | h)
        · exact he e c a h
        · exact hd e c (s1 c a) h

/-! ### rows -/
theorem nth_eq {α : Type} (d : α) (l : List α) (i : Nat) : nth d l i = l.getD i d := by
  induction l generalizing i with
  | nil => cases i <;> rfl
  | cons x l ih => cases i with
    | zero => rfl
    | succ i => simpa [nth] using ih i
theorem R_get {ks : List Ck} {b o : Nat} {rows : List (List D)} {B : Bs} (h : Rd tt w own (.R ks b o rows) B) {i : Nat} (hi : i < rows.length) :
    Rd tt w own (.S ks b (o + i * ks.length) (nth [] rows i)) B := by
  induction rows generalizing o B i with
  | nil => simp at hi
  | cons r rows ih =>
    cases h with
    | rcons h1 h2 s1 s2 hd =>
      cases i with
      | zero => simpa [nth] using h1.mono s1
      | succ i =>
        have := ih h2 (i := i) (by simpa using hi)
        rw [show o + (i + 1) * ks.length = o + ks.length + i * ks.length by rw [Nat.succ_mul]; omega]
        exact this.mono s2
theorem R_frame {ks : List Ck} {b o : Nat} {rows : List (List D)} {B : Bs} (h : Rd tt w own (.R ks b o rows) B)
    (hc : ∀ p, o ≤ p → p < o + rows.length * ks.length → w'.cell? ⟨b, p, none⟩ = w.cell? ⟨b, p, none⟩) (hb : ∀ c, B c → w'.heap[c]? = w.heap[c]?) :
    Rd tt w' own (.R ks b o rows) B := by
  induction rows generalizing o B with
  | nil => exact .rnil
  | cons r rows ih =>
    cases h with
    | rcons h1 h2 s1 s2 hd =>
      have hl : (r :: rows).length * ks.length = ks.length + rows.length * ks.length := by rw [List.length_cons, Nat.succ_mul, Nat.add_comm]
      rw [hl] at hc
      exact .rcons (S_frame h1 (fun p a b => hc p a (by omega)) fun c h => hb c (s1 c h)) (ih h2 (fun p a b => hc p (by omega) (by omega)) fun c h => hb c (s2 c h)) s1 s2 hd
theorem R_split {ks : List Ck} {b o : Nat} {rows : List (List D)} {B : Bs} (n : Nat) (hn : n ≤ rows.length) (h : Rd tt w own (.R ks b o rows) B) :
    ∃ B1 B2, Rd tt w own (.R ks b o (rows.take n)) B1 ∧ Rd tt w own (.R ks b (o + n * ks.length) (rows.drop n)) B2 ∧ Sub B1 B ∧ Sub B2 B ∧ (own = true → Dis B1 B2) := by
  induction n generalizing o rows B with
  | zero => exact ⟨fun _ => False, B, .rnil, by simpa using h, fun _ h => h.elim, fun _ h => h, fun _ _ h => h.elim⟩
  | succ n ih =>
    cases rows with
    | nil => simp at hn
    | cons r rows =>
      cases h with
      | rcons h1 h2 s1 s2 hd =>
        rename_i B1 B2
        obtain ⟨C1, C2, g1, g2, t1, t2, td⟩ := ih (by simpa using hn) h2
        refine ⟨Un B1 C1, C2, .rcons h1 g1 (fun _ h => .inl h) (fun _ h => .inr h) (fun e c a b => hd e c a (t1 c b)), ?_, ?_, fun c h => s2 c (t2 c h), ?_⟩
        · rw [show o + (n + 1) * ks.length = o + ks.length + n * ks.length by rw [Nat.succ_mul]; omega]; exact g2
        · rintro c (h | h); exact s1 _ h; exact s2 _ (t1 _ h)
        · rintro e c (h | h) h'
          · exact hd e c h (t2 c h')
          · exact td e c h h'
theorem R_join {ks : List Ck} {b o : Nat} {r1 r2 : List (List D)} {B1 B2 : Bs} (h1 : Rd tt w own (.R ks b o r1) B1) (h2 : Rd tt w own (.R ks b (o + r1.length * ks.length) r2) B2) (hd : own = true → Dis B1 B2) :
    Rd tt w own (.R ks b o (r1 ++ r2)) (Un B1 B2) := by
  induction r1 generalizing o B1 with
  | nil => exact Rd.mono (by simpa using h2) fun _ h => .inr h
  | cons r r1 ih =>
    cases h1 with
    | rcons g1 g2 s1 s2 he =>
      rename_i C1 C2
      refine .rcons g1 (ih g2 ?_ fun e c a b => hd e c (s2 c a) b) (fun c h => .inl (s1 c h)) ?_ ?_
      · rw [show o + ks.length + r1.length * ks.length = o + (r :: r1).length * ks.length by rw [List.length_cons, Nat.succ_mul]; omega]; exact h2
      · rintro c (h | h); exact .inl (s2 c h); exact .inr h
      · rintro e c a (h | h)
        · exact he e c a h
        · exact hd e c (s1 c a) h
theorem R_one {ks : List Ck} {b o : Nat} {row : List D} {B : Bs} (h : Rd tt w own (.S ks b o row) B) : Rd tt w own (.R ks b o [row]) B :=
  .rcons h (B2 := fun _ => False) .rnil (fun _ h => h) (fun _ h => h.elim) fun _ _ _ h => h
theorem upd_eq {α : Type} (l : List α) (i : Nat) (v : α) : upd l i v = l.set i v := by
  induction l generalizing i with
  | nil => rfl
  | cons x l ih => cases i with
    | zero => rfl
    | succ i => simp [upd, ih]
theorem upd_split {α : Type} (l : List α) {i : Nat} (h : i < l.length) (v : α) : upd l i v = l.take i ++ ([v] ++ l.drop (i + 1)) := by
  induction l generalizing i with
  | nil => simp at h
  | cons x l ih => cases i with
    | zero => rfl
    | succ i => simp [upd, ih (by simpa using h)]
theorem nth_split {α : Type} (d : α) (l : List α) {i : Nat} (h : i < l.length) : l.drop i = nth d l i :: l.drop (i + 1) := by
  induction l generalizing i with
  | nil => simp at h
  | cons x l ih => cases i with
    | zero => rfl
    | succ i => simpa [nth] using ih (by simpa using h)
/-- row i, and the others; the row may be replaced. -/
theorem R_zip {ks : List Ck} {b o : Nat} {rows : List (List D)} {B : Bs} (h : Rd tt w own (.R ks b o rows) B) {i : Nat} (hi : i < rows.length) :
    ∃ B1 B2, Rd tt w own (.S ks b (o + i * ks.length) (nth [] rows i)) B1 ∧ Sub B1 B ∧ Sub B2 B ∧ (own = true → Dis B1 B2) ∧
      ∀ (w' : World) (row : List D) (B' : Bs), (∀ p, (p < o + i * ks.length ∨ o + i * ks.length + ks.length ≤ p) → w'.cell? ⟨b, p, none⟩ = w.cell? ⟨b, p, none⟩) → (∀ c, B2 c → w'.heap[c]? = w.heap[c]?) →
        Rd tt w' own (.S ks b (o + i * ks.length) row) B' → (own = true → Dis B' B2) → Rd tt w' own (.R ks b o (upd rows i row)) (Un B' B2) := by
  obtain ⟨C1, C2, g1, g2, t1, t2, td⟩ := R_split i (Nat.le_of_lt hi) h
  rw [nth_split [] rows hi] at g2
  cases g2 with
  | rcons h1 h2 s1 s2 hd =>
    rename_i E1 E2
    refine ⟨E1, Un C1 E2, h1, fun c h => t2 c (s1 c h), ?_, ?_, ?_⟩
    · rintro c (h | h); exact t1 c h; exact t2 c (s2 c h)
    · rintro e c h (h' | h'); exact td e c h' (s1 c h); exact hd e c h h'
    · intro w' row B' hc hb hrow hdis
      rw [upd_split rows hi]
      have hlen : (rows.take i).length = i := by simp; omega
      have a1 := R_frame (w' := w') g1 (fun p _ q => hc p (.inl (by rw [hlen] at q; exact q))) fun c h => hb c (.inl h)
      have a2 := R_frame (w' := w') h2 (fun p q _ => hc p (.inr q)) fun c h => hb c (.inr h)
      have a3 := R_join (R_one hrow) (r2 := rows.drop (i + 1)) (by simpa using a2) fun e c h h' => hdis e c h (.inr h')
      refine (R_join a1 (by rw [hlen]; exact a3) ?_).mono ?_
      · rintro e c h (h' | h')
        · exact hdis e c h' (.inl h)
        · exact td e c h (s2 c h')
      · rintro c (h | h | h)
        · exact .inr (.inl h)
        · exact .inl h
        · exact .inr (.inr h)
/-- cells c to c + n, and the others; these may be replaced. -/
theorem S_zip {k1 k2 k3 : List Ck} {b o : Nat} {ds : List D} {B : Bs} (h : Rd tt w own (.S (k1 ++ (k2 ++ k3)) b o ds) B) :
    ∃ B1 B2, Rd tt w own (.S k2 b (o + k1.length) ((ds.drop k1.length).take k2.length)) B1 ∧ Sub B1 B ∧ Sub B2 B ∧ (own = true → Dis B1 B2) ∧
      ∀ (w' : World) (es : List D) (B' : Bs), (∀ p, (p < o + k1.length ∨ o + k1.length + k2.length ≤ p) → w'.cell? ⟨b, p, none⟩ = w.cell? ⟨b, p, none⟩) → (∀ c, B2 c → w'.heap[c]? = w.heap[c]?) →
        Rd tt w' own (.S k2 b (o + k1.length) es) B' → (own = true → Dis B' B2) → Rd tt w' own (.S (k1 ++ (k2 ++ k3)) b o (splice ds k1.length es)) (Un B' B2) := by
  obtain ⟨C1, C2, g1, g2, t1, t2, td⟩ := S_split h
  obtain ⟨E1, E2, f1, f2, u1, u2, ud⟩ := S_split g2
  refine ⟨E1, Un C1 E2, f1, fun c h => t2 c (u1 c h), ?_, ?_, ?_⟩
  · rintro c (h | h); exact t1 c h; exact t2 c (u2 c h)
  · rintro e c h (h' | h'); exact td e c h' (u1 c h); exact ud e c h h'
  · intro w' es B' hc hb hes hdis
    have hle : es.length = k2.length := S_len hes
    have a1 := S_frame (w' := w') g1 (fun p _ q => hc p (.inl q)) fun c h => hb c (.inl h)
    have a2 := S_frame (w' := w') f2 (fun p q _ => hc p (.inr q)) fun c h => hb c (.inr h)
    have a3 := S_join hes a2 fun e c h h' => hdis e c h (.inr h')
    have a4 := S_join a1 a3 (by
      rintro e c h (h' | h')
      · exact hdis e c h' (.inl h)
      · exact td e c h (u2 c h'))
    unfold splice
    rw [hle, ← List.drop_drop, List.append_assoc]
    refine a4.mono ?_
    rintro c (h | h | h)
    · exact .inr (.inl h)
    · exact .inl h
    · exact .inr (.inr h)
end
end Go.Ev
end
section
/- The evaluator: rows within rows. -/
namespace Go.Ev
section
variable {tt : Tt} {w w' : World} {own : Bool}

/-- the slice value that stands at a path below a header -/
def HdrAt (tt : Tt) (w : World) : List Ck → Value → Path → Value → Prop
  | _, hv, [], v => v = hv
  | ks, hv, (i, c) :: p, v => ∃ b o n cap e v', hv = .slice (some ⟨b, o, none⟩) n cap ∧ i < n ∧ c < ks.length ∧ nth Ck.bad ks c = .sl e ∧
      w.cell? ⟨b, o + i * ks.length + c, none⟩ = some v' ∧ HdrAt tt w (tt.at e).ks v' p v

theorem W_hdr {ks : List Ck} {a : Option Addr} {cap : Nat} {rows : List (List D)} {B : Bs} (h : Rd tt w own (.W ks a cap rows) B) {b o : Nat}
    (e : a = some ⟨b, o, none⟩) {i : Nat} (hi : i < rows.length) : ∃ B', Rd tt w own (.R ks b o rows) B' ∧ Sub B' B ∧ B b ∧ rows.length ≤ cap ∧ (own = true → Room w b (o + cap * ks.length)) ∧ (own = true → ¬ B' b) := by
  cases h with
  | wnil => simp at hi
  | w hc hr h1 hb hs hn => cases e; exact ⟨_, h1, hs, hb, hc, hr, hn⟩

theorem W_path {ks : List Ck} {a : Option Addr} {cap : Nat} {rows : List (List D)} {B : Bs} (h : Rd tt w own (.W ks a cap rows) B) {p : Path} {v : Value}
    (hp : HdrAt tt w ks (.slice a rows.length cap) p v) :
    ∃ a' cap', v = .slice a' (rowsAt rows p).length cap' ∧ Rd tt w own (.W (ksAt tt ks p) a' cap' (rowsAt rows p)) B := by
  induction p generalizing ks a cap rows B with
  | nil => exact ⟨a, cap, hp, h⟩
  | cons x p ih =>
    obtain ⟨i, c⟩ := x
    obtain ⟨b, o, n, cp, e, v', he, hi, hcl, hk, hv, hrest⟩ := hp
    simp only [Value.slice.injEq] at he
    obtain ⟨rfl, rfl, rfl⟩ := he
    obtain ⟨B', h1, hs, hb, _, _, _⟩ := W_hdr h rfl hi
    obtain ⟨v2, hv2, hc2⟩ := S_get (R_get h1 hi) hcl
    rw [hv] at hv2; cases hv2
    rw [hk] at hc2
    generalize hd : nth D.z (nth [] rows i) c = d at *
    cases hc2 with
    | sl hw =>
      obtain ⟨a', cap', e1, e2⟩ := ih hw hrest
      refine ⟨a', cap', ?_, ?_⟩
      · simp only [rowsAt, hd]; exact e1
      · simp only [rowsAt, ksAt, hd, hk]; exact e2.mono hs

theorem HdrAt.same {ks : List Ck} {a : Option Addr} {cap : Nat} {rows : List (List D)} {B : Bs} (h : Rd tt w own (.W ks a cap rows) B) {p : Path} {v : Value}
    (hp : HdrAt tt w ks (.slice a rows.length cap) p v) (hs : ∀ c, B c → w'.heap[c]? = w.heap[c]?) : HdrAt tt w' ks (.slice a rows.length cap) p v := by
  induction p generalizing ks a cap rows B with
  | nil => exact hp
  | cons x p ih =>
    obtain ⟨i, c⟩ := x
    obtain ⟨b, o, n, cp, e, v', he, hi, hcl, hk, hv, hrest⟩ := hp
    simp only [Value.slice.injEq] at he
    obtain ⟨rfl, rfl, rfl⟩ := he
    obtain ⟨B', h1, hs', hb, _, _, _⟩ := W_hdr h rfl hi
    obtain ⟨v2, hv2, hc2⟩ := S_get (R_get h1 hi) hcl
    rw [hv] at hv2; cases hv2
    rw [hk] at hc2
    refine ⟨b, o, _, _, e, v', rfl, hi, hcl, hk, (cell_same (hs _ hb)).trans hv, ?_⟩
    generalize hd : nth D.z (nth [] rows i) c = d at *
    cases hc2 with
    | sl hw => exact ih hw hrest fun c hc => hs c (hs' c hc)

/-- a path and one step more -/
theorem HdrAt.snoc {ks : List Ck} {hv v v' : Value} {p : Path} {i c b o n cap e : Nat} (hp : HdrAt tt w ks hv p v) (he : v = .slice (some ⟨b, o, none⟩) n cap) (hi : i < n)
    (hc : c < (ksAt tt ks p).length) (hk : nth Ck.bad (ksAt tt ks p) c = .sl e) (hv' : w.cell? ⟨b, o + i * (ksAt tt ks p).length + c, none⟩ = some v') : HdrAt tt w ks hv (p ++ [(i, c)]) v' := by
  induction p generalizing ks hv with
  | nil => cases hp; exact ⟨b, o, n, cap, e, v', he, hi, hc, hk, hv', rfl⟩
  | cons x p ih =>
    obtain ⟨i', c'⟩ := x
    obtain ⟨b1, o1, n1, cap1, e1, v1, q1, q2, q3, q4, q5, q6⟩ := hp
    refine ⟨b1, o1, n1, cap1, e1, v1, q1, q2, q3, q4, q5, ?_⟩
    simp only [ksAt, q4] at hc hk hv'
    exact ih q6 hc hk hv'
theorem rowsAt_snoc (rows : List (List D)) (p : Path) (i c : Nat) : rowsAt rows (p ++ [(i, c)]) = (nth D.z (nth [] (rowsAt rows p) i) c).r := by
  induction p generalizing rows with
  | nil => rfl
  | cons x p ih => obtain ⟨i', c'⟩ := x; simpa [rowsAt] using ih _
theorem ksAt_snoc (ks : List Ck) (p : Path) (i c : Nat) {e : Nat} (h : nth Ck.bad (ksAt tt ks p) c = .sl e) : ksAt tt ks (p ++ [(i, c)]) = (tt.at e).ks := by
  induction p generalizing ks with
  | nil => simp only [ksAt] at h; simp [ksAt, h]
  | cons x p ih =>
    obtain ⟨i', c'⟩ := x
    simp only [ksAt, List.cons_append] at h ⊢
    split <;> rename_i hk
    · simp only [hk] at h; exact ih _ h
    · simp [nth] at h

theorem list_split3 {α : Type} (l : List α) (c n : Nat) : l = l.take c ++ ((l.drop c).take n ++ (l.drop c).drop n) := by
  rw [List.take_append_drop, List.take_append_drop]
theorem splice_one {α : Type} (l : List α) (c : Nat) (h : c < l.length) (v : α) : splice l c [v] = upd l c v := by
  rw [upd_split l h]; simp [splice]
theorem nth_take_one {α : Type} (d : α) (l : List α) (c : Nat) (h : c < l.length) : (l.drop c).take 1 = [nth d l c] := by
  rw [nth_split d l h]; rfl

/-- The rows below a path may be replaced by as many others. -/
theorem W_put {ks : List Ck} {a : Option Addr} {cap : Nat} {rows : List (List D)} {B : Bs} (h : Rd tt w true (.W ks a cap rows) B) {p : Path} {v : Value}
    (hp : HdrAt tt w ks (.slice a rows.length cap) p v) :
    ∃ a' cap' B1 B2, v = .slice a' (rowsAt rows p).length cap' ∧ Rd tt w true (.W (ksAt tt ks p) a' cap' (rowsAt rows p)) B1 ∧ Sub B1 B ∧ Sub B2 B ∧ Dis B1 B2 ∧
      ∀ (w' : World) (new : List (List D)) (B' : Bs), (∀ c, B2 c → w'.heap[c]? = w.heap[c]?) → new.length = (rowsAt rows p).length →
        Rd tt w' true (.W (ksAt tt ks p) a' cap' new) B' → Dis B' B2 → Rd tt w' true (.W ks a cap (setRows rows p new)) (Un B' B2) := by
  induction p generalizing ks a cap rows B with
  | nil =>
    refine ⟨a, cap, B, fun _ => False, hp, h, fun _ h => h, fun _ h => h.elim, fun _ _ h => h, ?_⟩
    intro w' new B' _ _ hn _
    exact hn.mono fun _ h => .inl h
  | cons x p ih =>
    obtain ⟨i, c⟩ := x
    obtain ⟨b, o, n, cp, e, v', he, hi, hcl, hk, hv, hrest⟩ := hp
    simp only [Value.slice.injEq] at he
    obtain ⟨rfl, rfl, rfl⟩ := he
    obtain ⟨B', h1, hs, hb, hle, hroom, hnb⟩ := W_hdr h rfl hi
    obtain ⟨R1, R2, g1, s1, s2, sd, gput⟩ := R_zip h1 hi
    have hrow : (nth [] rows i).length = ks.length := S_len g1
    -- the cell
    have hks : ks = ks.take c ++ ([Ck.sl e] ++ (ks.drop c).drop 1) := by
      have := list_split3 ks c 1
      rwa [nth_take_one Ck.bad ks c hcl, hk] at this
    have hkl : (ks.take c).length = c := by simp; omega
    have g1' : Rd tt w true (.S (ks.take c ++ ([Ck.sl e] ++ (ks.drop c).drop 1)) b (o + i * ks.length) (nth [] rows i)) R1 := by rw [← hks]; exact g1
    obtain ⟨E1, E2, f1, t1, t2, td, fput⟩ := S_zip g1'
    rw [hkl] at f1 fput
    simp only [List.length_cons, List.length_nil, Nat.zero_add] at f1 fput
    rw [nth_take_one D.z (nth [] rows i) c (by omega)] at f1
    cases f1 with
    | scons hv2 hc2 hn2 u1 u2 ud =>
      rename_i C1 C2
      rw [show o + i * ks.length + c = o + i * ks.length + c from rfl, hv] at hv2; cases hv2
      generalize hd : nth D.z (nth [] rows i) c = d at *
      cases hc2 with
      | @sl e0 a2 cap2 x0 B0 hw =>
        obtain ⟨a', cap', B1, B2, e1, e2, v1, v2, vd, put⟩ := ih hw hrest
        refine ⟨a', cap', B1, fun c => B2 c ∨ E2 c ∨ R2 c ∨ c = b, ?_, ?_, ?_, ?_, ?_, ?_⟩
        · simp only [rowsAt, hd]; exact e1
        · simp only [rowsAt, ksAt, hd, hk]; exact e2
        · intro c hc; exact hs _ (s1 _ (t1 _ (u1 _ (v1 _ hc))))
        · rintro c (h | h | h | rfl)
          · exact hs _ (s1 _ (t1 _ (u1 _ (v2 _ h))))
          · exact hs _ (s1 _ (t2 _ h))
          · exact hs _ (s2 _ h)
          · exact hb
        · rintro c q (h' | h' | h' | h')
          · exact vd c q h'
          · exact td rfl c (u1 _ (v1 _ q)) h'
          · exact sd rfl c (t1 _ (u1 _ (v1 _ q))) h'
          · rw [h'] at q; exact hnb rfl (s1 _ (t1 _ (u1 _ (v1 _ q))))
        · intro w' new B' hb2 hlen hnew hdis
          simp only [ksAt, hk] at hnew
          simp only [rowsAt, hd] at hlen
          have k1 := put w' new B' (fun c h => hb2 c (.inl h)) hlen hnew fun c h h' => hdis c h (.inl h')
          have hbs : w'.heap[b]? = w.heap[b]? := hb2 b (.inr (.inr (.inr rfl)))
          have hcell : ∀ p, w'.cell? ⟨b, p, none⟩ = w.cell? ⟨b, p, none⟩ := fun p => cell_same hbs
          -- the new cell's data
          have hx : (setRows d.r p new).length = d.r.length := by
            cases p with
            | nil => simpa [setRows, rowsAt] using hlen
            | cons x p => obtain ⟨i, c⟩ := x; simp [setRows, upd_eq]
          have kc : Rd tt w' true (.C (.sl e) (.slice a2 d.r.length cap2) (D.rows (setRows d.r p new))) (Un B' B2) := by
            have := Rd.sl (tt := tt) (w := w') (own := true) (e := e) (x := D.rows (setRows d.r p new)) k1
            rwa [show (D.rows (setRows d.r p new)).r.length = d.r.length from hx] at this
          have ks1 : Rd tt w' true (.S [Ck.sl e] b (o + i * ks.length + c) [D.rows (setRows d.r p new)]) (Un B' B2) :=
            .scons ((hcell _).trans hv) kc (B2 := fun _ => False) .snil (fun _ h => h) (fun _ h => h.elim) fun _ _ _ h => h
          have ks2 := fput w' [D.rows (setRows d.r p new)] (Un B' B2) (fun p _ => hcell p) (fun c h => hb2 c (.inr (.inl h))) ks1 (by
            rintro - c (h | h) h'
            · exact hdis c h (.inr (.inl h'))
            · exact td rfl c (u1 _ (v2 _ h)) h')
          rw [splice_one _ _ (by omega), ← hks] at ks2
          have ks3 := gput w' _ _ (fun p _ => hcell p) (fun c h => hb2 c (.inr (.inr (.inl h)))) ks2 (by
            rintro - c ((h | h) | h) h'
            · exact hdis c h (.inr (.inr (.inl h')))
            · exact sd rfl c (t1 _ (u1 _ (v2 _ h))) h'
            · exact sd rfl c (t2 _ h) h')
          simp only [setRows, hd]
          refine .w (by simpa [upd_eq] using hle) (fun e => (hroom e).same hbs) ks3 (.inr (.inr (.inr (.inr rfl)))) ?_ ?_
          · rintro c (((h | h) | h) | h)
            · exact .inl h
            · exact .inr (.inl h)
            · exact .inr (.inr (.inl h))
            · exact .inr (.inr (.inr (.inl h)))
          · rintro - (((h | h) | h) | h)
            · exact hdis b h (.inr (.inr (.inr rfl)))
            · exact hnb rfl (s1 _ (t1 _ (u1 _ (v2 _ h))))
            · exact hnb rfl (s1 _ (t2 _ h))
            · exact hnb rfl (s2 _ h)
end
end Go.Ev
end
section
/- The evaluator: a state and the machine's memory; what a function's contract says. -/
namespace Go.Ev

structure Ext (w0 w : World) (B : Bs) : Prop where
  size : w0.heap.size ≤ w.heap.size
  same : ∀ c, c < w0.heap.size → ¬ B c → w.heap[c]? = w0.heap[c]?
  os : w.os = w0.os
  tape : w.tape = w0.tape
  out : w.output = w0.output
theorem Ext.refl (w : World) (B : Bs) : Ext w w B := ⟨Nat.le_refl _, fun _ _ _ => rfl, rfl, rfl, rfl⟩
theorem Ext.trans {w0 w1 w2 : World} {B B' : Bs} (h : Ext w0 w1 B) (h' : Ext w1 w2 B') (hs : ∀ c, c < w0.heap.size → B' c → B c) : Ext w0 w2 B :=
  ⟨Nat.le_trans h.size h'.size, fun c hc hn => (h'.same c (Nat.lt_of_lt_of_le hc h.size) fun hb => hn (hs c hc hb)).trans (h.same c hc hn),
    h'.os.trans h.os, h'.tape.trans h.tape, h'.out.trans h.out⟩

section
variable (tt : Tt) (cl : Cl)

def RVs (w : World) (own : Bool) : List Ck → List Value → List D → Bs → Prop
  | [], [], [], _ => True
  | k :: ks, v :: vs, d :: ds, B => ∃ B1 B2, Rd tt w own (.C k v d) B1 ∧ RVs w own ks vs ds B2 ∧ Sub B1 B ∧ Sub B2 B ∧ (own = true → Dis B1 B2)
  | _, _, _, _ => False
/-- a variable that is only read -/
def VarRd (w : World) (own : Bool) (e : TypeId) (a : Addr) (ds : List D) (U : Bs) : Prop :=
  ∃ b c t fr, a = ⟨b, 0, none⟩ ∧ U b ∧ w.heap[b]? = some (.cells c t fr) ∧ (own = true → fr = (0, 0)) ∧
    ∃ B, RVs tt w own (tt.at e).ks c.toList ds B ∧ Sub B U ∧ (own = true → ¬ B b)
def CapsRd (w : World) : List TypeId → List Value → List (List D) → Bs → Prop
  | [], [], [], _ => True
  | e :: es, v :: vs, ds :: l, U => (∃ a, v = .pointer (some a) ∧ VarRd tt w false e a ds U) ∧ CapsRd w es vs l U
  | _, _, _, _ => False
/-- a function value of type t -/
def FnRd (w : World) (t : TypeId) (v : Value) (x : D) (U : Bs) : Prop :=
  ∃ (f : Nat) (vs : Array Value) (es : List TypeId), v = .func (.func f) #[] vs ∧ x.i = (f : Int) ∧ find cl f = some (t, es) ∧ CapsRd tt w es vs.toList x.r U

mutual
def VR (w : World) (rt : Nat → Option Root) (h : Nat → Option Addr × Nat) (U : Bs) : AV → Value → Prop
  | .undef, _ => True
  | .un, v => v = Go.undef
  | .int k n, v => v = .int k n
  | .bool b, v => v = .bool b
  | .str s, v => v = .string s
  | .nil, v => ∃ a, v = .slice a 0 0
  | .slw r p ver, v => rt r ≠ none ∧ ∀ own ks rows rv, rt r = some (.row own ks rows rv) → (p ≠ [] → ver ≤ rv) ∧ (pathOk p rv ver = true → HdrAt tt w ks (.slice (h r).1 rows.length (h r).2) p v)
  | .sl r p off len ver, v => rt r ≠ none ∧ ∀ own ks rows rv, rt r = some (.row own ks rows rv) → (p ≠ [] → ver ≤ rv) ∧ (pathOk p rv ver = true →
      ∃ a0 n0 cap0 a cap, HdrAt tt w ks (.slice (h r).1 rows.length (h r).2) p (.slice a0 n0 cap0) ∧ off + len ≤ n0 ∧ v = .slice a len cap ∧
        ((cap = 0 ∧ len = 0) ∨ ∃ b o, a0 = some ⟨b, o, none⟩ ∧ a = some ⟨b, o + off * (ksAt tt ks p).length, none⟩ ∧ len ≤ cap ∧ off + cap ≤ cap0))
  | .ag cs, v => ∃ vs : Array Value, v = .agg vs ∧ VRs w rt h U cs vs.toList
  | .ptr r p i c ver, v => rt r ≠ none ∧
      (∀ own ks rows rv, rt r = some (.row own ks rows rv) → (p ≠ [] → ver ≤ rv) ∧ (pathOk p rv ver = true →
        ∃ b o n cap, HdrAt tt w ks (.slice (h r).1 rows.length (h r).2) p (.slice (some ⟨b, o, none⟩) n cap) ∧ i < n ∧ v = .pointer (some ⟨b, o + i * (ksAt tt ks p).length + c, none⟩))) ∧
      (∀ own cs, rt r = some (.var own cs) → p = [] → i = 0 → ∃ b, (h r).1 = some ⟨b, 0, none⟩ ∧ v = .pointer (some ⟨b, c, none⟩))
  | .ptrA r i n c, v => rt r ≠ none ∧ ∀ own cs, rt r = some (.var own cs) → ∃ b, (h r).1 = some ⟨b, 0, none⟩ ∧ i < n ∧ v = .pointer (some ⟨b, c + i, none⟩)
  | .fn f cs, v => ∃ vs : Array Value, v = .func (.func f) #[] vs ∧ VRs w rt h U cs vs.toList
  | .fd t x, v => FnRd tt cl w t v x U
  | .tup cs, v => ∃ vs : Array Value, v = .tuple vs ∧ VRs w rt h U cs vs.toList
def VRs (w : World) (rt : Nat → Option Root) (h : Nat → Option Addr × Nat) (U : Bs) : List AV → List Value → Prop
  | [], [] => True
  | a :: l, v :: m => VR w rt h U a v ∧ VRs w rt h U l m
  | _, _ => False
end

def RootOk (w : World) (rt : Nat → Option Root) (h : Nat → Option Addr × Nat) (F U : Bs) (hd : Option Addr × Nat) : Root → Prop
  | .var own cs => ∃ b c t fr, hd.1 = some ⟨b, 0, none⟩ ∧ w.heap[b]? = some (.cells c t fr) ∧ VRs tt cl w rt h U cs c.toList ∧ (own = true → fr = (0, 0) ∧ F b) ∧ (own = false → U b)
  | .row own ks rows _ => Rd tt w own (.W ks hd.1 hd.2 rows) (bif own then F else U)
  | .dead => True

/-- the memory that stands for a state -/
structure Mem (w0 : World) (B0 : Bs) (rt : Nat → Option Root) (h : Nat → Option Addr × Nat) (fb : Nat → Bs) (U : Bs) (w : World) : Prop where
  rts : ∀ r x, rt r = some x → RootOk tt cl w rt h (fb r) U (h r) x
  dis : ∀ r r', r ≠ r' → Dis (fb r) (fb r')
  disU : ∀ r, Dis (fb r) U
  fbb : ∀ r c, fb r c → c < w.heap.size ∧ (B0 c ∨ w0.heap.size ≤ c)
  none_ : ∀ r, rt r = none → ∀ c, ¬ fb r c
  Ub : ∀ c, U c → c < w.heap.size
  ext : Ext w0 w B0
end

/-! ### what a change leaves of values -/
section
variable {tt : Tt} {cl : Cl} {w w' : World} {rt rt' : Nat → Option Root} {h h' : Nat → Option Addr × Nat} {U U' : Bs}

theorem RVs.frame {own : Bool} {ks : List Ck} {vs : List Value} {ds : List D} {B : Bs} (hr : RVs tt w own ks vs ds B) (hs : ∀ c, B c → w'.heap[c]? = w.heap[c]?) : RVs tt w' own ks vs ds B := by
  induction ks generalizing vs ds B with
  | nil => cases vs <;> cases ds <;> simp_all [RVs]
  | cons k ks ih =>
    cases vs with
    | nil => simp [RVs] at hr
    | cons v vs => cases ds with
      | nil => simp [RVs] at hr
      | cons d ds =>
        obtain ⟨B1, B2, h1, h2, s1, s2, hd⟩ := hr
        exact ⟨B1, B2, h1.frame fun c hc => hs c (by rcases hc with q | q; exact s1 c q; exact q.elim), ih h2 fun c hc => hs c (s2 c hc), s1, s2, hd⟩
theorem RVs.mono {own : Bool} {ks : List Ck} {vs : List Value} {ds : List D} {B B' : Bs} (hr : RVs tt w own ks vs ds B) (hs : Sub B B') : RVs tt w own ks vs ds B' := by
  cases ks <;> cases vs <;> cases ds <;> try exact hr
  obtain ⟨B1, B2, h1, h2, s1, s2, hd⟩ := hr
  exact ⟨B1, B2, h1, h2, fun c q => hs c (s1 c q), fun c q => hs c (s2 c q), hd⟩
theorem RVs.borrow {own : Bool} {ks : List Ck} {vs : List Value} {ds : List D} {B : Bs} (hr : RVs tt w own ks vs ds B) : RVs tt w false ks vs ds B := by
  induction ks generalizing vs ds B with
  | nil => cases vs <;> cases ds <;> simp_all [RVs]
  | cons k ks ih =>
    cases vs with
    | nil => simp [RVs] at hr
    | cons v vs => cases ds with
      | nil => simp [RVs] at hr
      | cons d ds =>
        obtain ⟨B1, B2, h1, h2, s1, s2, hd⟩ := hr
        exact ⟨B1, B2, h1.borrow, ih h2, s1, s2, by simp⟩
theorem RVs.len {own : Bool} {ks : List Ck} {vs : List Value} {ds : List D} {B : Bs} (hr : RVs tt w own ks vs ds B) : vs.length = ks.length ∧ ds.length = ks.length := by
  induction ks generalizing vs ds B with
  | nil => cases vs <;> cases ds <;> simp_all [RVs]
  | cons k ks ih =>
    cases vs with
    | nil => simp [RVs] at hr
    | cons v vs => cases ds with
      | nil => simp [RVs] at hr
      | cons d ds =>
        obtain ⟨B1, B2, h1, h2, s1, s2, hd⟩ := hr
        have := ih h2
        simp [this.1, this.2]
theorem VarRd.frame {own : Bool} {e : TypeId} {a : Addr} {ds : List D} (hr : VarRd tt w own e a ds U) (hs : ∀ c, U c → w'.heap[c]? = w.heap[c]?) : VarRd tt w' own e a ds U := by
  obtain ⟨b, c, t, fr, e1, hu, hb, ho, B, h1, h2, h3⟩ := hr
  exact ⟨b, c, t, fr, e1, hu, (hs _ hu).trans hb, ho, B, h1.frame fun c hc => hs c (h2 c hc), h2, h3⟩
theorem VarRd.mono {own : Bool} {e : TypeId} {a : Addr} {ds : List D} (hr : VarRd tt w own e a ds U) (hs : Sub U U') : VarRd tt w own e a ds U' := by
  obtain ⟨b, c, t, fr, e1, hu, hb, ho, B, h1, h2, h3⟩ := hr
  exact ⟨b, c, t, fr, e1, hs _ hu, hb, ho, B, h1, fun c q => hs c (h2 c q), h3⟩
theorem CapsRd.step {es : List TypeId} {vs : List Value} {l : List (List D)} (hr : CapsRd tt w es vs l U) (hs : ∀ c, U c → w'.heap[c]? = w.heap[c]?) (hu : Sub U U') : CapsRd tt w' es vs l U' := by
  induction es generalizing vs l with
  | nil => cases vs <;> cases l <;> simp_all [CapsRd]
  | cons e es ih =>
    cases vs with
    | nil => simp [CapsRd] at hr
    | cons v vs => cases l with
      | nil => simp [CapsRd] at hr
      | cons d l =>
        obtain ⟨⟨a, e1, h1⟩, h2⟩ := hr
        exact ⟨⟨a, e1, (h1.frame hs).mono hu⟩, ih h2⟩
theorem FnRd.step {t : TypeId} {v : Value} {x : D} (hr : FnRd tt cl w t v x U) (hs : ∀ c, U c → w'.heap[c]? = w.heap[c]?) (hu : Sub U U') : FnRd tt cl w' t v x U' := by
  obtain ⟨f, vs, es, h1, h2, h3, h4⟩ := hr
  exact ⟨f, vs, es, h1, h2, h3, h4.step hs hu⟩

/-- what may become of a root, that values that name it stay right -/
def Compat (tt : Tt) (w w' : World) (x x' : Option Root) (hd hd' : Option Addr × Nat) : Prop :=
  (x' = some .dead) ∨ (hd' = hd ∧
    ((∃ own own' ks rows ver, x = some (.row own ks rows ver) ∧ x' = some (.row own' ks rows ver) ∧ ∀ p v, HdrAt tt w ks (.slice hd.1 rows.length hd.2) p v → HdrAt tt w' ks (.slice hd.1 rows.length hd.2) p v) ∨
     (∃ own own' ks rows rows' ver ver', x = some (.row own ks rows ver) ∧ x' = some (.row own' ks rows' ver') ∧ rows'.length = rows.length ∧ ver < ver') ∨
     (∃ own cs own' cs', x = some (.var own cs) ∧ x' = some (.var own' cs')) ∨ (x = some .dead ∧ x' = some .dead)))

theorem pathOk_nil (v w : Nat) : pathOk [] v w = true := rfl
theorem pathOk_ne {p : Path} {v w : Nat} (hp : p ≠ []) (h : pathOk p v w = true) : v = w := by
  cases p with
  | nil => exact absurd rfl hp
  | cons x p => exact Nat.eq_of_beq_eq_true h

theorem hdr_step (rel : Value → Value → Prop) {r : Nat} {p : Path} {ver : Nat} {Φ : World → List Ck → List (List D) → Prop}
    (hΦ : ∀ ks rows rows', rows'.length = rows.length → p = [] → Φ w ks rows → Φ w' ks rows') (hΦ2 : ∀ ks rows, (∀ v, HdrAt tt w ks (.slice (h r).1 rows.length (h r).2) p v → HdrAt tt w' ks (.slice (h r).1 rows.length (h r).2) p v) → Φ w ks rows → Φ w' ks rows)
    (hc : Compat tt w w' (rt r) (rt' r) (h r) (h' r))
    (hv : ∀ own ks rows rv, rt r = some (.row own ks rows rv) → (p ≠ [] → ver ≤ rv) ∧ (pathOk p rv ver = true → Φ w ks rows)) :
    ∀ own ks rows rv, rt' r = some (.row own ks rows rv) → (p ≠ [] → ver ≤ rv) ∧ (pathOk p rv ver = true → Φ w' ks rows) := by
  intro own ks rows rv hx
  rcases hc with hc | ⟨hh, ⟨o, o', k, rr, vv, e1, e2, hd⟩ | ⟨o, o', k, rr, rr', vv, vv', e1, e2, hl, hlt⟩ | ⟨o, cs, o', cs', e1, e2⟩ | ⟨e1, e2⟩⟩
  · rw [hc] at hx; cases hx
  · rw [e2] at hx; cases hx
    exact ⟨(hv _ _ _ _ e1).1, fun hp => hΦ2 _ _ (fun v => hd p v) ((hv _ _ _ _ e1).2 hp)⟩
  · rw [e2] at hx; cases hx
    by_cases hp : p = []
    · subst hp
      exact ⟨fun q => absurd rfl q, fun _ => hΦ _ _ _ hl rfl ((hv _ _ _ _ e1).2 (pathOk_nil _ _))⟩
    · have hle := (hv _ _ _ _ e1).1 hp
      exact ⟨fun _ => by omega, fun hq => absurd (pathOk_ne hp hq) (by omega)⟩
  · rw [e2] at hx; cases hx
  · rw [e2] at hx; cases hx

mutual
theorem VR.step (hU : ∀ c, U c → w'.heap[c]? = w.heap[c]?) (hs : Sub U U') (hc : ∀ r, rt r ≠ none → Compat tt w w' (rt r) (rt' r) (h r) (h' r)) :
    ∀ (a : AV) (v : Value), VR tt cl w rt h U a v → VR tt cl w' rt' h' U' a v
  | .undef, _, hv => by simp [VR]
  | .un, _, hv => by simpa [VR] using hv
  | .int k n, _, hv => by simpa [VR] using hv
  | .bool b, _, hv => by simpa [VR] using hv
  | .str s, _, hv => by simpa [VR] using hv
  | .nil, _, hv => by simpa [VR] using hv
  | .slw r p ver, v, hv => by
    simp only [VR] at hv ⊢
    obtain ⟨hn, hv⟩ := hv
    have hc := hc r hn
    refine ⟨?_, ?_⟩
    · rcases hc with hc | ⟨_, ⟨_, _, _, _, _, _, e2, _⟩ | ⟨_, _, _, _, _, _, _, _, e2, _⟩ | ⟨_, _, _, _, _, e2⟩ | ⟨_, e2⟩⟩ <;> simp [*]
    · by_cases hd : h' r = h r
      · rw [hd]
        exact hdr_step (fun _ _ => True) (Φ := fun w ks rows => HdrAt tt w ks (.slice (h r).1 rows.length (h r).2) p v)
          (fun ks rows rows' hl hp q => by subst hp; rw [hl]; exact q) (fun ks rows q a => q v a) hc hv
      · rcases hc with hc | ⟨e, _⟩
        · intro own ks rows rv hx; rw [hc] at hx; cases hx
        · exact absurd e hd
  | .sl r p off len ver, v, hv => by
    simp only [VR] at hv ⊢
    obtain ⟨hn, hv⟩ := hv
    have hc := hc r hn
    refine ⟨?_, ?_⟩
    · rcases hc with hc | ⟨_, ⟨_, _, _, _, _, _, e2, _⟩ | ⟨_, _, _, _, _, _, _, _, e2, _⟩ | ⟨_, _, _, _, _, e2⟩ | ⟨_, e2⟩⟩ <;> simp [*]
    · by_cases hd : h' r = h r
      · rw [hd]
        refine hdr_step (fun _ _ => True) (Φ := fun w ks rows => ∃ a0 n0 cap0 a cap, HdrAt tt w ks (.slice (h r).1 rows.length (h r).2) p (.slice a0 n0 cap0) ∧ off + len ≤ n0 ∧ v = .slice a len cap ∧
          ((cap = 0 ∧ len = 0) ∨ ∃ b o, a0 = some ⟨b, o, none⟩ ∧ a = some ⟨b, o + off * (ksAt tt ks p).length, none⟩ ∧ len ≤ cap ∧ off + cap ≤ cap0)) ?_ ?_ hc hv
        · rintro ks rows rows' hl rfl ⟨a0, n0, cap0, a, cap, q⟩
          exact ⟨a0, n0, cap0, a, cap, by rw [hl]; exact q⟩
        · rintro ks rows q ⟨a0, n0, cap0, a, cap, q1, q2⟩
          exact ⟨a0, n0, cap0, a, cap, q _ q1, q2⟩
      · rcases hc with hc | ⟨e, _⟩
        · intro own ks rows rv hx; rw [hc] at hx; cases hx
        · exact absurd e hd
  | .ag cs, v, hv => by
    simp only [VR] at hv ⊢
    obtain ⟨vs, e, hv⟩ := hv
    exact ⟨vs, e, VRs.step hU hs hc cs _ hv⟩
  | .ptr r p i c ver, v, hv => by
    simp only [VR] at hv ⊢
    obtain ⟨hn, hv, hv2⟩ := hv
    have hc := hc r hn
    refine ⟨?_, ?_, ?_⟩
    · rcases hc with hc | ⟨_, ⟨_, _, _, _, _, _, e2, _⟩ | ⟨_, _, _, _, _, _, _, _, e2, _⟩ | ⟨_, _, _, _, _, e2⟩ | ⟨_, e2⟩⟩ <;> simp [*]
    · by_cases hd : h' r = h r
      · rw [hd]
        refine hdr_step (fun _ _ => True) (Φ := fun w ks rows => ∃ b o n cap, HdrAt tt w ks (.slice (h r).1 rows.length (h r).2) p (.slice (some ⟨b, o, none⟩) n cap) ∧ i < n ∧ v = .pointer (some ⟨b, o + i * (ksAt tt ks p).length + c, none⟩)) ?_ ?_ hc hv
        · rintro ks rows rows' hl rfl ⟨b, o, n, cap, q⟩
          exact ⟨b, o, n, cap, by rw [hl]; exact q⟩
        · rintro ks rows q ⟨b, o, n, cap, q1, q2⟩
          exact ⟨b, o, n, cap, q _ q1, q2⟩
      · rcases hc with hc | ⟨e, _⟩
        · intro own ks rows rv hx; rw [hc] at hx; cases hx
        · exact absurd e hd
    · intro own cs hx hp hi
      rcases hc with hc | ⟨hh, ⟨_, _, _, _, _, _, e2, _⟩ | ⟨_, _, _, _, _, _, _, _, e2, _⟩ | ⟨_, _, _, _, e1, e2⟩ | ⟨_, e2⟩⟩
      · rw [hc] at hx; cases hx
      · rw [e2] at hx; cases hx
      · rw [e2] at hx; cases hx
      · rw [hh]; exact hv2 _ _ e1 hp hi
      · rw [e2] at hx; cases hx
  | .ptrA r i n c, v, hv => by
    simp only [VR] at hv ⊢
    obtain ⟨hn, hv⟩ := hv
    have hc := hc r hn
    refine ⟨?_, ?_⟩
    · rcases hc with hc | ⟨_, ⟨_, _, _, _, _, _, e2, _⟩ | ⟨_, _, _, _, _, _, _, _, e2, _⟩ | ⟨_, _, _, _, _, e2⟩ | ⟨_, e2⟩⟩ <;> simp [*]
    · intro own cs hx
      rcases hc with hc | ⟨hh, ⟨_, _, _, _, _, _, e2, _⟩ | ⟨_, _, _, _, _, _, _, _, e2, _⟩ | ⟨_, _, _, _, e1, e2⟩ | ⟨_, e2⟩⟩
      · rw [hc] at hx; cases hx
      · rw [e2] at hx; cases hx
      · rw [e2] at hx; cases hx
      · rw [hh]; exact hv _ _ e1
      · rw [e2] at hx; cases hx
  | .fn f cs, v, hv => by
    simp only [VR] at hv ⊢
    obtain ⟨vs, e, hv⟩ := hv
    exact ⟨vs, e, VRs.step hU hs hc cs _ hv⟩
  | .fd t x, v, hv => by
    simp only [VR] at hv ⊢
    exact hv.step hU hs
  | .tup cs, v, hv => by
    simp only [VR] at hv ⊢
    obtain ⟨vs, e, hv⟩ := hv
    exact ⟨vs, e, VRs.step hU hs hc cs _ hv⟩
theorem VRs.step (hU : ∀ c, U c → w'.heap[c]? = w.heap[c]?) (hs : Sub U U') (hc : ∀ r, rt r ≠ none → Compat tt w w' (rt r) (rt' r) (h r) (h' r)) :
    ∀ (a : List AV) (v : List Value), VRs tt cl w rt h U a v → VRs tt cl w' rt' h' U' a v
  | [], [], _ => by simp [VRs]
  | a :: l, v :: m, hv => by
    simp only [VRs] at hv ⊢
    exact ⟨VR.step hU hs hc a v hv.1, VRs.step hU hs hc l m hv.2⟩
  | [], _ :: _, hv => by simp [VRs] at hv
  | _ :: _, [], hv => by simp [VRs] at hv
end
end
end Go.Ev
end
section
/- The evaluator: what a question's answer says; the table of types. -/
namespace Go.Ev

/-! ### answers -/
def Q.Runs {α : Type} (rt : Nat → Option Root) : Q α → α → Prop
  | .ok a, b => a = b
  | .no, _ => False
  | .ask r k, b => (k (rt r)).Runs rt b
  | .test c k, b => c = true ∧ k.Runs rt b
  | .call o k, b => ∃ x, o = some x ∧ (k x).Runs rt b
theorem Q.runs_bind {α β : Type} {rt : Nat → Option Root} {q : Q α} {f : α → Q β} {b : β} : (q.bind f).Runs rt b ↔ ∃ a, q.Runs rt a ∧ (f a).Runs rt b := by
  induction q with
  | ok a => simp [Q.bind, Q.Runs]
  | no => simp [Q.bind, Q.Runs]
  | ask r k ih => simpa [Q.bind, Q.Runs] using ih _
  | test c k ih =>
    simp only [Q.bind, Q.Runs, ih]
    constructor
    · rintro ⟨h1, a, h2, h3⟩; exact ⟨a, ⟨h1, h2⟩, h3⟩
    · rintro ⟨a, ⟨h1, h2⟩, h3⟩; exact ⟨h1, a, h2, h3⟩
  | call o k ih =>
    simp only [Q.bind, Q.Runs, ih]
    constructor
    · rintro ⟨x, h1, a, h2, h3⟩; exact ⟨a, ⟨x, h1, h2⟩, h3⟩
    · rintro ⟨a, ⟨x, h1, h2⟩, h3⟩; exact ⟨x, h1, a, h2, h3⟩
theorem Q.runs_ok {α : Type} {rt : Nat → Option Root} {a b : α} : (Q.ok a).Runs rt b ↔ a = b := Iff.rfl
theorem Q.runs_no {α : Type} {rt : Nat → Option Root} {b : α} : (Q.no : Q α).Runs rt b ↔ False := Iff.rfl
theorem Q.runs_ask {α : Type} {rt : Nat → Option Root} {r : Nat} {k : Option Root → Q α} {b : α} : (Q.ask r k).Runs rt b ↔ (k (rt r)).Runs rt b := Iff.rfl
theorem Q.runs_test {α : Type} {rt : Nat → Option Root} {c : Bool} {k : Q α} {b : α} : (Q.test c k).Runs rt b ↔ c = true ∧ k.Runs rt b := Iff.rfl
theorem Q.runs_call {α : Type} {rt : Nat → Option Root} {o : Option (List D)} {k : List D → Q α} {b : α} : (Q.call o k).Runs rt b ↔ ∃ x, o = some x ∧ (k x).Runs rt b := Iff.rfl
theorem Q.runs_need {rt : Nat → Option Root} {c : Bool} {u : Unit} : (Q.need c).Runs rt u ↔ c = true := by
  cases c <;> simp [Q.need, Q.Runs]
theorem Q.runs_fresh {rt : Nat → Option Root} {r : Nat} {u : Unit} : (Q.fresh r).Runs rt u ↔ rt r = none := by
  simp only [Q.fresh, Q.Runs]
  cases rt r <;> simp [Q.Runs]
theorem Q.runs_freshes {rt : Nat → Option Root} {l : List (Nat × Root)} {u : Unit} : (Q.freshes l).Runs rt u ↔ ∀ x ∈ l, rt x.1 = none := by
  induction l with
  | nil => simp [Q.freshes, Q.Runs]
  | cons x l ih => obtain ⟨r, y⟩ := x; simp [Q.freshes, Q.runs_bind, Q.runs_fresh, ih]
/-- what was looked at -/
def Q.Sees {α : Type} (rt : Nat → Option Root) : Q α → List Nat → List Nat → Prop
  | .ok _, tr, l => l = tr
  | .no, _, _ => False
  | .ask r k, tr, l => (k (rt r)).Sees rt (r :: tr) l
  | .test _ k, tr, l => k.Sees rt tr l
  | .call o k, tr, l => ∃ x, o = some x ∧ (k x).Sees rt tr l
theorem Q.runK_some {α R : Type} {rt : Nat → Option Root} {q : Q α} {tr : List Nat} {k : α → List Nat → Option R} {x : R} (h : q.runK rt tr k = some x) :
    ∃ a l, q.Runs rt a ∧ q.Sees rt tr l ∧ k a l = some x := by
  induction q generalizing tr with
  | ok a => exact ⟨a, tr, rfl, rfl, h⟩
  | no => simp [Q.runK] at h
  | ask r f ih => exact ih _ h
  | test c f ih =>
    simp only [Q.runK] at h
    cases c with
    | false => simp at h
    | true => obtain ⟨a, l, h1, h2, h3⟩ := ih h; exact ⟨a, l, ⟨rfl, h1⟩, h2, h3⟩
  | call o f ih =>
    simp only [Q.runK] at h
    cases o with
    | none => simp at h
    | some y =>
      obtain ⟨a, l, h1, h2, h3⟩ := ih y h
      exact ⟨a, l, ⟨y, rfl, h1⟩, ⟨y, rfl, h2⟩, h3⟩
theorem Q.Sees.sub {α : Type} {rt : Nat → Option Root} {q : Q α} {tr l : List Nat} (h : q.Sees rt tr l) : ∀ r ∈ tr, r ∈ l := by
  induction q generalizing tr with
  | ok a => cases h; exact fun _ h => h
  | no => exact h.elim
  | ask r f ih => exact fun x hx => ih _ h x (List.mem_cons_of_mem _ hx)
  | test c f ih => exact ih h
  | call o f ih => obtain ⟨x, _, h⟩ := h; exact ih x h
/-- the answer hangs on what was looked at alone -/
theorem Q.runs_congr {α : Type} {rt rt' : Nat → Option Root} {q : Q α} {tr l : List Nat} {a : α} (h : q.Runs rt a) (hs : q.Sees rt tr l) (he : ∀ r ∈ l, rt' r = rt r) : q.Runs rt' a := by
  induction q generalizing tr with
  | ok b => exact h
  | no => exact h
  | ask r f ih =>
    have hr : rt' r = rt r := he r (Q.Sees.sub (q := f (rt r)) (tr := r :: tr) hs r (by simp))
    simp only [Q.Runs, hr]
    exact ih _ h hs
  | test c f ih => exact ⟨h.1, ih h.2 hs⟩
  | call o f ih =>
    obtain ⟨x, e, hs⟩ := hs
    obtain ⟨y, e', h⟩ := h
    rw [e] at e'; cases e'
    exact ⟨x, e, ih x h hs⟩

/-! ### the table of types -/
def zeroOkC : Ck → Value → Bool
  | .int k, .int k' n => decide (k = k') && decide (n = 0)
  | .bool, .bool b => !b
  | .str, .string s => s.data.isEmpty
  | .sl _, .slice none 0 0 => true
  | .int _, _ => false
  | .bool, _ => false
  | .str, _ => false
  | .sl _, _ => false
  | _, _ => true
def zeroOk : List Ck → List Value → Bool
  | [], [] => true
  | k :: ks, v :: vs => zeroOkC k v && zeroOk ks vs
  | _, _ => false
def descOk (P : Program) (t : TypeId) (ti : Ti) : Bool :=
  match P.underlying t, ti.d with
  | some (.struct fs), .struct l => ti.agg && decide (fs.toList.map (fun f => (f.offset, f.type)) = l) && fs.toList.all (fun f => decide (f.name ≠ "_")) && !P.stoodInHeld t && !P.eqGuardType P.depth t
  | some (.array n e), .arr m f => ti.agg && Nat.beq n m && Nat.beq e f
  | some (.slice e), .sl f => !ti.agg && Nat.beq e f
  | some (.pointer e), .ptr f => !ti.agg && Nat.beq e f
  | some (.func ..), .fn _ _ => !ti.agg
  | some (.int k), .prim => !ti.agg && (match ti.ks with | [.int k'] => decide (k = k') | _ => false)
  | some .bool, .prim => !ti.agg && (match ti.ks with | [.bool] => true | _ => false)
  | some .string, .prim => !ti.agg && (match ti.ks with | [.str] => true | _ => false)
  | _, _ => false
def tiOk (P : Program) (t : TypeId) (ti : Ti) : Bool :=
  match P.info? t with
  | some i => Nat.beq i.size ti.ks.length && Nat.beq i.bytes ti.bytes && (match i.zero with | some v => zeroOk ti.ks v.cells.toList | none => false) && descOk P t ti
  | none => false
def ttOk (P : Program) : Tt → Bool
  | [] => true
  | (t, ti) :: l => tiOk P t ti && ttOk P l
theorem look_ok {P : Program} : ∀ {tt : Tt} (_ : ttOk P tt = true) {t : TypeId} (_ : tt.has t = true), tiOk P t (tt.at t) = true := by
  intro tt
  induction tt with
  | nil => intro _ t ht; simp [Tt.has, Tt.at, look] at ht
  | cons x l ih =>
    obtain ⟨u, ti⟩ := x
    intro h t ht
    simp only [ttOk, Bool.and_eq_true] at h
    simp only [Tt.at, look, Tt.has] at ht ⊢
    cases hb : Nat.beq u t with
    | true =>
      simp only [cond_true]
      cases Nat.eq_of_beq_eq_true hb
      exact h.1
    | false => simp only [hb, cond_false] at ht ⊢; exact ih h.2 ht
structure TypeFacts (P : Program) (t : TypeId) (ti : Ti) : Prop where
  info : ∃ i, P.info? t = some i ∧ i.size = ti.ks.length ∧ i.bytes = ti.bytes ∧ ∃ z, i.zero = some z ∧ zeroOk ti.ks z.cells.toList = true
  desc : descOk P t ti = true
theorem type_facts {P : Program} {tt : Tt} (hP : ttOk P tt = true) {t : TypeId} (ht : tt.has t = true) : TypeFacts P t (tt.at t) := by
  have h := look_ok hP ht
  simp only [tiOk] at h
  cases hi : P.info? t with
  | none => simp [hi] at h
  | some i =>
    simp only [hi, Bool.and_eq_true] at h
    obtain ⟨⟨⟨h1, h2⟩, h3⟩, h4⟩ := h
    refine ⟨⟨i, hi, Nat.eq_of_beq_eq_true h1, Nat.eq_of_beq_eq_true h2, ?_⟩, h4⟩
    cases hz : i.zero with
    | none => simp [hz] at h3
    | some z => simp only [hz] at h3; exact ⟨z, rfl, h3⟩
section
variable {P : Program} {tt : Tt} (hP : ttOk P tt = true) {t : TypeId}
include hP
theorem size_run (ht : tt.has t = true) (w : World) : (sizeOf t).run P w = .ok (tt.at t).ks.length w := by
  obtain ⟨i, hi, h1, _⟩ := (type_facts hP ht).info
  simp only [sizeOf, typeInfo, program, Bind.bind, Sem.bind, Sem.run, hi, Pure.pure, h1]
theorem und_sl {e : TypeId} (hd : (tt.at t).d = .sl e) : P.underlying t = some (.slice e) := by
  have := (type_facts hP (t := t) (by simp [Tt.has, hd])).desc
  unfold descOk at this
  rw [hd] at this
  split at this <;> simp_all
theorem und_arr {n : Nat} {e : TypeId} (hd : (tt.at t).d = .arr n e) : P.underlying t = some (.array n e) ∧ (tt.at t).agg = true := by
  have := (type_facts hP (t := t) (by simp [Tt.has, hd])).desc
  unfold descOk at this
  rw [hd] at this
  split at this <;> simp_all
theorem und_struct {fs : List (Nat × TypeId)} (hd : (tt.at t).d = .struct fs) : ∃ F : Array Field, P.underlying t = some (.struct F) ∧ F.toList.map (fun f => (f.offset, f.type)) = fs ∧ (tt.at t).agg = true ∧ (∀ f ∈ F.toList, f.name ≠ "_") ∧ P.stoodInHeld t = false ∧ P.eqGuardType P.depth t = false := by
  have := (type_facts hP (t := t) (by simp [Tt.has, hd])).desc
  unfold descOk at this
  rw [hd] at this
  split at this <;> simp_all
  intro f hf
  obtain ⟨i, hi, rfl⟩ := Array.getElem_of_mem hf
  exact this.1.1.2 i hi
theorem agg_run (ht : tt.has t = true) (w : World) : (isAgg t).run P w = .ok (tt.at t).agg w := by
  have h := (type_facts hP ht).desc
  have hb : (tt.at t).d ≠ .bad := by intro e; simp [Tt.has, e] at ht
  unfold descOk at h
  simp only [isAgg, underlying, program, Bind.bind, Sem.bind, Sem.run]
  cases hu : P.underlying t with
  | none => simp [hu] at h
  | some d =>
    simp only [Pure.pure, Sem.bind]
    rw [hu] at h
    cases d <;> cases hd : (tt.at t).d <;> simp_all [Sem.run]
end
end Go.Ev
end
section
/- The evaluator: single operations that change no memory. -/
set_option linter.unusedSimpArgs false
namespace Go.Ev

def over (rt : Nat → Option Root) (up : List (Nat × Root)) : Nat → Option Root := fun r => match find up r with | some x => some x | none => rt r
theorem over_nil (rt : Nat → Option Root) : over rt [] = rt := by funext r; simp [over, find]
theorem find_append {α : Type} (a b : List (Nat × α)) (r : Nat) : find (a ++ b) r = match find a r with | some x => some x | none => find b r := by
  induction a with
  | nil => simp [find]
  | cons x a ih =>
    obtain ⟨k, v⟩ := x
    simp only [List.cons_append, find]
    cases Nat.beq k r <;> simp [ih]

section
variable (tt : Tt) (cl : Cl) (w0 : World) (B0 : Bs)
/-- one step: the value, the memory after it -/
def StepTo (rt : Nat → Option Root) (h : Nat → Option Addr × Nat) (fb : Nat → Bs) (U : Bs) (w : World) (up : List (Nat × Root)) (v : AV) (val : Value) (w' : World) : Prop :=
  ∃ h' fb' U', Mem tt cl w0 B0 (over rt up) h' fb' U' w' ∧ VR tt cl w' (over rt up) h' U' v val ∧ Sub U U' ∧ (∀ c, U c → w'.heap[c]? = w.heap[c]?) ∧
    (∀ r, rt r ≠ none → Compat tt w w' (rt r) (over rt up r) (h r) (h' r))
end

section
variable {P : Program} {tt : Tt} {cl : Cl} {w0 : World} {B0 : Bs} {rt : Nat → Option Root} {h : Nat → Option Addr × Nat} {fb : Nat → Bs} {U : Bs} {w : World}

theorem Compat.refl (x : Option Root) (hd : Option Addr × Nat) (hx : x ≠ none) : Compat tt w w x x hd hd := by
  refine .inr ⟨rfl, ?_⟩
  cases x with
  | none => exact absurd rfl hx
  | some y => cases y with
    | var own cs => exact .inr (.inr (.inl ⟨_, _, _, _, rfl, rfl⟩))
    | row own ks rows ver => exact .inl ⟨_, _, _, _, _, rfl, rfl, fun _ _ h => h⟩
    | dead => exact .inr (.inr (.inr ⟨rfl, rfl⟩))
theorem StepTo.same {v : AV} {val : Value} (hM : Mem tt cl w0 B0 rt h fb U w) (hv : VR tt cl w rt h U v val) : StepTo tt cl w0 B0 rt h fb U w [] v val w :=
  ⟨h, fb, U, by rw [over_nil]; exact hM, by rw [over_nil]; exact hv, fun _ h => h, fun _ _ => rfl, fun r hr => by rw [over_nil]; exact .refl _ _ hr⟩

theorem VR_int {k : IntKind} {n : Int} {v : Value} : VR tt cl w rt h U (.int k n) v ↔ v = .int k n := by simp [VR]
theorem VR_bool {b : Bool} {v : Value} : VR tt cl w rt h U (.bool b) v ↔ v = .bool b := by simp [VR]
theorem VR_str {s : ByteArray} {v : Value} : VR tt cl w rt h U (.str s) v ↔ v = .string s := by simp [VR]

/-! ### pick -/
theorem pick_sound {c a b v : AV} {cv av bv : Value} (hq : (pickQ c a b).Runs rt v) (hc : VR tt cl w rt h U c cv) (ha : VR tt cl w rt h U a av) (hb : VR tt cl w rt h U b bv) :
    ∃ x : Bool, cv = .bool x ∧ VR tt cl w rt h U v (if x then av else bv) := by
  unfold pickQ at hq
  split at hq
  · rename_i c
    simp only [VR] at hc
    refine ⟨c, hc, ?_⟩
    split at hq
    · simp only [Q.runs_bind, Q.runs_need, decide_eq_true_eq] at hq
      obtain ⟨_, rfl, rfl⟩ := hq
      simp only [VR] at ha hb ⊢
      cases c <;> simp [ha, hb]
    · simp only [Q.Runs] at hq; subst hq
      simp only [VR] at ha hb ⊢
      cases c <;> simp [ha, hb]
    · simp only [Q.Runs] at hq; subst hq
      simp only [VR] at ha hb ⊢
      cases c <;> simp [ha, hb]
    · simp only [Q.Runs] at hq
      obtain ⟨rfl, rfl⟩ := hq
      simpa using ha
    · simp only [Q.Runs] at hq
      obtain ⟨h1, rfl⟩ := hq
      have : c = false := by simpa using h1
      subst this
      simpa using hb
    · exact hq.elim
  · exact hq.elim

/-! ### numbers, truth values, texts -/
theorem int_sound {op : BinOp} {k : IntKind} {x y : Int} {v : AV} {t : TypeId} (h1 : op ≠ .shl) (h2 : op ≠ .shr) (hq : (intOp op k x y).Runs rt v) :
    ∃ val, (binOp op t (.int k x) (.int k y)).run P w = .ok val w ∧ VR tt cl w rt h U v val := by
  cases op <;> simp only [intOp, Q.Runs] at hq <;> first | exact hq.elim | exact absurd rfl h1 | exact absurd rfl h2 | skip
  all_goals first
    | (subst hq; refine ⟨_, ?_, VR_int.2 rfl⟩; simp [binOp, Op.intArith, Op.intBits, Sem.run, Pure.pure]; done)
    | (subst hq; refine ⟨_, ?_, VR_bool.2 rfl⟩; simp [binOp, Op.intCmp, Sem.run, Pure.pure]; done)
    | (obtain ⟨hy, rfl⟩ := hq
       have hy : ¬ y = 0 := by simpa using hy
       refine ⟨_, ?_, VR_int.2 rfl⟩; simp [binOp, Op.intDiv, hy, Sem.run, Pure.pure]; done)
theorem shift_sound {op : BinOp} {k k' : IntKind} {x y : Int} {t : TypeId} (h1 : op = .shl ∨ op = .shr) (hy : 0 ≤ y) :
    (binOp op t (.int k x) (.int k' y)).run P w = .ok (.int k (if op = .shl then k.wrap (x * 2 ^ (min y.toNat k.bits)) else x.fdiv (2 ^ (min y.toNat k.bits)))) w := by
  have : ¬ y < 0 := by omega
  rcases h1 with rfl | rfl <;> simp [binOp, Op.shift, this, Sem.run, Pure.pure]
theorem str_sound {op : BinOp} {x y : ByteArray} {v : AV} {t : TypeId} (hq : (strOp op x y).Runs rt v) :
    ∃ val, (binOp op t (.string x) (.string y)).run P w = .ok val w ∧ VR tt cl w rt h U v val := by
  cases op <;> simp only [strOp, Q.Runs] at hq <;> first | exact hq.elim | skip
  all_goals first
    | (subst hq; refine ⟨_, ?_, VR_bool.2 rfl⟩; simp [binOp, Op.stringOp, Sem.run, Pure.pure]; done)
    | (obtain ⟨hy, rfl⟩ := hq
       have hy : x.size + y.size ≤ 4294967296 := by simpa using hy
       have : ¬ ((x.size + y.size : Nat) : Int) > IntKind.i64.max := by simp [IntKind.max, IntKind.signed, IntKind.bits]; omega
       refine ⟨_, ?_, VR_str.2 rfl⟩; simp only [binOp, Op.stringOp, if_neg this, Sem.run, Pure.pure]; done)

/-! ### values compared -/
theorem eqCells_len : ∀ {ks : List Ck} {a c : List AV} {r : Bool}, eqCells ks a c = some r → a.length = ks.length ∧ c.length = ks.length
  | [], [], [], r, h => by simp
  | k :: ks, x :: l, y :: m, r, h => by
    simp only [eqCells] at h
    cases hx : eqCell k x y with
    | none => simp [hx] at h
    | some e => cases hr : eqCells ks l m with
      | none => simp [hx, hr] at h
      | some f => simp [eqCells_len hr]
  | [], _ :: _, _, _, h => by simp [eqCells] at h
  | [], [], _ :: _, _, h => by simp [eqCells] at h
  | _ :: _, [], _, _, h => by simp [eqCells] at h
  | _ :: _, _ :: _, [], _, h => by simp [eqCells] at h
theorem eqCells_split : ∀ (n : Nat) {ks : List Ck} {a c : List AV} {r : Bool}, eqCells ks a c = some r →
    ∃ r1 r2, eqCells (ks.take n) (a.take n) (c.take n) = some r1 ∧ eqCells (ks.drop n) (a.drop n) (c.drop n) = some r2 ∧ r = (r1 && r2)
  | 0, ks, a, c, r, h => ⟨true, r, by simp [eqCells], by simpa using h, by simp⟩
  | n + 1, [], [], [], r, h => ⟨true, r, by simp [eqCells], by simpa using h, by simp⟩
  | n + 1, k :: ks, x :: a, y :: c, r, h => by
    simp only [eqCells, List.take_succ_cons, List.drop_succ_cons] at h ⊢
    cases hx : eqCell k x y with
    | none => simp [hx] at h
    | some e => cases hr : eqCells ks a c with
      | none => simp [hx, hr] at h
      | some f =>
        simp only [hx, hr, Option.some.injEq] at h
        obtain ⟨r1, r2, h1, h2, h3⟩ := eqCells_split n hr
        exact ⟨e && r1, r2, by simp [h1], h2, by rw [← h, h3, Bool.and_assoc]⟩
  | _ + 1, [], _ :: _, _, _, h => by simp [eqCells] at h
  | _ + 1, [], [], _ :: _, _, h => by simp [eqCells] at h
  | _ + 1, _ :: _, [], _, _, h => by simp [eqCells] at h
  | _ + 1, _ :: _, _ :: _, [], _, h => by simp [eqCells] at h
theorem VRs_len {l : List AV} {m : List Value} (hv : VRs tt cl w rt h U l m) : l.length = m.length := by
  induction l generalizing m with
  | nil => cases m with
    | nil => rfl
    | cons v m => simp [VRs] at hv
  | cons x l ih => cases m with
    | nil => simp [VRs] at hv
    | cons v m => simp only [VRs] at hv; simp [ih hv.2]
theorem VRs_drop {l : List AV} {m : List Value} (hv : VRs tt cl w rt h U l m) (n : Nat) : VRs tt cl w rt h U (l.drop n) (m.drop n) := by
  induction n generalizing l m with
  | zero => simpa using hv
  | succ n ih => cases l with
    | nil => cases m with
      | nil => simpa using hv
      | cons v m => simp [VRs] at hv
    | cons x l => cases m with
      | nil => simp [VRs] at hv
      | cons v m => simp only [VRs] at hv; simpa using ih hv.2
theorem VRs_take {l : List AV} {m : List Value} (hv : VRs tt cl w rt h U l m) (n : Nat) : VRs tt cl w rt h U (l.take n) (m.take n) := by
  induction n generalizing l m with
  | zero => simp [VRs]
  | succ n ih => cases l with
    | nil => cases m with
      | nil => simpa using hv
      | cons v m => simp [VRs] at hv
    | cons x l => cases m with
      | nil => simp [VRs] at hv
      | cons v m => simp only [VRs] at hv; simp [VRs, hv.1, ih hv.2]
theorem VRs_append {l l' : List AV} {m m' : List Value} (hv : VRs tt cl w rt h U l m) (hv' : VRs tt cl w rt h U l' m') : VRs tt cl w rt h U (l ++ l') (m ++ m') := by
  induction l generalizing m with
  | nil => cases m with
    | nil => simpa using hv'
    | cons v m => simp [VRs] at hv
  | cons x l ih => cases m with
    | nil => simp [VRs] at hv
    | cons v m => simp only [VRs] at hv; simp [VRs, hv.1, ih hv.2]
theorem VRs_nth {l : List AV} {m : List Value} (hv : VRs tt cl w rt h U l m) {j : Nat} (hj : j < l.length) : ∃ v, m[j]? = some v ∧ VR tt cl w rt h U (nth .undef l j) v := by
  induction l generalizing m j with
  | nil => simp at hj
  | cons x l ih => cases m with
    | nil => simp [VRs] at hv
    | cons v m =>
      simp only [VRs] at hv
      cases j with
      | zero => exact ⟨v, rfl, hv.1⟩
      | succ j => simpa [nth] using ih hv.2 (by simpa using hj)
/-- a value of a type out of its cells -/
def mkV (agg : Bool) (vs : List Value) : Value := if agg then .agg vs.toArray else vs.headD Go.undef
theorem part_run (hP : ttOk P tt = true) {t : TypeId} (ht : tt.has t = true) (cs : Array Value) (off : Nat) (hn : (tt.at t).agg = false → off < cs.size) (h1 : (tt.at t).agg = false → (tt.at t).ks.length = 1) :
    (part t cs off).run P w = .ok (mkV (tt.at t).agg ((cs.toList.drop off).take (tt.at t).ks.length)) w := by
  simp only [part, Sem.run_bind, agg_run hP ht, Result.andThen_ok]
  cases ha : (tt.at t).agg with
  | true =>
    simp only [if_true, Sem.run_bind, size_run hP ht, Result.andThen_ok, mkV]
    simp only [if_true, Pure.pure, Sem.run, Result.ok.injEq, Value.agg.injEq, and_true]
    apply Array.ext'
    simp [List.extract_eq_take_drop]
  | false =>
    have := hn ha
    simp only [Bool.false_eq_true, if_false, mkV, h1 ha]
    rw [List.drop_eq_getElem_cons (by simpa using this)]
    simp [this, Array.getElem?_eq_getElem, Pure.pure, Sem.run]
theorem prim_facts (hP : ttOk P tt = true) {t : TypeId} (hd : (tt.at t).d = .prim) : (tt.at t).agg = false ∧
    ((∃ k, (tt.at t).ks = [.int k] ∧ P.underlying t = some (.int k)) ∨ ((tt.at t).ks = [.bool] ∧ P.underlying t = some .bool) ∨ ((tt.at t).ks = [.str] ∧ P.underlying t = some .string)) := by
  have := (type_facts hP (t := t) (by simp [Tt.has, hd])).desc
  unfold descOk at this
  rw [hd] at this
  split at this <;> simp_all
  all_goals (split at this <;> simp_all)
theorem sames_eq : ∀ {a b : List Ck}, Ck.sames a b = true → a = b
  | [], [], _ => rfl
  | x :: a, y :: b, h => by
    simp only [Ck.sames, Bool.and_eq_true] at h
    rw [sames_eq h.2]
    have : x = y := by
      cases x <;> cases y <;> simp_all [Ck.same]
      all_goals first | exact Nat.eq_of_beq_eq_true h.1 | skip
    rw [this]
  | [], _ :: _, h => by simp [Ck.sames] at h
  | _ :: _, [], h => by simp [Ck.sames] at h
theorem one_cell (hP : ttOk P tt = true) {n : Nat} {t : TypeId} (ht : eqTy tt n t = true) (ha : (tt.at t).agg = false) : (tt.at t).ks.length = 1 := by
  cases n with
  | zero => simp [eqTy] at ht
  | succ n =>
    simp only [eqTy] at ht
    split at ht
    · rename_i hd; obtain ⟨_, ⟨k, h, _⟩ | ⟨h, _⟩ | ⟨h, _⟩⟩ := prim_facts hP hd <;> simp [h]
    · rename_i fs hd; obtain ⟨F, _, _, hg, _⟩ := und_struct hP hd; rw [ha] at hg; cases hg
    · simp at ht
theorem eq_sound (hP : ttOk P tt = true) (n : Nat) : ∀ (d : Nat) {t : TypeId} (_ : eqTy tt n t = true) {xs ys : List AV} {vx vy : List Value} {b : Bool},
    VRs tt cl w rt h U xs vx → VRs tt cl w rt h U ys vy → eqCells (tt.at t).ks xs ys = some b →
    (Op.equalIn (d + n) t (mkV (tt.at t).agg vx) (mkV (tt.at t).agg vy)).run P w = .ok b w := by
  induction n with
  | zero => intro d t ht; simp [eqTy] at ht
  | succ n ih =>
    intro d t ht xs ys vx vy b hx hy he
    rw [← Nat.add_assoc]
    simp only [eqTy] at ht
    split at ht
    · rename_i hd
      obtain ⟨ha, hu⟩ := prim_facts hP hd
      have hs : (tt.at t).ks.length = 1 := by obtain ⟨k, h, _⟩ | ⟨h, _⟩ | ⟨h, _⟩ := hu <;> simp [h]
      obtain ⟨l1, l2⟩ := eqCells_len he
      rw [hs] at l1 l2
      obtain ⟨x, rfl⟩ := List.length_eq_one_iff.1 l1
      obtain ⟨y, rfl⟩ := List.length_eq_one_iff.1 l2
      obtain ⟨u, rfl⟩ := List.length_eq_one_iff.1 ((VRs_len hx).symm.trans l1)
      obtain ⟨v, rfl⟩ := List.length_eq_one_iff.1 ((VRs_len hy).symm.trans l2)
      simp only [VRs, and_true] at hx hy
      simp only [ha, mkV, Bool.false_eq_true, if_false, List.headD_cons]
      obtain ⟨k, hk, hu⟩ | ⟨hk, hu⟩ | ⟨hk, hu⟩ := hu <;> rw [hk] at he <;> simp only [eqCells] at he
      · cases hc : eqCell (.int k) x y with
        | none => simp [hc] at he
        | some c =>
          simp only [hc, Bool.and_true, Option.some.injEq] at he
          subst he
          cases x <;> cases y <;> simp only [eqCell] at hc <;> try (simp at hc; done)
          rename_i j m j' m'
          cases hk2 : (decide (j = k) && decide (j' = k)) with
          | false => simp [hk2] at hc
          | true =>
            simp only [hk2, cond_true, Option.some.injEq] at hc
            simp only [Bool.and_eq_true, decide_eq_true_eq] at hk2
            obtain ⟨rfl, rfl⟩ := hk2
            cases VR_int.1 hx; cases VR_int.1 hy
            simp only [Op.equalIn, Sem.run_bind, run_underlying hu, Result.andThen_ok]
            simp [Pure.pure, Sem.run, hc]
      · cases hc : eqCell .bool x y with
        | none => simp [hc] at he
        | some c =>
          simp only [hc, Bool.and_true, Option.some.injEq] at he
          subst he
          cases x <;> cases y <;> simp only [eqCell] at hc <;> try (simp at hc; done)
          cases VR_bool.1 hx; cases VR_bool.1 hy
          simp only [Op.equalIn, Sem.run_bind, run_underlying hu, Result.andThen_ok]
          simpa [Pure.pure, Sem.run] using hc
      · cases x <;> cases y <;> simp [eqCell] at he
    · rename_i fs hd
      obtain ⟨F, hu, hF, ha, hnm, hp, _⟩ := und_struct hP hd
      have hf : P.fieldsOf t = F := by simp [Program.fieldsOf, hu]
      simp only [ha, mkV, if_true]
      rw [run_equalIn_struct (P := P) w (d + n) t vx.toArray vy.toArray (by rw [hf]; exact hu) hp, hf]
      -- field by field
      have key : ∀ (L : List Field) (cur : Nat) (ks : List Ck) (b : Bool), (∀ f ∈ L, f.name ≠ "_") → eqFs tt (eqTy tt n) (L.map fun f => (f.offset, f.type)) cur ks = true →
          eqCells ks (xs.drop cur) (ys.drop cur) = some b → (Op.eqFields (d + n) vx.toArray vy.toArray L).run P w = .ok b w := by
        intro L
        induction L with
        | nil =>
          intro cur ks b _ h1 h2
          simp only [List.map_nil, eqFs, List.isEmpty_iff] at h1
          subst h1
          cases hxd : xs.drop cur <;> cases hyd : ys.drop cur <;> simp_all [eqCells, Op.eqFields, Pure.pure, Sem.run]
        | cons f L ihL =>
          intro cur ks b hn h1 h2
          simp only [List.map_cons, eqFs, Bool.and_eq_true] at h1
          obtain ⟨⟨⟨⟨h3, h4⟩, h5⟩, h6⟩, h7⟩ := h1
          have h3 := Nat.eq_of_beq_eq_true h3
          have h6 := sames_eq h6
          obtain ⟨r1, r2, e1, e2, e3⟩ := eqCells_split (tt.at f.type).ks.length h2
          rw [h6] at e1
          rw [List.drop_drop, List.drop_drop] at e2
          have g1 := ih d h5 (VRs_take (VRs_drop hx cur) _) (VRs_take (VRs_drop hy cur) _) e1
          have g2 := ihL _ _ _ (fun f hf => hn f (List.mem_cons_of_mem _ hf)) h7 e2
          obtain ⟨q1, q2⟩ := eqCells_len e1
          simp only [List.length_take, List.length_drop] at q1 q2
          have o1 : (tt.at f.type).agg = false → f.offset < vx.toArray.size := by
            intro hg; have := one_cell hP h5 hg; have := VRs_len hx; simp; omega
          have o2 : (tt.at f.type).agg = false → f.offset < vy.toArray.size := by
            intro hg; have := one_cell hP h5 hg; have := VRs_len hy; simp; omega
          have p1 := part_run (w := w) hP h4 vx.toArray f.offset o1 (one_cell hP h5)
          have p2 := part_run (w := w) hP h4 vy.toArray f.offset o2 (one_cell hP h5)
          rw [h3] at p1 p2
          rw [Op.eqFields]
          simp only [if_pos (hn f (by simp)), Sem.run_bind, h3, p1, p2, Result.andThen_ok, g1]
          rw [e3]
          cases r1
          · simp [Pure.pure, Sem.run]
          · simpa using g2
      exact key F.toList 0 (tt.at t).ks b hnm (by rw [hF]; exact ht) (by simpa using he)
    · simp at ht

/-! ### binary operations -/
theorem eval_guard_int {op : BinOp} {t : TypeId} {x y : Operand} {a b : Value} (ha : ∀ cs, a ≠ .agg cs) (hn : a ≠ .nilIface) : (eqGuard op t x y a b).run P w = .ok () w := by
  cases op <;> cases a <;> first | exact absurd rfl hn | exact absurd rfl (ha _) | simp [eqGuard, Pure.pure, Sem.run]
theorem eqIn_bool (d : Nat) {t : TypeId} (hu : P.underlying t = some .bool) (a b : Bool) : (Op.equalIn (d + 1) t (.bool a) (.bool b)).run P w = .ok (a == b) w := by
  simp only [Op.equalIn, Sem.run_bind, run_underlying hu, Result.andThen_ok]
  simp [Pure.pure, Sem.run]
theorem bin_sound (hP : ttOk P tt = true) {op : BinOp} {t : TypeId} {x y v : AV} {ox oy : Operand} {vx vy : Value} (hq : (binQ tt op t x y).Runs rt v)
    (hx : VR tt cl w rt h U x vx) (hy : VR tt cl w rt h U y vy) :
    ∃ val, (do eqGuard op t ox oy vx vy; binOp op t vx vy : Sem Value).run P w = .ok val w ∧ VR tt cl w rt h U v val := by
  unfold binQ at hq
  split at hq
  · rename_i k a k' b
    cases VR_int.1 hx; cases VR_int.1 hy
    simp only [Sem.run_bind, eval_guard_int (P := P) (w := w) (op := op) (t := t) (x := ox) (y := oy) (a := .int k a) (b := .int k' b) (by simp) (by simp), Result.andThen_ok]
    split at hq
    · simp only [Q.Runs] at hq
      obtain ⟨h1, rfl⟩ := hq
      exact ⟨_, shift_sound (.inl rfl) (by simpa using h1), VR_int.2 (by simp)⟩
    · simp only [Q.Runs] at hq
      obtain ⟨h1, rfl⟩ := hq
      exact ⟨_, shift_sound (.inr rfl) (by simpa using h1), VR_int.2 (by simp)⟩
    · rename_i h1 h2
      simp only [Q.runs_bind, Q.runs_need, decide_eq_true_eq] at hq
      obtain ⟨_, rfl, hq⟩ := hq
      exact int_sound h1 h2 hq
  · rename_i a b
    cases VR_str.1 hx; cases VR_str.1 hy
    simp only [Sem.run_bind, eval_guard_int (P := P) (w := w) (op := op) (t := t) (x := ox) (y := oy) (a := .string a) (b := .string b) (by simp) (by simp), Result.andThen_ok]
    exact str_sound hq
  · rename_i a b
    cases VR_bool.1 hx; cases VR_bool.1 hy
    simp only [Sem.run_bind, eval_guard_int (P := P) (w := w) (op := op) (t := t) (x := ox) (y := oy) (a := .bool a) (b := .bool b) (by simp) (by simp), Result.andThen_ok]
    have hu : isBool tt t = true → P.underlying t = some .bool := by
      intro hb
      unfold isBool at hb
      split at hb
      · rename_i hd hk
        obtain ⟨_, ⟨k, h, _⟩ | ⟨_, h⟩ | ⟨h, _⟩⟩ := prim_facts hP hd
        · rw [hk] at h; simp at h
        · exact h
        · rw [hk] at h; simp at h
      · simp at hb
    split at hq
    · simp only [Q.runs_bind, Q.runs_need] at hq
      obtain ⟨_, h1, rfl⟩ := hq
      refine ⟨.bool (a == b), ?_, VR_bool.2 rfl⟩
      have := eqIn_bool (w := w) 9999 (hu h1) a b
      simp only [binOp, Op.equal, Op.maxDepth, Sem.run_bind]
      simp [this, Pure.pure, Sem.run]
    · simp only [Q.runs_bind, Q.runs_need] at hq
      obtain ⟨_, h1, rfl⟩ := hq
      refine ⟨.bool (!(a == b)), ?_, VR_bool.2 rfl⟩
      have := eqIn_bool (w := w) 9999 (hu h1) a b
      simp only [binOp, Op.equal, Op.maxDepth, Sem.run_bind]
      simp [this, Pure.pure, Sem.run]
    · exact hq.elim
  · rename_i cs ds
    simp only [Q.runs_bind, Q.runs_need, Bool.and_eq_true] at hq
    obtain ⟨_, ⟨⟨h1, h2⟩, h3⟩, hq⟩ := hq
    simp only [VR] at hx hy
    obtain ⟨vs, rfl, hx⟩ := hx
    obtain ⟨us, rfl, hy⟩ := hy
    have hg : P.eqGuardType P.depth t = false := by
      have hd : ∃ fs, (tt.at t).d = .struct fs := by
        simp only [eqTy] at h2
        split at h2
        · rename_i hd; rw [(prim_facts hP hd).1] at h3; simp at h3
        · exact ⟨_, by assumption⟩
        · simp at h2
      obtain ⟨fs, hd⟩ := hd
      obtain ⟨F, _, _, _, _, _, h⟩ := und_struct hP hd
      exact h
    simp only [Sem.run_bind, run_eqGuard_agg (P := P) w op t ox oy vs us hg, Result.andThen_ok]
    split at hq <;> rename_i hb
    · simp only [Q.Runs] at hq; subst hq
      have := eq_sound hP 8 9992 h2 hx hy hb
      simp only [mkV, h3, if_true] at this
      refine ⟨_, ?_, VR_bool.2 rfl⟩
      rw [run_eql_struct]
      simp [this]
    · simp only [Q.Runs] at hq; subst hq
      have := eq_sound hP 8 9992 h2 hx hy hb
      simp only [mkV, h3, if_true] at this
      refine ⟨_, ?_, VR_bool.2 rfl⟩
      simp only [binOp, Op.equal, Op.maxDepth, Sem.run_bind]
      simp [this, Pure.pure, Sem.run]
    · exact hq.elim
  · exact hq.elim
end
end Go.Ev
end
section
/- The evaluator: reading operations. -/
set_option linter.unusedSimpArgs false
namespace Go.Ev
section
variable {P : Program} {tt : Tt} {cl : Cl} {w0 : World} {B0 : Bs} {rt : Nat → Option Root} {h : Nat → Option Addr × Nat} {fb : Nat → Bs} {U : Bs} {w : World}

theorem add_at (b o n : Nat) : (⟨b, o, none⟩ : Addr).add n = ⟨b, o + n, none⟩ := by
  unfold Addr.add; split <;> simp_all

/-! ### rows -/
theorem askRows_runs {r : Nat} {p : Path} {ver : Nat} {x : Bool × List Ck × List (List D)} : (askRows tt r p ver).Runs rt x ↔
    ∃ own ks rows v, rt r = some (.row own ks rows v) ∧ pathOk p v ver = true ∧ x = (own, ksAt tt ks p, rowsAt rows p) := by
  simp only [askRows, Q.Runs]
  constructor
  · intro hq
    split at hq
    · rename_i own ks rows v hr
      simp only [Q.runs_bind, Q.runs_need, Q.runs_ok] at hq
      obtain ⟨_, h1, h2⟩ := hq
      exact ⟨own, ks, rows, v, hr, h1, h2.symm⟩
    · exact hq.elim
  · rintro ⟨own, ks, rows, v, hr, h1, rfl⟩
    simp only [hr, Q.runs_bind, Q.runs_need, Q.runs_ok]
    exact ⟨(), h1, trivial⟩
def side (fb : Nat → Bs) (U : Bs) (own : Bool) (r : Nat) : Bs := bif own then fb r else U
theorem slw_rd (hM : Mem tt cl w0 B0 rt h fb U w) {r : Nat} {p : Path} {ver : Nat} {val : Value} (hv : VR tt cl w rt h U (.slw r p ver) val)
    {own : Bool} {ks : List Ck} {rows : List (List D)} (hq : (askRows tt r p ver).Runs rt (own, ks, rows)) :
    ∃ a cap, val = .slice a rows.length cap ∧ Rd tt w own (.W ks a cap rows) (side fb U own r) := by
  obtain ⟨own', ks', rows', v, hr, hp, e⟩ := askRows_runs.1 hq
  simp only [Prod.mk.injEq] at e
  obtain ⟨rfl, rfl, rfl⟩ := e
  simp only [VR] at hv
  have h1 := (hv.2 _ _ _ _ hr).2 hp
  exact W_path (hM.rts r _ hr) h1
theorem W_sub {own : Bool} {ks : List Ck} {a0 : Option Addr} {cap0 : Nat} {rows : List (List D)} {B : Bs} (hw : Rd tt w own (.W ks a0 cap0 rows) B) {off len cap : Nat} {a : Option Addr}
    (hl : off + len ≤ rows.length) (hc : (cap = 0 ∧ len = 0) ∨ ∃ b o, a0 = some ⟨b, o, none⟩ ∧ a = some ⟨b, o + off * ks.length, none⟩ ∧ len ≤ cap ∧ off + cap ≤ cap0) :
    ((rows.drop off).take len).length = len ∧ Rd tt w own (.W ks a cap ((rows.drop off).take len)) B := by
  have hlen : ((rows.drop off).take len).length = len := by simp; omega
  refine ⟨hlen, ?_⟩
  rcases hc with ⟨rfl, rfl⟩ | ⟨b, o, rfl, rfl, hle, hcap⟩
  · simpa using .wnil
  · cases hw with
    | wnil =>
      have h0 : cap = 0 := by omega
      subst h0
      have h1 : len = 0 := by omega
      subst h1
      simpa using .wnil
    | w hc hr h1 hb hs hn =>
      obtain ⟨B1, B2, g1, g2, t1, t2, td⟩ := R_split off (by omega) h1
      obtain ⟨C1, C2, f1, f2, u1, u2, ud⟩ := R_split len (by simp; omega) g2
      refine .w (by omega) (fun e => ?_) f1 hb (fun c hc => hs c (t2 c (u1 c hc))) (fun e hc => hn e (t2 _ (u1 _ hc)))
      obtain ⟨c, t, h2, h3⟩ := hr e
      refine ⟨c, t, h2, Nat.le_trans ?_ h3⟩
      rw [Nat.add_assoc, ← Nat.add_mul]
      exact Nat.add_le_add_left (Nat.mul_le_mul_right _ hcap) _
theorem sl_rd (hM : Mem tt cl w0 B0 rt h fb U w) {r : Nat} {p : Path} {off len ver : Nat} {val : Value} (hv : VR tt cl w rt h U (.sl r p off len ver) val)
    {own : Bool} {ks : List Ck} {rows : List (List D)} (hq : (askRows tt r p ver).Runs rt (own, ks, rows)) :
    ∃ a cap, val = .slice a len cap ∧ off + len ≤ rows.length ∧ ((rows.drop off).take len).length = len ∧ Rd tt w own (.W ks a cap ((rows.drop off).take len)) (side fb U own r) := by
  obtain ⟨own', ks', rows', v, hr, hp, e⟩ := askRows_runs.1 hq
  simp only [Prod.mk.injEq] at e
  obtain ⟨rfl, rfl, rfl⟩ := e
  simp only [VR] at hv
  obtain ⟨a0, n0, cap0, a, cap, h1, h2, h3, h4⟩ := (hv.2 _ _ _ _ hr).2 hp
  obtain ⟨a', cap', e1, e2⟩ := W_path (hM.rts r _ hr) h1
  simp only [Value.slice.injEq] at e1
  obtain ⟨rfl, rfl, rfl⟩ := e1
  obtain ⟨g1, g2⟩ := W_sub e2 h2 h4
  exact ⟨a, cap, h3, h2, g1, g2⟩
/-- a pointer to a cell of a row -/
theorem ptr_rd (hM : Mem tt cl w0 B0 rt h fb U w) {r : Nat} {p : Path} {i c ver : Nat} {val : Value} (hv : VR tt cl w rt h U (.ptr r p i c ver) val)
    {own : Bool} {ks : List Ck} {rows : List (List D)} {rv : Nat} (hr : rt r = some (.row own ks rows rv)) (hp : pathOk p rv ver = true) :
    ∃ b o n cap B, val = .pointer (some ⟨b, o + i * (ksAt tt ks p).length + c, none⟩) ∧ HdrAt tt w ks (.slice (h r).1 rows.length (h r).2) p (.slice (some ⟨b, o, none⟩) n cap) ∧
      n = (rowsAt rows p).length ∧ i < n ∧ Rd tt w own (.W (ksAt tt ks p) (some ⟨b, o, none⟩) cap (rowsAt rows p)) (side fb U own r) ∧
      Rd tt w own (.S (ksAt tt ks p) b (o + i * (ksAt tt ks p).length) (nth [] (rowsAt rows p) i)) B ∧ Sub B (side fb U own r) := by
  simp only [VR] at hv
  obtain ⟨b, o, n, cap, h1, h2, h3⟩ := (hv.2.1 _ _ _ _ hr).2 hp
  obtain ⟨a', cap', e1, e2⟩ := W_path (hM.rts r _ hr) h1
  simp only [Value.slice.injEq] at e1
  obtain ⟨rfl, rfl, rfl⟩ := e1
  obtain ⟨B', g1, g2, _⟩ := W_hdr e2 rfl h2
  exact ⟨b, o, _, cap, B', h3, h1, rfl, h2, e2, R_get g1 h2, g2⟩
/-- cells out of a row's element -/
theorem cellAV_vr {r : Nat} {p : Path} {ver : Nat} {k : Ck} {d : D} {v : Value} {B : Bs} {own : Bool} (hd : Rd tt w own (.C k v d) B)
    (hs : ∀ e, k = .sl e → VR tt cl w rt h U (.slw r p ver) v) : VR tt cl w rt h U (cellAV r p ver k d) v := by
  cases hd with
  | int => exact VR_int.2 rfl
  | bool => exact VR_bool.2 rfl
  | str => exact VR_str.2 rfl
  | sl hw => exact hs _ rfl
theorem cellsAV_vr (hM : Mem tt cl w0 B0 rt h fb U w) {r : Nat} {p : Path} {i : Nat} {own : Bool} {ks : List Ck} {rows : List (List D)} {rv : Nat} (hr : rt r = some (.row own ks rows rv))
    {b o n cap : Nat} (hh : HdrAt tt w ks (.slice (h r).1 rows.length (h r).2) p (.slice (some ⟨b, o, none⟩) n cap)) (hi : i < n) {B : Bs}
    (hS : Rd tt w own (.S (ksAt tt ks p) b (o + i * (ksAt tt ks p).length) (nth [] (rowsAt rows p) i)) B) :
    ∀ (m c : Nat), c + m ≤ (ksAt tt ks p).length → ∃ vs : List Value, vs.length = m ∧ (∀ j, j < m → w.cell? ⟨b, o + i * (ksAt tt ks p).length + c + j, none⟩ = vs[j]?) ∧
      VRs tt cl w rt h U (cellsAV r p i rv (ksAt tt ks p) (nth [] (rowsAt rows p) i) m c) vs := by
  intro m
  induction m with
  | zero => intro c _; exact ⟨[], rfl, fun j hj => absurd hj (by omega), by simp [cellsAV, VRs]⟩
  | succ m ih =>
    intro c hc
    obtain ⟨vs, h1, h2, h3⟩ := ih (c + 1) (by omega)
    obtain ⟨v, g1, g2⟩ := S_get hS (j := c) (by omega)
    refine ⟨v :: vs, by simp [h1], ?_, ?_⟩
    · intro j hj
      cases j with
      | zero => simpa using g1
      | succ j =>
        have := h2 j (by omega)
        rw [show o + i * (ksAt tt ks p).length + c + (j + 1) = o + i * (ksAt tt ks p).length + (c + 1) + j by omega]
        simpa using this
    · simp only [cellsAV, VRs]
      refine ⟨cellAV_vr g2 fun e hk => ?_, h3⟩
      simp only [VR]
      refine ⟨by rw [hr]; simp, fun own' ks' rows' rv' hr' => ?_⟩
      rw [hr] at hr'; cases hr'
      exact ⟨fun _ => Nat.le_refl _, fun _ => HdrAt.snoc hh rfl hi (by omega) hk g1⟩

/-! ### loads -/
theorem loadCellsFrom_run {a : Addr} : ∀ (n i : Nat) (acc : Array Value) (vs : List Value), vs.length = n → (∀ j, j < n → w.cell? (a.add (i + j)) = vs[j]?) →
    (loadCellsFrom a i n acc).run P w = .ok (acc ++ vs.toArray) w := by
  intro n
  induction n with
  | zero => intro i acc vs hl _; cases vs with
    | nil => simp [loadCellsFrom, Pure.pure, Sem.run]
    | cons v vs => simp at hl
  | succ n ih =>
    intro i acc vs hl hc
    cases vs with
    | nil => simp at hl
    | cons v vs =>
      have h0 : w.cell? (a.add i) = some v := by simpa using hc 0 (by omega)
      have hr : (load (a.add i)).run P w = .ok v w := by simp [load, Sem.run, h0]
      simp only [loadCellsFrom, Sem.run_bind, hr, Result.andThen_ok]
      rw [ih (i + 1) (acc.push v) vs (by simpa using hl) fun j hj => by
        have := hc (j + 1) (by omega)
        rw [show i + (j + 1) = i + 1 + j by omega] at this
        simpa using this]
      simp
theorem loadVar_run (hP : ttOk P tt = true) {t : TypeId} (ht : tt.has t = true) {b o : Nat} {vs : List Value} (hl : vs.length = (tt.at t).ks.length)
    (hc : ∀ j, j < vs.length → w.cell? ⟨b, o + j, none⟩ = vs[j]?) (h1 : (tt.at t).agg = false → vs.length = 1) :
    (Instr.loadAt t (.pointer (some ⟨b, o, none⟩))).run P w = .ok (mkV (tt.at t).agg vs) w := by
  simp only [Instr.loadAt, Instr.sureAddr, loadVar, Sem.run_bind, agg_run hP ht, Pure.pure, Sem.run, Result.andThen_ok]
  cases ha : (tt.at t).agg with
  | true =>
    simp only [if_true, Sem.run_bind, size_run hP ht, Result.andThen_ok, mkV, loadCells]
    rw [loadCellsFrom_run _ 0 #[] vs hl fun j hj => by rw [add_at]; simpa using hc j (by omega)]
    simp [Pure.pure, Sem.run]
  | false =>
    obtain ⟨v, rfl⟩ := List.length_eq_one_iff.1 (h1 ha)
    have := hc 0 (by simp)
    simp only [Nat.add_zero, List.getElem?_cons_zero] at this
    simp [load, Sem.run, this, mkV]
theorem mkAV_runs {agg : Bool} {cs : List AV} {v : AV} (hq : (mkAV agg cs).Runs rt v) {vs : List Value} (hv : VRs tt cl w rt h U cs vs) :
    VR tt cl w rt h U v (mkV agg vs) ∧ (agg = false → vs.length = 1) := by
  cases agg with
  | true =>
    simp only [mkAV, cond_true, Q.Runs] at hq
    subst hq
    exact ⟨by simp only [VR, mkV, if_true]; exact ⟨_, rfl, by simpa using hv⟩, by simp⟩
  | false =>
    simp only [mkAV, cond_false] at hq
    split at hq
    · simp only [Q.Runs] at hq; subst hq
      cases vs with
      | nil => simp [VRs] at hv
      | cons u vs => cases vs with
        | nil => simp only [VRs, and_true] at hv; simpa [mkV] using hv
        | cons _ _ => simp [VRs] at hv
    · exact hq.elim
theorem var_at (hM : Mem tt cl w0 B0 rt h fb U w) {r : Nat} {own : Bool} {cs : List AV} (hr : rt r = some (.var own cs)) :
    ∃ b c t fr, (h r).1 = some ⟨b, 0, none⟩ ∧ w.heap[b]? = some (.cells c t fr) ∧ VRs tt cl w rt h U cs c.toList ∧ (own = true → fr = (0, 0) ∧ fb r b) ∧ (own = false → U b) := hM.rts r _ hr
theorem cell_of_block {b : Nat} {c : Array Value} {t : TypeId} {fr : Nat × Nat} (hb : w.heap[b]? = some (.cells c t fr)) (o : Nat) : w.cell? ⟨b, o, none⟩ = c[o]? := by
  simp [World.cell?, hb]

/-! element i of cells that are alike -/
theorem VRs_cons {x : AV} {l : List AV} {vs : List Value} (hv : VRs tt cl w rt h U (x :: l) vs) : ∃ u us, vs = u :: us ∧ VR tt cl w rt h U x u ∧ VRs tt cl w rt h U l us := by
  cases vs with
  | nil => simp [VRs] at hv
  | cons u us => simp only [VRs] at hv; exact ⟨u, us, rfl, hv.1, hv.2⟩
theorem ints_vr {k : IntKind} {cs : List AV} {ds : List D} {vs : List Value} (hq : ints k cs = some ds) (hv : VRs tt cl w rt h U cs vs) {i : Nat} (hi : i < cs.length) :
    vs[i]? = some (.int k (nth D.z ds i).i) := by
  induction cs generalizing ds vs i with
  | nil => simp at hi
  | cons x l ih =>
    obtain ⟨u, us, rfl, h1, h2⟩ := VRs_cons hv
    cases x <;> simp only [ints] at hq <;> try (simp at hq; done)
    rename_i k' n
    cases hk : decide (k' = k) with
    | false => simp [hk] at hq
    | true =>
      have := of_decide_eq_true hk
      subst this
      cases hl : ints k' l with
      | none => simp [hl] at hq
      | some es =>
        rw [hk] at hq
        simp only [hl, cond_true, Option.some.injEq] at hq
        subst hq
        cases VR_int.1 h1
        cases i with
        | zero => rfl
        | succ i => simpa [nth] using ih hl h2 (by simpa using hi)
theorem bools_vr {cs : List AV} {ds : List D} {vs : List Value} (hq : bools cs = some ds) (hv : VRs tt cl w rt h U cs vs) {i : Nat} (hi : i < cs.length) :
    vs[i]? = some (.bool (nth D.z ds i).b) := by
  induction cs generalizing ds vs i with
  | nil => simp at hi
  | cons x l ih =>
    obtain ⟨u, us, rfl, h1, h2⟩ := VRs_cons hv
    cases x <;> simp only [bools] at hq <;> try (simp at hq; done)
    cases hl : bools l with
    | none => simp [hl] at hq
    | some es =>
      simp only [hl, Option.some.injEq] at hq
      subst hq
      cases VR_bool.1 h1
      cases i with
      | zero => rfl
      | succ i => simpa [nth] using ih hl h2 (by simpa using hi)
theorem strs_vr {cs : List AV} {ds : List D} {vs : List Value} (hq : strs cs = some ds) (hv : VRs tt cl w rt h U cs vs) {i : Nat} (hi : i < cs.length) :
    vs[i]? = some (.string (nth D.z ds i).s) := by
  induction cs generalizing ds vs i with
  | nil => simp at hi
  | cons x l ih =>
    obtain ⟨u, us, rfl, h1, h2⟩ := VRs_cons hv
    cases x <;> simp only [strs] at hq <;> try (simp at hq; done)
    cases hl : strs l with
    | none => simp [hl] at hq
    | some es =>
      simp only [hl, Option.some.injEq] at hq
      subst hq
      cases VR_str.1 h1
      cases i with
      | zero => rfl
      | succ i => simpa [nth] using ih hl h2 (by simpa using hi)
theorem pickCell_vr {cs : List AV} {i : Nat} {v : AV} {vs : List Value} (hq : (pickCell cs i).Runs rt v) (hv : VRs tt cl w rt h U cs vs) (hi : i < cs.length) :
    ∃ u, vs[i]? = some u ∧ VR tt cl w rt h U v u := by
  unfold pickCell at hq
  split at hq
  · split at hq
    · simp only [Q.Runs] at hq; subst hq
      exact ⟨_, ints_vr (by assumption) hv hi, VR_int.2 rfl⟩
    · exact hq.elim
  · split at hq
    · simp only [Q.Runs] at hq; subst hq
      exact ⟨_, bools_vr (by assumption) hv hi, VR_bool.2 rfl⟩
    · exact hq.elim
  · split at hq
    · simp only [Q.Runs] at hq; subst hq
      exact ⟨_, strs_vr (by assumption) hv hi, VR_str.2 rfl⟩
    · exact hq.elim
  · exact hq.elim

theorem load_sound (hP : ttOk P tt = true) (hM : Mem tt cl w0 B0 rt h fb U w) {t : TypeId} {x v : AV} {vx : Value} (hq : (loadQ tt t x).Runs rt v) (hx : VR tt cl w rt h U x vx) :
    ∃ val, (Instr.loadAt t vx).run P w = .ok val w ∧ VR tt cl w rt h U v val := by
  unfold loadQ at hq
  simp only [Q.runs_bind, Q.runs_need] at hq
  obtain ⟨_, ht, hq⟩ := hq
  split at hq
  · rename_i r p i c ver
    simp only [Q.Runs] at hq
    split at hq
    · rename_i own cs hr
      split at hq
      · simp only [Q.runs_bind, Q.runs_need] at hq
        obtain ⟨_, hc, hq⟩ := hq
        have hc := Nat.le_of_ble_eq_true hc
        simp only [VR] at hx
        obtain ⟨b, hb, rfl⟩ := hx.2.2 _ _ hr trivial trivial
        obtain ⟨b', cc, ct, fr, e1, e2, e3, _, _⟩ := var_at hM hr
        rw [hb] at e1; cases e1
        have hvs : VRs tt cl w rt h U ((cs.drop c).take (tt.at t).ks.length) ((cc.toList.drop c).take (tt.at t).ks.length) := VRs_take (VRs_drop e3 _) _
        obtain ⟨g1, g2⟩ := mkAV_runs hq hvs
        have hlen := VRs_len e3
        refine ⟨_, loadVar_run hP ht (by simp at hlen ⊢; omega) ?_ g2, g1⟩
        intro j hj
        rw [cell_of_block e2]
        simp only [List.length_take, List.length_drop] at hj
        simp only [List.getElem?_take, List.getElem?_drop, Array.getElem?_toList]
        rw [if_pos (by omega)]
      · exact hq.elim
    · rename_i own ks rows rv hr
      simp only [Q.runs_bind, Q.runs_need, Bool.and_eq_true] at hq
      obtain ⟨_, ⟨hp, hk⟩, hq⟩ := hq
      obtain ⟨b, o, n, cap, B, rfl, hh, hn, hi, hW, hS, _⟩ := ptr_rd hM hx hr hp
      have hk := congrArg List.length (sames_eq hk)
      simp only [List.length_take, List.length_drop] at hk
      by_cases h0 : (tt.at t).ks.length = 0
      · rw [h0] at hq
        simp only [cellsAV] at hq
        have hvs : VRs tt cl w rt h U [] [] := by simp [VRs]
        obtain ⟨g1, g2⟩ := mkAV_runs hq hvs
        exact ⟨_, loadVar_run hP ht (by simp [h0]) (fun j hj => by simp at hj) g2, g1⟩
      · obtain ⟨vs, e1, e2, e3⟩ := cellsAV_vr hM hr hh hi hS (tt.at t).ks.length c (by omega)
        obtain ⟨g1, g2⟩ := mkAV_runs hq e3
        exact ⟨_, loadVar_run hP ht e1 (fun j hj => e2 j (by omega)) g2, g1⟩
    · exact hq.elim
  · rename_i r i n' c
    simp only [Q.runs_bind, Q.runs_need, Bool.not_eq_true'] at hq
    obtain ⟨_, ha, hq⟩ := hq
    simp only [Q.Runs] at hq
    split at hq
    · rename_i own cs hr
      simp only [Q.runs_bind, Q.runs_need] at hq
      obtain ⟨_, hc, hq⟩ := hq
      have hc := Nat.le_of_ble_eq_true hc
      simp only [VR] at hx
      obtain ⟨b, hb, hi, rfl⟩ := hx.2 _ _ hr
      obtain ⟨b', cc, ct, fr, e1, e2, e3, _, _⟩ := var_at hM hr
      rw [hb] at e1; cases e1
      obtain ⟨u, g1, g2⟩ := pickCell_vr hq (VRs_take (VRs_drop e3 c) n') (by simp; omega)
      refine ⟨u, ?_, g2⟩
      simp only [Instr.loadAt, Instr.sureAddr, loadVar, Sem.run_bind, agg_run hP ht, Pure.pure, Sem.run, Result.andThen_ok, ha, Bool.false_eq_true, if_false]
      have : w.cell? ⟨b, c + i, none⟩ = some u := by
        rw [cell_of_block e2]
        simp only [List.getElem?_take, List.getElem?_drop, Array.getElem?_toList] at g1
        rwa [if_pos hi] at g1
      simp [load, Sem.run, this]
    · exact hq.elim
  · exact hq.elim
end
end Go.Ev
end
section
/- The evaluator: addresses, lengths, slices, parts. -/
set_option linter.unusedSimpArgs false
namespace Go.Ev
section
variable {P : Program} {tt : Tt} {cl : Cl} {w0 : World} {B0 : Bs} {rt : Nat → Option Root} {h : Nat → Option Addr × Nat} {fb : Nat → Bs} {U : Bs} {w : World}

theorem VR_ptr_off {r : Nat} {p : Path} {i c ver k : Nat} {v : Value} (hv : VR tt cl w rt h U (.ptr r p i c ver) v) {b o : Nat} (e : v = .pointer (some ⟨b, o, none⟩)) :
    VR tt cl w rt h U (.ptr r p i (c + k) ver) (.pointer (some ⟨b, o + k, none⟩)) := by
  subst e
  simp only [VR] at hv ⊢
  obtain ⟨h1, h2, h3⟩ := hv
  refine ⟨h1, fun own ks rows rv hr => ⟨(h2 _ _ _ _ hr).1, fun hp => ?_⟩, fun own cs hr hp hi => ?_⟩
  · obtain ⟨b', o', n, cap, g1, g2, g3⟩ := (h2 _ _ _ _ hr).2 hp
    simp only [Value.pointer.injEq, Option.some.injEq, Addr.mk.injEq, and_true] at g3
    obtain ⟨rfl, rfl⟩ := g3
    exact ⟨b, o', n, cap, g1, g2, by simp; omega⟩
  · obtain ⟨b', g1, g2⟩ := h3 _ _ hr hp hi
    simp only [Value.pointer.injEq, Option.some.injEq, Addr.mk.injEq, and_true] at g2
    obtain ⟨rfl, rfl⟩ := g2
    exact ⟨b, g1, by simp⟩
/-- a pointer's value is a plain address, if its root lives -/
theorem ptr_val {r : Nat} {p : Path} {i c ver : Nat} {v : Value} (hv : VR tt cl w rt h U (.ptr r p i c ver) v)
    (hl : (∃ own ks rows rv, rt r = some (.row own ks rows rv) ∧ pathOk p rv ver = true) ∨ (∃ own cs, rt r = some (.var own cs) ∧ p = [] ∧ i = 0)) : ∃ b o, v = .pointer (some ⟨b, o, none⟩) := by
  simp only [VR] at hv
  rcases hl with ⟨own, ks, rows, rv, hr, hp⟩ | ⟨own, cs, hr, hp, hi⟩
  · obtain ⟨b, o, n, cap, _, _, e⟩ := (hv.2.1 _ _ _ _ hr).2 hp; exact ⟨_, _, e⟩
  · obtain ⟨b, _, e⟩ := hv.2.2 _ _ hr hp hi; exact ⟨_, _, e⟩
theorem fieldOf_spec (hP : ttOk P tt = true) {t : TypeId} {f off : Nat} {ft : TypeId} (hf : fieldOf tt t f = some (off, ft)) :
    ∃ F : Array Field, ∃ fd : Field, P.underlying t = some (.struct F) ∧ F[f]? = some fd ∧ fd.offset = off ∧ fd.type = ft := by
  unfold fieldOf at hf
  split at hf
  · rename_i fs hd
    obtain ⟨F, hu, hF, _⟩ := und_struct hP hd
    have : fs[f]? = some (off, ft) := by simpa [List.head?_drop] using hf
    rw [← hF] at this
    simp only [List.getElem?_map, Option.map_eq_some_iff, Prod.mk.injEq, Array.getElem?_toList] at this
    obtain ⟨fd, h1, h2, h3⟩ := this
    exact ⟨F, fd, hu, h1, h2, h3⟩
  · simp at hf
theorem alive_runs {r : Nat} {p : Path} {i ver : Nat} {u : Unit} (hq : (aliveQ r p i ver).Runs rt u) :
    (∃ own ks rows rv, rt r = some (.row own ks rows rv) ∧ pathOk p rv ver = true) ∨ (∃ own cs, rt r = some (.var own cs) ∧ p = [] ∧ i = 0) := by
  simp only [aliveQ, Q.Runs] at hq
  split at hq
  · split at hq
    · exact .inr ⟨_, _, by assumption, rfl, rfl⟩
    · exact hq.elim
  · exact .inl ⟨_, _, _, _, by assumption, Q.runs_need.1 hq⟩
  · exact hq.elim
theorem fieldAddr_sound (hP : ttOk P tt = true) {t : TypeId} {f : Nat} {r : Nat} {p : Path} {i c ver off : Nat} {ft : TypeId} {vx : Value} (hx : VR tt cl w rt h U (.ptr r p i c ver) vx)
    (hl : (∃ own ks rows rv, rt r = some (.row own ks rows rv) ∧ pathOk p rv ver = true) ∨ (∃ own cs, rt r = some (.var own cs) ∧ p = [] ∧ i = 0))
    (hf : fieldOf tt t f = some (off, ft)) (ht : tt.has ft = true) (hn : 1 ≤ (tt.at ft).ks.length) :
    ∃ val, (Instr.fieldAt t vx f).run P w = .ok val w ∧ VR tt cl w rt h U (.ptr r p i (c + off) ver) val := by
  obtain ⟨F, fd, hu, h1, h2, h3⟩ := fieldOf_spec hP hf
  obtain ⟨b, o, rfl⟩ := ptr_val hx hl
  refine ⟨_, ?_, VR_ptr_off hx rfl⟩
  have hs : ¬ (tt.at ft).ks.length = 0 := by omega
  simp only [Instr.fieldAt, Sem.run_bind, run_underlying hu, Result.andThen_ok, h1, Instr.sureAddr, Pure.pure, Sem.run, fieldPlace, h3, size_run hP ht, hs, if_false, h2, add_at]
theorem index_sound (hP : ttOk P tt = true) (hM : Mem tt cl w0 B0 rt h fb U w) {t : TypeId} {x ix v : AV} {vx vi : Value} (hq : (indexAddrQ tt t x ix).Runs rt v)
    (hx : VR tt cl w rt h U x vx) (hi : VR tt cl w rt h U ix vi) : ∃ val, (Instr.indexAt t vx vi).run P w = .ok val w ∧ VR tt cl w rt h U v val := by
  unfold indexAddrQ at hq
  split at hq
  · rename_i k i
    cases VR_int.1 hi
    split at hq
    · rename_i e hd
      simp only [Q.runs_bind, Q.runs_need] at hq
      obtain ⟨_, he, hq⟩ := hq
      have hu := und_sl hP hd
      split at hq
      · rename_i r p ver
        simp only [Q.runs_bind, Q.runs_need, Q.runs_test, Bool.and_eq_true, decide_eq_true_eq] at hq
        obtain ⟨⟨own, ks, rows⟩, ha, _, hk, ⟨h0, h1⟩, hq⟩ := hq
        have hk2 := Nat.eq_of_beq_eq_true hk
        clear hk
        simp only at hk2 h1
        simp only [Q.Runs] at hq; subst hq
        obtain ⟨a, cap, rfl, hW⟩ := slw_rd hM hx ha
        cases hW with
        | wnil => simp at h1; omega
        | @w _ b o _ _ _ _ hc hr h2 hb hs hn =>
          refine ⟨.pointer (some ⟨b, o + i.toNat * (tt.at e).ks.length, none⟩), ?_, ?_⟩
          · simp only [Instr.indexAt, asIntOf, Pure.pure, Sem.run, Sem.run_bind, run_underlying hu, Result.andThen_ok]
            have : (0 ≤ i ∧ i < (rows.length : Int)) := ⟨h0, h1⟩
            simp only [this, and_self, if_true, Sem.run_bind, size_run hP he, Result.andThen_ok, add_at, Sem.run]
          · obtain ⟨own', ks', rows', v', hr', hp', e'⟩ := askRows_runs.1 ha
            simp only [Prod.mk.injEq] at e'
            obtain ⟨rfl, rfl, rfl⟩ := e'
            simp only [VR] at hx ⊢
            refine ⟨hx.1, fun own ks rows rv hr2 => ⟨(hx.2 _ _ _ _ hr2).1, fun hp2 => ?_⟩, fun own cs hr2 => ?_⟩
            · rw [hr'] at hr2; cases hr2
              exact ⟨b, o, _, _, (hx.2 _ _ _ _ hr').2 hp2, by omega, by simp [hk2]⟩
            · rw [hr'] at hr2; cases hr2
      · rename_i r p off len ver
        simp only [Q.runs_bind, Q.runs_need, Q.runs_test, Bool.and_eq_true, decide_eq_true_eq] at hq
        obtain ⟨⟨own, ks, rows⟩, ha, _, hk, ⟨h0, h1⟩, hq⟩ := hq
        have hk2 := Nat.eq_of_beq_eq_true hk
        clear hk
        simp only at hk2
        simp only [Q.Runs] at hq; subst hq
        obtain ⟨own', ks', rows', v', hr', hp', e'⟩ := askRows_runs.1 ha
        simp only [Prod.mk.injEq] at e'
        obtain ⟨rfl, rfl, rfl⟩ := e'
        simp only [VR] at hx
        obtain ⟨a0, n0, cap0, a, cap, g1, g2, rfl, g4⟩ := (hx.2 _ _ _ _ hr').2 hp'
        rcases g4 with ⟨_, rfl⟩ | ⟨b, o, rfl, rfl, g5, g6⟩
        · simp at h1; omega
        · refine ⟨.pointer (some ⟨b, o + off * (ksAt tt ks' p).length + i.toNat * (tt.at e).ks.length, none⟩), ?_, ?_⟩
          · simp only [Instr.indexAt, asIntOf, Pure.pure, Sem.run, Sem.run_bind, run_underlying hu, Result.andThen_ok]
            have : (0 ≤ i ∧ i < (len : Int)) := ⟨h0, h1⟩
            simp only [this, and_self, if_true, Sem.run_bind, size_run hP he, Result.andThen_ok, add_at, Sem.run]
          · simp only [VR]
            refine ⟨hx.1, fun own ks rows rv hr2 => ⟨(hx.2 _ _ _ _ hr2).1, fun hp2 => ?_⟩, fun own cs hr2 => ?_⟩
            · rw [hr'] at hr2; cases hr2
              refine ⟨b, o, _, _, g1, by omega, ?_⟩
              rw [hk2, Nat.add_mul]
              simp only [Value.pointer.injEq, Option.some.injEq, Addr.mk.injEq, and_true, true_and]
              omega
            · rw [hr'] at hr2; cases hr2
      · exact hq.elim
    · rename_i n e hd
      obtain ⟨hu, _⟩ := und_arr hP hd
      split at hq
      · rename_i r c ver
        simp only [Q.runs_bind, Q.runs_need, Q.runs_test, Bool.and_eq_true, decide_eq_true_eq] at hq
        obtain ⟨_, hal, _, ⟨he, hk⟩, ⟨h0, h1⟩, hq⟩ := hq
        have hk := Nat.eq_of_beq_eq_true hk
        simp only [Q.Runs] at hq; subst hq
        obtain ⟨b, o, rfl⟩ := ptr_val hx (alive_runs hal)
        refine ⟨.pointer (some ⟨b, o + i.toNat, none⟩), ?_, ?_⟩
        · simp only [Instr.indexAt, asIntOf, Pure.pure, Sem.run, Sem.run_bind, run_underlying hu, Result.andThen_ok, Instr.sureAddr]
          have : (0 ≤ i ∧ i < (n : Int)) := ⟨h0, h1⟩
          simp only [this, and_self, if_true, Sem.run_bind, size_run hP he, Result.andThen_ok, add_at, Sem.run, hk, Nat.mul_one]
        · simp only [VR] at hx ⊢
          refine ⟨hx.1, fun own cs hr => ?_⟩
          obtain ⟨b', g1, g2⟩ := hx.2.2 _ _ hr trivial trivial
          simp only [Value.pointer.injEq, Option.some.injEq, Addr.mk.injEq, and_true] at g2
          obtain ⟨rfl, rfl⟩ := g2
          exact ⟨b, g1, by omega, rfl⟩
      · exact hq.elim
    · exact hq.elim
  · exact hq.elim
theorem isStr_und (hP : ttOk P tt = true) {t : TypeId} (hs : isStr tt t = true) : P.underlying t = some .string := by
  unfold isStr at hs
  split at hs
  · rename_i hd hk
    obtain ⟨_, ⟨k, h, _⟩ | ⟨h, _⟩ | ⟨_, h⟩⟩ := prim_facts hP hd
    · rw [hk] at h; simp at h
    · rw [hk] at h; simp at h
    · exact h
  · simp at hs
theorem len_sound (hP : ttOk P tt = true) (hM : Mem tt cl w0 B0 rt h fb U w) {t : TypeId} {ty : TypeId} {x : AV} {n : Nat} {vx : Value} (hq : (lenQ tt t x).Runs rt n)
    (hx : VR tt cl w rt h U x vx) : (Builtin.len_ #[t] ty #[vx]).run P w = .ok (.int .i64 n) w := by
  have hsl : isSl tt t = true → ∃ e, P.underlying t = some (.slice e) := by
    intro hs
    unfold isSl at hs
    split at hs
    · exact ⟨_, und_sl hP (by assumption)⟩
    · simp at hs
  have fin : ∀ {a : Option Addr} {m cap : Nat}, isSl tt t = true → vx = .slice a m cap → (Builtin.len_ #[t] ty #[vx]).run P w = .ok (.int .i64 m) w := by
    rintro a m cap hs rfl
    obtain ⟨e, hu⟩ := hsl hs
    simp [Builtin.len_, run_underlying hu, Pure.pure, Sem.run, goInt]
  cases x <;> simp only [lenQ] at hq <;> try exact hq.elim
  · rename_i s
    simp only [Q.runs_bind, Q.runs_need] at hq
    obtain ⟨_, hs, rfl⟩ := hq
    cases VR_str.1 hx
    have hu := isStr_und hP hs
    simp [Builtin.len_, run_underlying hu, Pure.pure, Sem.run, goInt]
  · simp only [Q.runs_bind, Q.runs_need] at hq
    obtain ⟨_, hs, rfl⟩ := hq
    simp only [VR] at hx
    obtain ⟨a, e⟩ := hx
    exact fin hs e
  · simp only [Q.runs_bind, Q.runs_need] at hq
    obtain ⟨_, hs, ⟨own, ks, rows⟩, ha, rfl⟩ := hq
    obtain ⟨a, cap, e, _⟩ := slw_rd hM hx ha
    exact fin hs e
  · simp only [Q.runs_bind, Q.runs_need] at hq
    obtain ⟨_, hs, ⟨own, ks, rows⟩, ha, rfl⟩ := hq
    obtain ⟨a, cap, e, _⟩ := sl_rd hM hx ha
    exact fin hs e
  · split at hq
    · rename_i hd
      simp only [Q.Runs] at hq; subst hq
      obtain ⟨hu, _⟩ := und_arr hP hd
      simp [Builtin.len_, run_underlying hu, Pure.pure, Sem.run, goInt]
    · exact hq.elim
end
end Go.Ev
end
section
/- The evaluator: elements, slices, parts of values. -/
set_option linter.unusedSimpArgs false
namespace Go.Ev
section
variable {P : Program} {tt : Tt} {cl : Cl} {w0 : World} {B0 : Bs} {rt : Nat → Option Root} {h : Nat → Option Addr × Nat} {fb : Nat → Bs} {U : Bs} {w : World}

theorem indexV_sound (hP : ttOk P tt = true) {t : TypeId} {x ix v : AV} {vx vi : Value} (hq : (indexQ tt t x ix).Runs rt v)
    (hx : VR tt cl w rt h U x vx) (hi : VR tt cl w rt h U ix vi) : ∃ val, (Instr.index t vx vi).run P w = .ok val w ∧ VR tt cl w rt h U v val := by
  unfold indexQ at hq
  split at hq
  · rename_i k i
    cases VR_int.1 hi
    split at hq
    · rename_i cs
      split at hq
      · rename_i n e hd
        obtain ⟨hu, _⟩ := und_arr hP hd
        simp only [Q.runs_bind, Q.runs_need, Q.runs_test, Bool.and_eq_true, decide_eq_true_eq, Bool.not_eq_true'] at hq
        obtain ⟨_, ⟨⟨⟨he, hk⟩, hg⟩, hn⟩, ⟨h0, h1⟩, hq⟩ := hq
        have hk := Nat.eq_of_beq_eq_true hk
        have hn := Nat.eq_of_beq_eq_true hn
        simp only [VR] at hx
        obtain ⟨vs, rfl, hvs⟩ := hx
        obtain ⟨u, g1, g2⟩ := pickCell_vr hq hvs (i := i.toNat) (by omega)
        refine ⟨u, ?_, g2⟩
        have : (0 ≤ i ∧ i < (n : Int)) := ⟨h0, h1⟩
        have hlen := VRs_len hvs
        simp only [Instr.index, asIntOf, Pure.pure, Sem.run, Sem.run_bind, run_underlying hu, Result.andThen_ok, this, and_self, if_true, size_run hP he, hk, Nat.mul_one]
        rw [part_run hP he vs i.toNat (fun _ => by simp at hlen; omega) (fun _ => hk)]
        have hs : i.toNat < vs.toList.length := by rw [← hlen]; omega
        simp only [mkV, hg, Bool.false_eq_true, if_false, hk]
        rw [List.drop_eq_getElem_cons hs]
        rw [List.getElem?_eq_getElem hs] at g1
        simp only [Option.some.injEq] at g1
        simp [g1]
      · exact hq.elim
    · rename_i s
      cases VR_str.1 hx
      simp only [Q.runs_bind, Q.runs_need, Q.runs_test, Bool.and_eq_true, decide_eq_true_eq] at hq
      obtain ⟨_, hs, ⟨h0, h1⟩, hq⟩ := hq
      simp only [Q.Runs] at hq; subst hq
      have hu := isStr_und hP hs
      have hlt : i.toNat < s.size := by omega
      refine ⟨_, ?_, VR_int.2 rfl⟩
      simp only [Instr.index, asIntOf, Pure.pure, Sem.run, Sem.run_bind, run_underlying hu, Result.andThen_ok, h0, if_true]
      have e1 : s[i.toNat]? = some s[i.toNat] := by simp [hlt]
      have e2 : nth 0 s.data.toList i.toNat = s[i.toNat] := by
        rw [nth_eq, List.getD_eq_getElem?_getD, List.getElem?_eq_getElem (by simpa using hlt)]
        rfl
      rw [e1, e2]
      simp [Pure.pure, Sem.run]
    · exact hq.elim
  · exact hq.elim

/-! ### slices -/
theorem W_form {own : Bool} {ks : List Ck} {a : Option Addr} {cap : Nat} {rows : List (List D)} {B : Bs} (hW : Rd tt w own (.W ks a cap rows) B) :
    rows.length ≤ cap ∧ ((rows = [] ∧ cap = 0) ∨ ∃ b o, a = some ⟨b, o, none⟩) := by
  cases hW with
  | wnil => exact ⟨by simp, .inl ⟨rfl, rfl⟩⟩
  | w hc hr h hb hs hn => exact ⟨hc, .inr ⟨_, _, rfl⟩⟩
theorem bound_runs {v : Option AV} {d i : Int} (hq : (boundQ v d).Runs rt i) : (v = none ∧ i = d) ∨ ∃ k, v = some (.int k i) := by
  unfold boundQ at hq
  split at hq
  · exact .inl ⟨rfl, hq.symm⟩
  · simp only [Q.Runs] at hq; subst hq; exact .inr ⟨_, rfl⟩
  · exact hq.elim
theorem slElem_runs {t : TypeId} {e : TypeId} (hq : (slElem tt t).Runs rt e) : (tt.at t).d = .sl e ∧ tt.has e = true := by
  unfold slElem at hq
  split at hq
  · simp only [Q.runs_bind, Q.runs_need] at hq
    obtain ⟨_, h1, rfl⟩ := hq
    exact ⟨by assumption, h1⟩
  · exact hq.elim
/-- an operand that may be missing -/
def VRo (tt : Tt) (cl : Cl) (w : World) (rt : Nat → Option Root) (h : Nat → Option Addr × Nat) (U : Bs) : Option AV → Option Value → Prop
  | none, none => True
  | some a, some v => VR tt cl w rt h U a v
  | _, _ => False
theorem sliceBound_run {k : IntKind} {i : Int} {y : Nat} {c : BoundsCode} (h0 : 0 ≤ i) (h1 : i ≤ y) : (Instr.sliceBound (.int k i) y c).run P w = .ok i.toNat w := by
  have : (0 ≤ i ∧ i ≤ (y : Int)) := ⟨h0, h1⟩
  simp [Instr.sliceBound, asIntOf, this, Pure.pure, Sem.run]
theorem sliceBounds_run {s : Bool} {len cap : Nat} {lo hi : Option AV} {vlo vhi : Option Value} {l hh : Int} (hlo : (boundQ lo 0).Runs rt l) (hhi : (boundQ hi (len : Int)).Runs rt hh)
    (g1 : VRo tt cl w rt h U lo vlo) (g2 : VRo tt cl w rt h U hi vhi) (h0 : 0 ≤ l) (h1 : l ≤ hh) (h2 : hh ≤ len) (hlc : len ≤ cap) :
    (Instr.sliceBounds s len cap vlo vhi none).run P w = .ok (l.toNat, hh.toNat, cap) w := by
  have hcap : hh ≤ (cap : Int) := by omega
  have h3 : 0 ≤ hh := Int.le_trans h0 h1
  rcases bound_runs hlo with ⟨rfl, rfl⟩ | ⟨k, rfl⟩ <;> rcases bound_runs hhi with ⟨rfl, rfl⟩ | ⟨k', rfl⟩
  all_goals
    cases vlo <;> cases vhi <;> simp only [VRo] at g1 g2 <;> try exact g1.elim
    all_goals try exact g2.elim
    all_goals try cases VR_int.1 g1
    all_goals try cases VR_int.1 g2
    all_goals simp [Instr.sliceBounds, Pure.pure, Sem.run, sliceBound_run, h0, h1, h2, h3, hcap, Int.toNat_of_nonneg (Int.le_trans h0 h1)]
theorem slice_sound (hP : ttOk P tt = true) (hM : Mem tt cl w0 B0 rt h fb U w) {t : TypeId} {x v : AV} {lo hi mx : Option AV} {vx : Value} {vlo vhi vmx : Option Value}
    (hq : (sliceQ tt t x lo hi mx).Runs rt v) (hx : VR tt cl w rt h U x vx) (g1 : VRo tt cl w rt h U lo vlo) (g2 : VRo tt cl w rt h U hi vhi) (g3 : VRo tt cl w rt h U mx vmx) :
    ∃ val, (Instr.sliceAt t vx vlo vhi vmx).run P w = .ok val w ∧ VR tt cl w rt h U v val := by
  have noarr : ∀ {D : TypeDesc}, P.underlying t = some D → (∀ n e, D ≠ .array n e) → (Instr.sliceAt t vx vlo vhi vmx).run P w = (Instr.slice t vx vlo vhi vmx).run P w := by
    intro D hu hD
    simp only [Instr.sliceAt, Sem.run_bind, run_underlying hu, Result.andThen_ok]
  unfold sliceQ at hq
  split at hq
  · rename_i m
    split at hq
    · rename_i r p ver k k'
      simp only [Q.runs_bind] at hq
      obtain ⟨e, he, ⟨own, ks, rows⟩, ha, hq⟩ := hq
      simp only [Q.Runs] at hq; subst hq
      obtain ⟨hd, he⟩ := slElem_runs he
      have hu := und_sl hP hd
      rw [noarr hu (by simp)]
      cases vlo <;> simp only [VRo] at g1
      cases vhi <;> simp only [VRo] at g2
      cases vmx <;> simp only [VRo] at g3
      cases VR_int.1 g2; cases VR_int.1 g3
      obtain ⟨a, cap, rfl, _⟩ := slw_rd hM hx ha
      refine ⟨.slice a 0 0, ?_, by simp only [VR]; exact ⟨a, rfl⟩⟩
      simp [Instr.slice, run_underlying hu, Instr.sliceBounds, sliceBound_run, size_run hP he, Pure.pure, Sem.run]
    · rename_i k k'
      simp only [Q.runs_bind] at hq
      obtain ⟨e, he, hq⟩ := hq
      simp only [Q.Runs] at hq; subst hq
      obtain ⟨hd, he⟩ := slElem_runs he
      have hu := und_sl hP hd
      rw [noarr hu (by simp)]
      cases vlo <;> simp only [VRo] at g1
      cases vhi <;> simp only [VRo] at g2
      cases vmx <;> simp only [VRo] at g3
      cases VR_int.1 g2; cases VR_int.1 g3
      simp only [VR] at hx
      obtain ⟨a, rfl⟩ := hx
      refine ⟨.slice a 0 0, ?_, by simp only [VR]; exact ⟨a, rfl⟩⟩
      simp [Instr.slice, run_underlying hu, Instr.sliceBounds, sliceBound_run, size_run hP he, Pure.pure, Sem.run]
    · exact hq.elim
  · cases vmx <;> simp only [VRo] at g3
    simp only [Q.runs_bind] at hq
    obtain ⟨l, hl, hq⟩ := hq
    split at hq
    · rename_i r p ver
      simp only [Q.runs_bind, Q.runs_need, Q.runs_test, Bool.and_eq_true, decide_eq_true_eq] at hq
      obtain ⟨e, he, ⟨own, ks, rows⟩, ha, _, hk, hh, hhi, ⟨⟨h0, h1⟩, h2⟩, hq⟩ := hq
      simp only at hhi h2 hk
      have hk2 := Nat.eq_of_beq_eq_true hk
      clear hk
      simp only [Q.Runs] at hq; subst hq
      obtain ⟨hd, he⟩ := slElem_runs he
      have hu := und_sl hP hd
      rw [noarr hu (by simp)]
      obtain ⟨a, cap, rfl, hW⟩ := slw_rd hM hx ha
      obtain ⟨hlc, hform⟩ := W_form hW
      have hb := sliceBounds_run (P := P) (s := true) hl hhi g1 g2 h0 h1 h2 hlc
      obtain ⟨own', ks', rows', v', hr', hp', e'⟩ := askRows_runs.1 ha
      simp only [Prod.mk.injEq] at e'
      obtain ⟨rfl, rfl, rfl⟩ := e'
      simp only [VR] at hx
      refine ⟨_, by simp [Instr.slice, run_underlying hu, hb, size_run hP he, Pure.pure, Sem.run]; rfl, ?_⟩
      simp only [VR]
      refine ⟨hx.1, fun own ks rows rv hr2 => ?_⟩
      rw [hr'] at hr2; cases hr2
      refine ⟨(hx.2 _ _ _ _ hr').1, fun _ => ⟨a, _, cap, _, _, (hx.2 _ _ _ _ hr').2 hp', by omega, rfl, ?_⟩⟩
      rcases hform with ⟨hn, hc0⟩ | ⟨b, o, rfl⟩
      · left; omega
      · by_cases hcl : cap = l.toNat
        · left; omega
        · right
          refine ⟨b, o, rfl, ?_, by omega, by omega⟩
          simp only [hcl, if_false, Option.map_some, add_at, hk2]
    · rename_i r p off len ver
      simp only [Q.runs_bind, Q.runs_need, Q.runs_test, Bool.and_eq_true, decide_eq_true_eq] at hq
      obtain ⟨e, he, ⟨own, ks, rows⟩, ha, _, hk, hh, hhi, ⟨⟨h0, h1⟩, h2⟩, hq⟩ := hq
      simp only at hhi h2 hk
      have hk2 := Nat.eq_of_beq_eq_true hk
      clear hk
      simp only [Q.Runs] at hq; subst hq
      obtain ⟨hd, he⟩ := slElem_runs he
      have hu := und_sl hP hd
      rw [noarr hu (by simp)]
      obtain ⟨own', ks', rows', v', hr', hp', e'⟩ := askRows_runs.1 ha
      simp only [Prod.mk.injEq] at e'
      obtain ⟨rfl, rfl, rfl⟩ := e'
      simp only [VR] at hx
      obtain ⟨a0, n0, cap0, a, cap, q1, q2, rfl, q4⟩ := (hx.2 _ _ _ _ hr').2 hp'
      have hlc : len ≤ cap := by rcases q4 with ⟨rfl, rfl⟩ | ⟨_, _, _, _, h, _⟩ <;> omega
      have hb := sliceBounds_run (P := P) (s := true) hl hhi g1 g2 h0 h1 h2 hlc
      refine ⟨_, by simp [Instr.slice, run_underlying hu, hb, size_run hP he, Pure.pure, Sem.run]; rfl, ?_⟩
      simp only [VR]
      refine ⟨hx.1, fun own ks rows rv hr2 => ?_⟩
      rw [hr'] at hr2; cases hr2
      refine ⟨(hx.2 _ _ _ _ hr').1, fun _ => ⟨a0, _, cap0, _, _, q1, by omega, rfl, ?_⟩⟩
      rcases q4 with ⟨rfl, rfl⟩ | ⟨b, o, rfl, rfl, q5, q6⟩
      · left; omega
      · by_cases hcl : cap = l.toNat
        · left; omega
        · right
          refine ⟨b, o, rfl, ?_, by omega, by omega⟩
          simp only [hcl, if_false, Option.map_some, add_at, hk2, Option.some.injEq, Addr.mk.injEq, and_true, true_and]
          rw [Nat.add_mul]; omega
    · rename_i s
      cases VR_str.1 hx
      simp only [Q.runs_bind, Q.runs_need, Q.runs_test, Bool.and_eq_true, decide_eq_true_eq] at hq
      obtain ⟨_, hs, hh, hhi, ⟨⟨h0, h1⟩, h2⟩, hq⟩ := hq
      simp only [Q.Runs] at hq; subst hq
      have hu := isStr_und hP hs
      rw [noarr hu (by simp)]
      have hb := sliceBounds_run (P := P) (s := false) hl hhi g1 g2 h0 h1 h2 (Nat.le_refl _)
      exact ⟨_, by simp only [Instr.slice, Sem.run_bind, run_underlying hu, Result.andThen_ok, Option.isSome_none, Bool.false_eq_true, if_false, hb, Pure.pure, Sem.run], VR_str.2 rfl⟩
    · simp only [Q.runs_bind, Q.runs_need, Q.runs_test, Bool.and_eq_true, decide_eq_true_eq] at hq
      obtain ⟨e, he, hh, hhi, ⟨h0, h1⟩, hq⟩ := hq
      simp only [Q.Runs] at hq; subst hq
      obtain ⟨hd, he⟩ := slElem_runs he
      have hu := und_sl hP hd
      rw [noarr hu (by simp)]
      simp only [VR] at hx
      obtain ⟨a, rfl⟩ := hx
      subst h0; subst h1
      have hb := sliceBounds_run (P := P) (s := true) (len := 0) (cap := 0) hl (by simpa using hhi) g1 g2 (by omega) (by omega) (by omega) (Nat.le_refl _)
      refine ⟨.slice a 0 0, ?_, by simp only [VR]; exact ⟨a, rfl⟩⟩
      simp [Instr.slice, run_underlying hu, hb, size_run hP he, Pure.pure, Sem.run]
    · exact hq.elim

/-! ### parts of values -/
theorem extract_sound {vs : List AV} {i : Nat} {vx : Value} (hx : VR tt cl w rt h U (.tup vs) vx) (hi : i + 1 ≤ vs.length) :
    ∃ val, (Instr.extract vx i).run P w = .ok val w ∧ VR tt cl w rt h U (nth .undef vs i) val := by
  simp only [VR] at hx
  obtain ⟨us, rfl, hx⟩ := hx
  obtain ⟨u, g1, g2⟩ := VRs_nth hx (j := i) (by omega)
  refine ⟨u, ?_, g2⟩
  simp only [Array.getElem?_toList] at g1
  simp [Instr.extract, g1, Pure.pure, Sem.run]
theorem field_sound (hP : ttOk P tt = true) {t : TypeId} {f off : Nat} {ft : TypeId} {cs : List AV} {v : AV} {vx : Value} (hx : VR tt cl w rt h U (.ag cs) vx)
    (hf : fieldOf tt t f = some (off, ft)) (ht : tt.has ft = true) (hl : off + (tt.at ft).ks.length ≤ cs.length)
    (hq : (mkAV (tt.at ft).agg ((cs.drop off).take (tt.at ft).ks.length)).Runs rt v) :
    ∃ val, (Instr.field t vx f).run P w = .ok val w ∧ VR tt cl w rt h U v val := by
  obtain ⟨F, fd, hu, h1, h2, h3⟩ := fieldOf_spec hP hf
  simp only [VR] at hx
  obtain ⟨vs, rfl, hx⟩ := hx
  obtain ⟨g1, g2⟩ := mkAV_runs hq (VRs_take (VRs_drop hx off) _)
  have hlen := VRs_len hx
  refine ⟨_, ?_, g1⟩
  have h1' : (tt.at ft).agg = false → (tt.at ft).ks.length = 1 := fun e => by
    have := g2 e
    simp only [List.length_take, List.length_drop] at this
    omega
  simp only [Instr.field, Sem.run_bind, run_underlying hu, Result.andThen_ok, h1, asAgg, Pure.pure, Sem.run, h2, h3]
  exact part_run hP ht vs off (fun e => by have := h1' e; simp at hlen; omega) h1'
theorem un_sound {x v : AV} {op : UnOp} {vx : Value} (hq : (unQ op x).Runs rt v) (hx : VR tt cl w rt h U x vx) :
    ∃ val, (Op.unary op vx).run P w = .ok val w ∧ VR tt cl w rt h U v val := by
  unfold unQ at hq
  split at hq
  · simp only [Q.Runs] at hq; subst hq
    cases VR_bool.1 hx
    exact ⟨_, by simp only [Op.unary, Pure.pure, Sem.run], VR_bool.2 rfl⟩
  · simp only [Q.Runs] at hq; subst hq
    cases VR_int.1 hx
    rename_i k n
    exact ⟨.int k (k.wrap (0 - n)), by simp only [Op.unary, Op.intArith, Pure.pure, Sem.run], VR_int.2 rfl⟩
  · exact hq.elim
theorem minGo_sound {k : IntKind} : ∀ {l : List AV} {vs : List Value} {x : Int} {v : AV}, (minGo false k x l).Runs rt v → VRs tt cl w rt h U l vs →
    ∃ val, (vs.foldlM Builtin.min2 (.int k x)).run P w = .ok val w ∧ VR tt cl w rt h U v val
  | [], [], x, v, hq, _ => by
    simp only [minGo, Q.Runs] at hq; subst hq
    exact ⟨_, by simp only [List.foldlM_nil, Pure.pure, Sem.run], VR_int.2 rfl⟩
  | [], _ :: _, _, _, _, hv => by simp [VRs] at hv
  | a :: l, [], _, _, _, hv => by simp [VRs] at hv
  | a :: l, u :: vs, x, v, hq, hv => by
    simp only [VRs] at hv
    cases a <;> simp only [minGo] at hq <;> try exact hq.elim
    simp only [Q.runs_bind, Q.runs_need, decide_eq_true_eq] at hq
    obtain ⟨_, rfl, hq⟩ := hq
    cases VR_int.1 hv.1
    obtain ⟨val, g1, g2⟩ := minGo_sound hq hv.2
    refine ⟨val, ?_, g2⟩
    simp only [List.foldlM_cons, Sem.run_bind, Builtin.min2, Pure.pure, Sem.run, Result.andThen_ok]
    simpa using g1
theorem maxGo_sound {k : IntKind} : ∀ {l : List AV} {vs : List Value} {x : Int} {v : AV}, (minGo true k x l).Runs rt v → VRs tt cl w rt h U l vs →
    ∃ val, (vs.foldlM Builtin.max2 (.int k x)).run P w = .ok val w ∧ VR tt cl w rt h U v val
  | [], [], x, v, hq, _ => by
    simp only [minGo, Q.Runs] at hq; subst hq
    exact ⟨_, by simp only [List.foldlM_nil, Pure.pure, Sem.run], VR_int.2 rfl⟩
  | [], _ :: _, _, _, _, hv => by simp [VRs] at hv
  | a :: l, [], _, _, _, hv => by simp [VRs] at hv
  | a :: l, u :: vs, x, v, hq, hv => by
    simp only [VRs] at hv
    cases a <;> simp only [minGo] at hq <;> try exact hq.elim
    simp only [Q.runs_bind, Q.runs_need, decide_eq_true_eq] at hq
    obtain ⟨_, rfl, hq⟩ := hq
    cases VR_int.1 hv.1
    obtain ⟨val, g1, g2⟩ := maxGo_sound hq hv.2
    refine ⟨val, ?_, g2⟩
    simp only [List.foldlM_cons, Sem.run_bind, Builtin.max2, Pure.pure, Sem.run, Result.andThen_ok]
    simpa using g1

/-! ### literals of structs -/
theorem zeroAV_vr {k : Ck} {v : Value} (hz : zeroOkC k v = true) : VR tt cl w rt h U (zeroAV k) v := by
  unfold zeroOkC at hz
  split at hz <;> try (simp at hz; done)
  · simp only [Bool.and_eq_true, decide_eq_true_eq] at hz
    obtain ⟨rfl, rfl⟩ := hz
    exact VR_int.2 rfl
  · simp only [Bool.not_eq_true'] at hz; subst hz; exact VR_bool.2 rfl
  · rename_i s
    refine VR_str.2 ?_
    have : s.data = #[] := by simpa using hz
    rw [← this]
  · simp only [zeroAV, VR]; exact ⟨none, rfl⟩
  · rename_i k v _ _ _ _ h1 h2 h3 h4
    cases k <;> first | simp [zeroAV, VR] | (exfalso; exact h1 _ rfl) | (exfalso; exact h2 rfl) | (exfalso; exact h3 rfl) | (exfalso; exact h4 _ rfl)
theorem zeroAVs_vr : ∀ {ks : List Ck} {vs : List Value}, zeroOk ks vs = true → VRs tt cl w rt h U (ks.map zeroAV) vs
  | [], [], _ => by simp [VRs]
  | k :: ks, v :: vs, hz => by
    simp only [zeroOk, Bool.and_eq_true] at hz
    simp only [List.map_cons, VRs]
    exact ⟨zeroAV_vr hz.1, zeroAVs_vr hz.2⟩
  | [], _ :: _, hz => by simp [zeroOk] at hz
  | _ :: _, [], hz => by simp [zeroOk] at hz
theorem zero_run (hP : ttOk P tt = true) {t : TypeId} (ht : tt.has t = true) : ∃ z, (zeroValue t).run P w = .ok z w ∧ zeroOk (tt.at t).ks z.cells.toList = true := by
  obtain ⟨i, hi, _, _, z, hz, hk⟩ := (type_facts hP ht).info
  exact ⟨z, by simp [zeroValue, typeInfo, program, hi, hz, Pure.pure, Sem.run], hk⟩
theorem VR_cells (hM : Mem tt cl w0 B0 rt h fb U w) {x : AV} {v : Value} {u : Unit} (hx : VR tt cl w rt h U x v) (hs : (solidQ tt x).Runs rt u) : VRs tt cl w rt h U x.cells v.cells.toList := by
  have one : ∀ {x : AV}, VR tt cl w rt h U x v → x.cells = [x] → v.cells = #[v] → VRs tt cl w rt h U x.cells v.cells.toList := by
    intro x hx e1 e2; rw [e1, e2]; simp [VRs, hx]
  cases x <;> simp only [solidQ] at hs <;> try exact hs.elim
  · cases VR_int.1 hx; exact one hx rfl rfl
  · cases VR_bool.1 hx; exact one hx rfl rfl
  · cases VR_str.1 hx; exact one hx rfl rfl
  · obtain ⟨a, rfl⟩ : ∃ a, v = .slice a 0 0 := by simpa only [VR] using hx
    exact one hx rfl rfl
  · simp only [Q.runs_bind] at hs
    obtain ⟨⟨own, ks, rows⟩, ha, _⟩ := hs
    obtain ⟨a, cap, rfl, _⟩ := slw_rd hM hx ha
    exact one hx rfl rfl
  · simp only [Q.runs_bind] at hs
    obtain ⟨⟨own, ks, rows⟩, ha, _⟩ := hs
    obtain ⟨a, cap, rfl, _⟩ := sl_rd hM hx ha
    exact one hx rfl rfl
  · simp only [VR] at hx; obtain ⟨vs, rfl, hx⟩ := hx; simpa [AV.cells, Value.cells] using hx
  · obtain ⟨vs, rfl, _⟩ : ∃ vs : Array Value, v = .func (.func _) #[] vs ∧ _ := by simpa only [VR] using hx
    exact one hx rfl rfl
  · obtain ⟨f, vs, es, rfl, _⟩ : FnRd tt cl w _ v _ U := by simpa only [VR] using hx
    exact one hx rfl rfl
/-- a literal's parts laid over its zero value -/
theorem splice_len {α : Type} (l : List α) (c : Nat) (vs : List α) (h : c + vs.length ≤ l.length) : (splice l c vs).length = l.length := by
  simp [splice]; omega
theorem splice_cons {α : Type} : ∀ (c : Nat) (l : List α) (v : α) (vs : List α), c + (vs.length + 1) ≤ l.length → splice (upd l c v) (c + 1) vs = splice l c (v :: vs)
  | _, [], _, _, h => by simp at h
  | 0, x :: l, v, vs, _ => by simp [splice, upd, Nat.add_comm]
  | c + 1, x :: l, v, vs, h => by
    have ih := splice_cons c l v vs (by simp at h; omega)
    simp only [splice, upd, List.take_succ_cons, List.cons_append, List.length_cons] at ih ⊢
    rw [show c + 1 + 1 + vs.length = (c + 1 + vs.length) + 1 by omega, show c + 1 + (vs.length + 1) = (c + (vs.length + 1)) + 1 by omega]
    simp only [List.drop_succ_cons]
    rw [← ih]
theorem place_list (off : Nat) : ∀ (vs : List Value) (k : Nat) (cells : Array Value), off + k + vs.length ≤ cells.size →
    ((vs.zipIdx k).foldl (fun cs (x : Value × Nat) => cs.setIfInBounds (off + x.2) x.1) cells).toList = splice cells.toList (off + k) vs
  | [], k, cells, _ => by simp [splice]
  | v :: vs, k, cells, h => by
    simp only [List.zipIdx_cons, List.foldl_cons]
    rw [place_list off vs (k + 1) _ (by simp at h ⊢; omega)]
    rw [← splice_cons _ _ _ _ (by simpa [Nat.add_assoc] using h)]
    simp [upd_eq, Nat.add_assoc]
theorem place_run (cells : Array Value) (off : Nat) (vs : Array Value) (hb : off + vs.size ≤ cells.size) :
    (vs.zipIdx.foldl (fun cs (x : Value × Nat) => cs.setIfInBounds (off + x.2) x.1) cells).toList = splice cells.toList off vs.toList := by
  rw [← Array.foldl_toList, Array.toList_zipIdx]
  simpa using place_list off vs.toList 0 cells (by simpa using hb)
theorem VRs_splice {cs vs : List AV} {us ws : List Value} {c : Nat} (h1 : VRs tt cl w rt h U cs us) (h2 : VRs tt cl w rt h U vs ws) : VRs tt cl w rt h U (splice cs c vs) (splice us c ws) := by
  unfold splice
  rw [VRs_len h2]
  exact VRs_append (VRs_append (VRs_take h1 _) h2) (VRs_drop h1 _)
theorem solids_runs {l : List AV} {u : Unit} (hq : (solids tt l).Runs rt u) : ∀ v ∈ l, (solidQ tt v).Runs rt () := by
  induction l with
  | nil => simp
  | cons x l ih =>
    simp only [solids, Q.runs_bind] at hq
    obtain ⟨_, h1, h2⟩ := hq
    intro v hv
    rcases List.mem_cons.1 hv with rfl | hv
    · exact h1
    · exact ih h2 v hv
/-- parts, as they stand in memory and in the state -/
def PartsVR (tt : Tt) (cl : Cl) (w : World) (rt : Nat → Option Root) (h : Nat → Option Addr × Nat) (U : Bs) : List (Nat × AV) → List (Nat × Value) → Prop
  | [], [] => True
  | (i, a) :: l, (j, v) :: m => i = j ∧ VR tt cl w rt h U a v ∧ PartsVR tt cl w rt h U l m
  | _, _ => False
theorem fill_sound (hM : Mem tt cl w0 B0 rt h fb U w) {t : TypeId} {place : Nat → Option (Nat × Nat)}
    (hpl : ∀ f off ft, placesOf tt t f = some (off, ft) → tt.has ft = true → place f = some (off, (tt.at ft).ks.length)) :
    ∀ {ps : List (Nat × AV)} {qs : List (Nat × Value)} {cs cs' : List AV} {cells : Array Value}, PartsVR tt cl w rt h U ps qs → (∀ x ∈ ps, (solidQ tt x.2).Runs rt ()) →
      fillAV tt t ps cs = some cs' → VRs tt cl w rt h U cs cells.toList → ∃ cells' : Array Value, Instr.fill place cells qs = some cells' ∧ VRs tt cl w rt h U cs' cells'.toList
  | [], [], cs, cs', cells, _, _, hf, hv => by
    simp only [fillAV, Option.some.injEq] at hf; subst hf
    exact ⟨cells, rfl, hv⟩
  | [], _ :: _, _, _, _, hp, _, _, _ => by simp [PartsVR] at hp
  | (_, _) :: _, [], _, _, _, hp, _, _, _ => by simp [PartsVR] at hp
  | (i, a) :: ps, (j, v) :: qs, cs, cs', cells, hp, hs, hf, hv => by
    simp only [PartsVR] at hp
    obtain ⟨rfl, h1, h2⟩ := hp
    simp only [fillAV] at hf
    cases hpo : placesOf tt t i with
    | none => simp [hpo] at hf
    | some x =>
      obtain ⟨off, ft⟩ := x
      simp only [hpo] at hf
      cases hb : (tt.has ft && Nat.beq a.cells.length (tt.at ft).ks.length && Nat.ble (off + a.cells.length) cs.length) with
      | false => rw [hb] at hf; simp at hf
      | true =>
        rw [hb] at hf
        simp only [cond_true] at hf
        simp only [Bool.and_eq_true] at hb
        obtain ⟨⟨hb1, hb2⟩, hb3⟩ := hb
        have hb2 := Nat.eq_of_beq_eq_true hb2
        have hb3 := Nat.le_of_ble_eq_true hb3
        have hc := VR_cells hM h1 (hs (i, a) (by simp))
        have l1 := VRs_len hc
        have l2 := VRs_len hv
        simp only [Array.length_toList] at l1 l2
        have hbound : off + v.cells.size ≤ cells.size := by omega
        obtain ⟨cells', g1, g2⟩ := fill_sound hM hpl (cells := v.cells.zipIdx.foldl (fun cs (x : Value × Nat) => cs.setIfInBounds (off + x.2) x.1) cells) h2
          (fun x hx => hs x (List.mem_cons_of_mem _ hx)) hf (by rw [place_run _ _ _ hbound]; exact VRs_splice hv hc)
        refine ⟨cells', ?_, g2⟩
        simp only [Instr.fill, hpl _ _ _ hpo hb1]
        have : ¬ (v.cells.size ≠ (tt.at ft).ks.length || decide (off + v.cells.size > cells.size)) = true := by
          simp; omega
        rw [if_neg (by simpa using this)]
        exact g1
theorem build_sound (hP : ttOk P tt = true) (hM : Mem tt cl w0 B0 rt h fb U w) {t : TypeId} {ps : List (Nat × AV)} {qs : Array (Nat × Value)} {cs : List AV}
    (hp : PartsVR tt cl w rt h U ps qs.toList) (hs : ∀ x ∈ ps, (solidQ tt x.2).Runs rt ()) (ht : fieldsHas tt t = true)
    (hf : fillAV tt t ps ((tt.at t).ks.map zeroAV) = some cs) :
    ∃ val, (Instr.build t qs).run P w = .ok val w ∧ VR tt cl w rt h U (.ag cs) val := by
  have hh : tt.has t = true := by
    unfold fieldsHas at ht
    split at ht
    · rename_i hd; simp [Tt.has, hd]
    · rename_i hd; simp [Tt.has, hd]
    · simp at ht
  obtain ⟨it, hi, hsz, _, z, hz, hzk⟩ := (type_facts hP hh).info
  have hzv : VRs tt cl w rt h U ((tt.at t).ks.map zeroAV) z.cells.toList := zeroAVs_vr hzk
  unfold fieldsHas at ht
  split at ht
  · rename_i fs hd
    obtain ⟨F, hu, hF, _⟩ := und_struct hP hd
    have hpl : F.toList.mapM (fun f => (P.info? f.type).map fun i => (f.offset, i.size)) = some (fs.map fun x => (x.1, (tt.at x.2).ks.length)) := by
      rw [← hF] at ht ⊢
      generalize F.toList = L at ht
      induction L with
      | nil => simp
      | cons f L ih =>
        simp only [List.map_cons, List.all_cons, Bool.and_eq_true] at ht
        obtain ⟨i, h1, h2, _⟩ := (type_facts hP ht.1).info
        simp [List.mapM_cons, h1, h2, ih ht.2]
    obtain ⟨cells', g1, g2⟩ := fill_sound hM (place := fun x => (fs.map fun x => (x.1, (tt.at x.2).ks.length)).toArray[x]?) (fun f off ft q1 q2 => by
      unfold placesOf at q1
      simp only [hd] at q1
      have : fs[f]? = some (off, ft) := by simpa [List.head?_drop] using q1
      simp [this]) hp hs hf hzv
    refine ⟨.agg cells', run_build w t qs cells' ?_, by simp only [VR]; exact ⟨_, rfl, g2⟩⟩
    unfold Program.built
    simp only [hi, hu, hz, hpl]
    exact g1
  · rename_i n e hd
    obtain ⟨hu, _⟩ := und_arr hP hd
    obtain ⟨ie, h1, h2, _⟩ := (type_facts hP ht).info
    obtain ⟨cells', g1, g2⟩ := fill_sound hM (place := fun i => some (i * ie.size, ie.size)) (fun f off ft q1 q2 => by
      unfold placesOf at q1
      simp only [hd] at q1
      cases hb : Nat.ble (f + 1) n with
      | false => simp [hb] at q1
      | true =>
        simp only [hb, cond_true, Option.some.injEq, Prod.mk.injEq] at q1
        obtain ⟨rfl, rfl⟩ := q1
        rw [h2]) hp hs hf hzv
    refine ⟨.agg cells', run_build w t qs cells' ?_, by simp only [VR]; exact ⟨_, rfl, g2⟩⟩
    unfold Program.built
    simp only [hi, hu, hz, h1]
    exact g1
  · simp at ht
end
end Go.Ev
end
section
/- The evaluator: a change of memory; new variables. -/
set_option linter.unusedSimpArgs false
namespace Go.Ev
section
variable {P : Program} {tt : Tt} {cl : Cl} {w0 : World} {B0 : Bs} {rt : Nat → Option Root} {h : Nat → Option Addr × Nat} {fb : Nat → Bs} {U : Bs} {w : World}

theorem over_some {up : List (Nat × Root)} {r : Nat} {x : Root} (hf : find up r = some x) : over rt up r = some x := by simp [over, hf]
theorem over_none {up : List (Nat × Root)} {r : Nat} (hf : find up r = none) : over rt up r = rt r := by simp [over, hf]

theorem Mem.update {w' : World} {up : List (Nat × Root)} {h' : Nat → Option Addr × Nat} {fb' : Nat → Bs} {U' : Bs} (hM : Mem tt cl w0 B0 rt h fb U w)
    (hU : Sub U U') (hUs : ∀ c, U c → w'.heap[c]? = w.heap[c]?)
    (hun : ∀ r, find up r = none → h' r = h r ∧ fb' r = fb r ∧ ∀ c, fb r c → w'.heap[c]? = w.heap[c]?)
    (hcu : ∀ r x, find up r = some x → rt r ≠ none → Compat tt w w' (rt r) (some x) (h r) (h' r))
    (hnew : (∀ r, rt r ≠ none → Compat tt w w' (rt r) (over rt up r) (h r) (h' r)) → ∀ r x, find up r = some x → RootOk tt cl w' (over rt up) h' (fb' r) U' (h' r) x)
    (hdis : ∀ r r', r ≠ r' → Dis (fb' r) (fb' r')) (hdisU : ∀ r, Dis (fb' r) U')
    (hfb : ∀ r c, find up r ≠ none → fb' r c → c < w'.heap.size ∧ (B0 c ∨ w0.heap.size ≤ c))
    (hUb : ∀ c, U' c → c < w'.heap.size) (hsize : w.heap.size ≤ w'.heap.size) (hext : Ext w0 w' B0) :
    Mem tt cl w0 B0 (over rt up) h' fb' U' w' ∧ ∀ r, rt r ≠ none → Compat tt w w' (rt r) (over rt up r) (h r) (h' r) := by
  have hc : ∀ r, rt r ≠ none → Compat tt w w' (rt r) (over rt up r) (h r) (h' r) := by
    intro r hr
    cases hf : find up r with
    | some x => rw [over_some hf]; exact hcu r x hf hr
    | none =>
      obtain ⟨e1, e2, e3⟩ := hun r hf
      rw [over_none hf]
      refine .inr ⟨e1, ?_⟩
      cases hx : rt r with
      | none => exact absurd hx hr
      | some y =>
        have hok := hM.rts r y hx
        cases y with
        | var own cs => exact .inr (.inr (.inl ⟨_, _, _, _, rfl, rfl⟩))
        | dead => exact .inr (.inr (.inr ⟨rfl, rfl⟩))
        | row own ks rows ver =>
          refine .inl ⟨_, _, _, _, _, rfl, rfl, fun p v hp => HdrAt.same hok hp fun c hcc => ?_⟩
          cases own with
          | true => exact e3 c hcc
          | false => exact hUs c hcc
  refine ⟨⟨?_, hdis, hdisU, ?_, ?_, hUb, hext⟩, hc⟩
  · intro r x hr
    cases hf : find up r with
    | some y => rw [over_some hf] at hr; cases hr; exact hnew hc r x hf
    | none =>
      obtain ⟨e1, e2, e3⟩ := hun r hf
      rw [over_none hf] at hr
      have hok := hM.rts r x hr
      rw [e1, e2]
      cases x with
      | dead => trivial
      | var own cs =>
        obtain ⟨b, c, t, fr, g1, g2, g3, g4, g5⟩ := hok
        refine ⟨b, c, t, fr, g1, ?_, VRs.step hUs hU hc _ _ g3, g4, fun e => hU _ (g5 e)⟩
        rw [← g2]
        cases own with
        | true => exact e3 b (g4 rfl).2
        | false => exact hUs b (g5 rfl)
      | row own ks rows ver =>
        have hok' : Rd tt w own (.W ks (h r).1 (h r).2 rows) (bif own then fb r else U) := hok
        cases own with
        | true => exact hok'.frame fun c hcc => e3 c (by rcases hcc with q | q; exact q; exact q.elim)
        | false => exact Rd.mono (hok'.frame fun c hcc => hUs c (by rcases hcc with q | q; exact q; exact q.elim)) hU
  · intro r c hcc
    cases hf : find up r with
    | some y => exact hfb r c (by rw [hf]; simp) hcc
    | none =>
      obtain ⟨e1, e2, e3⟩ := hun r hf
      rw [e2] at hcc
      obtain ⟨g1, g2⟩ := hM.fbb r c hcc
      exact ⟨Nat.lt_of_lt_of_le g1 hsize, g2⟩
  · intro r hr
    cases hf : find up r with
    | some y => rw [over_some hf] at hr; cases hr
    | none =>
      obtain ⟨e1, e2, e3⟩ := hun r hf
      rw [over_none hf] at hr
      rw [e2]; exact hM.none_ r hr

/-! ### a new block -/
abbrev pushed (w : World) (o : Obj) : World := w.alloc o
theorem pushed_old (w : World) (o : Obj) {c : Nat} (hc : c < w.heap.size) : (pushed w o).heap[c]? = w.heap[c]? := by
  unfold pushed World.alloc; simp only [Array.getElem?_push, Nat.ne_of_lt hc, if_false]
theorem pushed_new (w : World) (o : Obj) : (pushed w o).heap[w.heap.size]? = some o := by unfold pushed World.alloc; simp only [Array.getElem?_push, if_true]
theorem pushed_size (w : World) (o : Obj) : (pushed w o).heap.size = w.heap.size + 1 := by unfold pushed World.alloc; simp only [Array.size_push]
theorem pushed_ext {w : World} (o : Obj) (he : Ext w0 w B0) : Ext w0 (pushed w o) B0 :=
  ⟨by have := he.size; rw [pushed_size]; omega, fun c hc hn => (pushed_old w o (Nat.lt_of_lt_of_le hc he.size)).trans (he.same c hc hn), he.os, he.tape, he.out⟩
def set1 {α : Type} (f : Nat → α) (r : Nat) (x : α) : Nat → α := fun s => if s = r then x else f s
theorem set1_eq {α : Type} {f : Nat → α} {r : Nat} {x : α} : set1 f r x r = x := by simp [set1]
theorem set1_ne {α : Type} {f : Nat → α} {r s : Nat} {x : α} (h : s ≠ r) : set1 f r x s = f s := by simp [set1, h]
theorem find_one {r s : Nat} {x y : Root} (hf : find [(r, x)] s = some y) : s = r ∧ y = x := by
  simp only [find] at hf
  cases hb : Nat.beq r s with
  | false => simp [hb] at hf
  | true => simp only [hb, cond_true, Option.some.injEq] at hf; exact ⟨(Nat.eq_of_beq_eq_true hb).symm, hf.symm⟩
theorem find_one_none {r s : Nat} {x : Root} (hf : find [(r, x)] s = none) : s ≠ r := by
  rintro rfl
  simp [find] at hf
/-- a new root in a new block of the call's own, which holds nothing that is owned elsewhere -/
theorem new_root (hM : Mem tt cl w0 B0 rt h fb U w) {r : Nat} (hr : rt r = none) {x : Root} {cap : Nat} {o : Obj}
    (hx : (∀ s, rt s ≠ none → Compat tt w (pushed w o) (rt s) (over rt [(r, x)] s) (h s) (set1 h r (some ⟨w.heap.size, 0, none⟩, cap) s)) →
      RootOk tt cl (pushed w o) (over rt [(r, x)]) (set1 h r (some ⟨w.heap.size, 0, none⟩, cap)) (fun c => c = w.heap.size) U (some ⟨w.heap.size, 0, none⟩, cap) x) :
    Mem tt cl w0 B0 (over rt [(r, x)]) (set1 h r (some ⟨w.heap.size, 0, none⟩, cap)) (set1 fb r (fun c => c = w.heap.size)) U (pushed w o) ∧
      ∀ s, rt s ≠ none → Compat tt w (pushed w o) (rt s) (over rt [(r, x)] s) (h s) (set1 h r (some ⟨w.heap.size, 0, none⟩, cap) s) := by
  have hfr : ∀ s c, set1 fb r (fun c => c = w.heap.size) s c → (s = r ∧ c = w.heap.size) ∨ (s ≠ r ∧ fb s c) := by
    intro s c hc
    by_cases e : s = r
    · subst e; rw [set1_eq] at hc; exact .inl ⟨rfl, hc⟩
    · rw [set1_ne e] at hc; exact .inr ⟨e, hc⟩
  refine Mem.update hM (fun _ h => h) (fun c hc => pushed_old w o (hM.Ub c hc)) ?_ ?_ ?_ ?_ ?_ ?_ ?_ ?_ (pushed_ext o hM.ext)
  · intro s hf
    have hne := find_one_none hf
    exact ⟨set1_ne hne, set1_ne hne, fun c hc => pushed_old w o (hM.fbb s c hc).1⟩
  · intro s y hf hs
    obtain ⟨rfl, _⟩ := find_one hf
    exact absurd hr hs
  · intro hc s y hf
    obtain ⟨rfl, rfl⟩ := find_one hf
    rw [set1_eq, set1_eq]
    exact hx hc
  · intro s s' hne c h1 h2
    rcases hfr s c h1 with ⟨rfl, e1⟩ | ⟨n1, q1⟩ <;> rcases hfr s' c h2 with ⟨rfl, e2⟩ | ⟨n2, q2⟩
    · exact hne rfl
    · have := (hM.fbb s' c q2).1; omega
    · have := (hM.fbb s c q1).1; omega
    · exact hM.dis s s' hne c q1 q2
  · intro s c h1 h2
    rcases hfr s c h1 with ⟨rfl, e1⟩ | ⟨n1, q1⟩
    · have := hM.Ub c h2; omega
    · exact hM.disU s c q1 h2
  · intro s c _ hc
    rcases hfr s c hc with ⟨rfl, e1⟩ | ⟨n1, q1⟩
    · subst e1; rw [pushed_size]; exact ⟨by omega, .inr hM.ext.size⟩
    · obtain ⟨g1, g2⟩ := hM.fbb s c q1
      rw [pushed_size]; exact ⟨by omega, g2⟩
  · intro c hc; have := hM.Ub c hc; rw [pushed_size]; omega
  · rw [pushed_size]; omega
theorem new_var (hM : Mem tt cl w0 B0 rt h fb U w) {r : Nat} (hr : rt r = none) {cs : List AV} {vs : Array Value} {t : TypeId} (hv : VRs tt cl w rt h U cs vs.toList) :
    StepTo tt cl w0 B0 rt h fb U w [(r, .var true cs)] (.ptr r [] 0 0 0) (.pointer (some ⟨w.heap.size, 0, none⟩)) (pushed w (.cells vs t)) := by
  obtain ⟨h1, h2⟩ := new_root hM hr (x := .var true cs) (cap := 0) (o := .cells vs t) fun hc =>
    ⟨w.heap.size, vs, t, (0, 0), rfl, pushed_new w _, VRs.step (fun c hcc => pushed_old w _ (hM.Ub c hcc)) (fun _ h => h) hc _ _ hv, fun _ => ⟨rfl, rfl⟩, by simp⟩
  refine ⟨_, _, U, h1, ?_, fun _ h => h, fun c hc => pushed_old w _ (hM.Ub c hc), h2⟩
  have ho : over rt [(r, Root.var true cs)] r = some (.var true cs) := by simp [over, find]
  simp only [VR]
  refine ⟨by rw [ho]; simp, fun own ks rows rv hx => by (rw [ho] at hx; cases hx), fun own cs' hx _ _ => ⟨w.heap.size, by rw [set1_eq], rfl⟩⟩
end
end Go.Ev
end
section
/- The evaluator: what is handed over; new rows. -/
set_option linter.unusedSimpArgs false
namespace Go.Ev
section
variable {P : Program} {tt : Tt} {cl : Cl} {w0 : World} {B0 : Bs} {rt : Nat → Option Root} {h : Nat → Option Addr × Nat} {fb : Nat → Bs} {U : Bs} {w : World}

/-- the memory of roots -/
def FB (fb : Nat → Bs) (l : List (Nat × Root)) : Bs := fun c => ∃ x ∈ l, fb x.1 c
theorem FB_append {a b : List (Nat × Root)} {c : Nat} : FB fb (a ++ b) c ↔ FB fb a c ∨ FB fb b c := by
  simp only [FB, List.mem_append]
  constructor
  · rintro ⟨x, h | h, e⟩; exact .inl ⟨x, h, e⟩; exact .inr ⟨x, h, e⟩
  · rintro (⟨x, h, e⟩ | ⟨x, h, e⟩); exact ⟨x, .inl h, e⟩; exact ⟨x, .inr h, e⟩
theorem distinct_cons {k : Nat} {r : Root} {l : List (Nat × Root)} : keysDistinct ((k, r) :: l) = true ↔ (∀ y ∈ l, y.1 ≠ k) ∧ keysDistinct l = true := by
  simp only [keysDistinct, Bool.and_eq_true, List.all_eq_true, Bool.not_eq_true']
  constructor
  · rintro ⟨h1, h2⟩
    refine ⟨fun y hy e => ?_, h2⟩
    have := h1 y hy
    rw [e] at this
    simp at this
  · rintro ⟨h1, h2⟩
    refine ⟨fun y hy => ?_, h2⟩
    cases hb : Nat.beq y.1 k with
    | false => rfl
    | true => exact absurd (Nat.eq_of_beq_eq_true hb) (h1 y hy)
theorem distinct_append : ∀ {a b : List (Nat × Root)}, keysDistinct (a ++ b) = true → keysDistinct a = true ∧ keysDistinct b = true ∧ ∀ x ∈ a, ∀ y ∈ b, x.1 ≠ y.1
  | [], b, hq => ⟨rfl, hq, by simp⟩
  | (k, r) :: a, b, hq => by
    rw [List.cons_append, distinct_cons] at hq
    obtain ⟨h1, h2⟩ := hq
    obtain ⟨g1, g2, g3⟩ := distinct_append h2
    refine ⟨distinct_cons.2 ⟨fun y hy => h1 y (List.mem_append.2 (.inl hy)), g1⟩, g2, ?_⟩
    rintro x hx y hy
    rcases List.mem_cons.1 hx with rfl | hx
    · exact fun e => h1 y (List.mem_append.2 (.inr hy)) e.symm
    · exact g3 x hx y hy
theorem FB_dis (hd : ∀ r r', r ≠ r' → Dis (fb r) (fb r')) {a b : List (Nat × Root)} (h : ∀ x ∈ a, ∀ y ∈ b, x.1 ≠ y.1) : Dis (FB fb a) (FB fb b) := by
  rintro c ⟨x, hx, h1⟩ ⟨y, hy, h2⟩
  exact hd _ _ (h x hx y hy) c h1 h2
/-- the roots that are handed over: own rows, which die -/
def Given (rt : Nat → Option Root) (l : List (Nat × Root)) : Prop := ∀ x ∈ l, x.2 = .dead ∧ ∃ ks rows ver, rt x.1 = some (.row true ks rows ver)
theorem Given.append {a b : List (Nat × Root)} (ha : Given rt a) (hb : Given rt b) : Given rt (a ++ b) := by
  intro x hx
  rcases List.mem_append.1 hx with q | q
  · exact ha x q
  · exact hb x q
theorem absorb_sound (hM : Mem tt cl w0 B0 rt h fb U w) {k : Ck} {v : AV} {val : Value} {d : D} {dead : List (Nat × Root)} (hq : (absorb tt k v).Runs rt (d, dead))
    (hv : VR tt cl w rt h U v val) : Rd tt w true (.C k val d) (FB fb dead) ∧ Given rt dead := by
  have none_ : Given rt [] := fun x hx => by simp at hx
  unfold absorb at hq
  split at hq
  · simp only [Q.runs_bind, Q.runs_need, decide_eq_true_eq] at hq
    obtain ⟨_, rfl, hq⟩ := hq
    simp only [Q.Runs, Prod.mk.injEq] at hq
    obtain ⟨rfl, rfl⟩ := hq
    cases VR_int.1 hv
    rename_i k n _
    exact ⟨Rd.int (x := D.int n), none_⟩
  · simp only [Q.Runs, Prod.mk.injEq] at hq
    obtain ⟨rfl, rfl⟩ := hq
    cases VR_bool.1 hv
    rename_i b
    exact ⟨Rd.bool (x := D.bool b), none_⟩
  · simp only [Q.Runs, Prod.mk.injEq] at hq
    obtain ⟨rfl, rfl⟩ := hq
    cases VR_str.1 hv
    rename_i s
    exact ⟨Rd.str (x := D.str s), none_⟩
  · simp only [Q.Runs, Prod.mk.injEq] at hq
    obtain ⟨rfl, rfl⟩ := hq
    simp only [VR] at hv
    obtain ⟨a, rfl⟩ := hv
    rename_i e
    exact ⟨Rd.sl (x := D.rows []) .wnil, none_⟩
  · rename_i e q ver
    simp only [Q.Runs] at hq
    split at hq
    · rename_i ks rows v' hr
      simp only [Q.runs_bind, Q.runs_need] at hq
      obtain ⟨_, hk, hq⟩ := hq
      simp only [Q.Runs, Prod.mk.injEq] at hq
      obtain ⟨rfl, rfl⟩ := hq
      have hk := sames_eq hk
      obtain ⟨a, cap, rfl, hW⟩ := slw_rd hM hv (own := true) (ks := ks) (rows := rows) (askRows_runs.2 ⟨true, ks, rows, v', hr, rfl, rfl⟩)
      rw [hk] at hW
      refine ⟨Rd.mono (Rd.sl (x := D.rows rows) hW) fun c hc => ⟨(q, .dead), by simp, hc⟩, ?_⟩
      intro x hx
      simp only [List.mem_singleton] at hx
      subst hx
      exact ⟨rfl, ks, rows, v', hr⟩
    · exact hq.elim
  · rename_i e q off len ver
    simp only [Q.Runs] at hq
    split at hq
    · rename_i ks rows v' hr
      simp only [Q.runs_bind, Q.runs_need] at hq
      obtain ⟨_, hk, hq⟩ := hq
      simp only [Q.Runs, Prod.mk.injEq] at hq
      obtain ⟨rfl, rfl⟩ := hq
      have hk := sames_eq hk
      obtain ⟨a, cap, rfl, _, hl, hW⟩ := sl_rd hM hv (own := true) (ks := ks) (rows := rows) (askRows_runs.2 ⟨true, ks, rows, v', hr, rfl, rfl⟩)
      rw [hk] at hW
      refine ⟨?_, ?_⟩
      · have := Rd.sl (x := D.rows ((rows.drop off).take len)) hW
        rw [show (D.rows ((rows.drop off).take len)).r.length = len from hl] at this
        exact this.mono fun c hc => ⟨(q, .dead), by simp, hc⟩
      · intro x hx
        simp only [List.mem_singleton] at hx
        subst hx
        exact ⟨rfl, ks, rows, v', hr⟩
    · exact hq.elim
  · exact hq.elim
theorem absorbs_sound (hM : Mem tt cl w0 B0 rt h fb U w) : ∀ {ks : List Ck} {vs : List AV} {us : List Value} {ds : List D} {dead : List (Nat × Root)}, (absorbs tt ks vs).Runs rt (ds, dead) →
    VRs tt cl w rt h U vs us → keysDistinct dead = true → RVs tt w true ks us ds (FB fb dead) ∧ Given rt dead
  | [], [], us, ds, dead, hq, hv, _ => by
    simp only [absorbs, Q.Runs, Prod.mk.injEq] at hq
    obtain ⟨rfl, rfl⟩ := hq
    cases us with
    | nil => exact ⟨by simp [RVs], fun x hx => by simp at hx⟩
    | cons u us => simp [VRs] at hv
  | k :: ks, v :: vs, us, ds, dead, hq, hv, hd => by
    simp only [absorbs, Q.runs_bind] at hq
    obtain ⟨⟨d, d1⟩, h1, ⟨es, d2⟩, h2, h3⟩ := hq
    simp only [Q.Runs, Prod.mk.injEq] at h3
    obtain ⟨rfl, rfl⟩ := h3
    obtain ⟨u, us, rfl, g1, g2⟩ := VRs_cons hv
    obtain ⟨k1, k2, k3⟩ := distinct_append hd
    obtain ⟨q1, q2⟩ := absorb_sound hM h1 g1
    obtain ⟨q3, q4⟩ := absorbs_sound hM h2 g2 k2
    exact ⟨⟨_, _, q1, q3, fun c hc => FB_append.2 (.inl hc), fun c hc => FB_append.2 (.inr hc), fun _ => FB_dis hM.dis k3⟩, q2.append q4⟩
  | [], _ :: _, _, _, _, hq, _, _ => by simp [absorbs, Q.Runs] at hq
  | _ :: _, [], _, _, _, hq, _, _ => by simp [absorbs, Q.Runs] at hq

/-! ### values laid into a block -/
def RVr (tt : Tt) (w : World) (own : Bool) (ks : List Ck) : List (List Value) → List (List D) → Bs → Prop
  | [], [], _ => True
  | vs :: l, ds :: m, B => ∃ B1 B2, RVs tt w own ks vs ds B1 ∧ RVr tt w own ks l m B2 ∧ Sub B1 B ∧ Sub B2 B ∧ (own = true → Dis B1 B2)
  | _, _, _ => False
theorem RVs_S {own : Bool} : ∀ {ks : List Ck} {vs : List Value} {ds : List D} {B : Bs} {b o : Nat}, RVs tt w own ks vs ds B → (∀ j, j < vs.length → w.cell? ⟨b, o + j, none⟩ = vs[j]?) →
    Rd tt w own (.S ks b o ds) B
  | [], [], [], B, b, o, _, _ => .snil
  | k :: ks, v :: vs, d :: ds, B, b, o, hr, hc => by
    obtain ⟨B1, B2, h1, h2, s1, s2, hd⟩ := hr
    refine .scons (by simpa using hc 0 (by simp)) h1 (RVs_S h2 fun j hj => ?_) s1 s2 hd
    have := hc (j + 1) (by simpa using hj)
    rw [show o + 1 + j = o + (j + 1) by omega]; simpa using this
  | [], [], _ :: _, _, _, _, hr, _ => by simp [RVs] at hr
  | [], _ :: _, _, _, _, _, hr, _ => by simp [RVs] at hr
  | _ :: _, [], _, _, _, _, hr, _ => by simp [RVs] at hr
  | _ :: _, _ :: _, [], _, _, _, hr, _ => by simp [RVs] at hr
theorem RVr_R {own : Bool} {ks : List Ck} : ∀ {vss : List (List Value)} {rows : List (List D)} {B : Bs} {b o : Nat}, RVr tt w own ks vss rows B → (∀ j, j < vss.flatten.length → w.cell? ⟨b, o + j, none⟩ = vss.flatten[j]?) →
    Rd tt w own (.R ks b o rows) B
  | [], [], B, b, o, _, _ => .rnil
  | vs :: l, ds :: m, B, b, o, hr, hc => by
    obtain ⟨B1, B2, h1, h2, s1, s2, hd⟩ := hr
    have hl := (RVs.len h1).1
    refine .rcons (RVs_S h1 fun j hj => ?_) (RVr_R h2 fun j hj => ?_) s1 s2 hd
    · have := hc j (by simp; omega)
      rw [this]; simp [List.getElem?_append, hj]
    · have := hc (ks.length + j) (by simp only [List.flatten_cons, List.length_append]; omega)
      rw [← Nat.add_assoc] at this
      rw [this, List.flatten_cons, List.getElem?_append_right (by omega)]
      congr 1; omega
  | [], _ :: _, _, _, _, hr, _ => by simp [RVr] at hr
  | _ :: _, [], _, _, _, hr, _ => by simp [RVr] at hr
theorem RVr_len {own : Bool} {ks : List Ck} : ∀ {vss : List (List Value)} {rows : List (List D)} {B : Bs}, RVr tt w own ks vss rows B → vss.length = rows.length ∧ vss.flatten.length = rows.length * ks.length
  | [], [], _, _ => by simp
  | vs :: l, ds :: m, B, hr => by
    obtain ⟨B1, B2, h1, h2, s1, s2, hd⟩ := hr
    have := RVr_len h2
    have := (RVs.len h1).1
    simp [*, Nat.add_mul]; omega
  | [], _ :: _, _, hr => by simp [RVr] at hr
  | _ :: _, [], _, hr => by simp [RVr] at hr
theorem RVr_frame {w' : World} {own : Bool} {ks : List Ck} : ∀ {vss : List (List Value)} {rows : List (List D)} {B : Bs}, RVr tt w own ks vss rows B → (∀ c, B c → w'.heap[c]? = w.heap[c]?) → RVr tt w' own ks vss rows B
  | [], [], _, _, _ => by simp [RVr]
  | vs :: l, ds :: m, B, hr, hs => by
    obtain ⟨B1, B2, h1, h2, s1, s2, hd⟩ := hr
    exact ⟨B1, B2, h1.frame fun c hc => hs c (s1 c hc), RVr_frame h2 fun c hc => hs c (s2 c hc), s1, s2, hd⟩
  | [], _ :: _, _, hr, _ => by simp [RVr] at hr
  | _ :: _, [], _, hr, _ => by simp [RVr] at hr
theorem RVr_mono {own : Bool} {ks : List Ck} {vss : List (List Value)} {rows : List (List D)} {B B' : Bs} (hr : RVr tt w own ks vss rows B) (hs : Sub B B') : RVr tt w own ks vss rows B' := by
  cases vss <;> cases rows <;> try exact hr
  obtain ⟨B1, B2, h1, h2, s1, s2, hd⟩ := hr
  exact ⟨B1, B2, h1, h2, fun c q => hs c (s1 c q), fun c q => hs c (s2 c q), hd⟩
end
end Go.Ev
end
section
/- The evaluator: make, literals of slices. -/
set_option linter.unusedSimpArgs false
namespace Go.Ev
section
variable {P : Program} {tt : Tt} {cl : Cl} {w0 : World} {B0 : Bs} {rt : Nat → Option Root} {h : Nat → Option Addr × Nat} {fb : Nat → Bs} {U : Bs} {w : World}

theorem zeroC_rd {k : Ck} {v : Value} {own : Bool} {B : Bs} (hz : zeroOkC k v = true) (hp : plain [k] = true) : Rd tt w own (.C k v (zeroD k)) B := by
  cases k with
  | int k =>
    cases v <;> simp [zeroOkC] at hz
    obtain ⟨rfl, rfl⟩ := hz
    exact Rd.int (x := D.z)
  | bool =>
    cases v <;> simp [zeroOkC] at hz
    subst hz
    exact Rd.bool (x := D.z)
  | str =>
    cases v <;> simp [zeroOkC] at hz
    rename_i s
    have : s = D.z.s := by rw [show D.z.s = ⟨#[]⟩ from rfl]; cases s; simp_all
    rw [this]; exact Rd.str (x := D.z)
  | sl e =>
    unfold zeroOkC at hz
    split at hz <;> simp_all
    exact Rd.sl (x := D.z) .wnil
  | _ => simp [plain] at hp
theorem plain_cons {k : Ck} {ks : List Ck} (hp : plain (k :: ks) = true) : plain [k] = true ∧ plain ks = true := by
  cases k <;> simp_all [plain]
theorem zeros_rd {own : Bool} : ∀ {ks : List Ck} {vs : List Value} {B : Bs}, zeroOk ks vs = true → plain ks = true → RVs tt w own ks vs (ks.map zeroD) B
  | [], [], _, _, _ => by simp [RVs]
  | k :: ks, v :: vs, B, hz, hp => by
    simp only [zeroOk, Bool.and_eq_true] at hz
    obtain ⟨p1, p2⟩ := plain_cons hp
    exact ⟨fun _ => False, fun _ => False, zeroC_rd hz.1 p1, zeros_rd hz.2 p2, fun _ h => h.elim, fun _ h => h.elim, fun _ _ h => h.elim⟩
  | [], _ :: _, _, hz, _ => by simp [zeroOk] at hz
  | _ :: _, [], _, hz, _ => by simp [zeroOk] at hz
theorem rep_rd {own : Bool} {ks : List Ck} {vs : List Value} {ds : List D} (hz : ∀ B, RVs tt w own ks vs ds B) : ∀ (n : Nat) (B : Bs), RVr tt w own ks (List.replicate n vs) (List.replicate n ds) B
  | 0, _ => by simp [RVr]
  | n + 1, B => by
    simp only [List.replicate_succ]
    exact ⟨fun _ => False, fun _ => False, hz _, rep_rd hz n _, fun _ h => h.elim, fun _ h => h.elim, fun _ _ h => h.elim⟩
theorem flat_rep {α : Type} (vs : List α) : ∀ (n j : Nat), j < n * vs.length → (List.replicate n vs).flatten[j]? = vs[j % vs.length]?
  | 0, j, h => by simp at h
  | n + 1, j, h => by
    rw [List.replicate_succ, List.flatten_cons]
    by_cases hj : j < vs.length
    · rw [List.getElem?_append_left hj, Nat.mod_eq_of_lt hj]
    · rw [List.getElem?_append_right (by omega), flat_rep vs n (j - vs.length) (by have h2 := h; rw [Nat.succ_mul] at h2; omega)]
      rw [← Nat.mod_eq_sub_mod (by omega)]
/-- the rows of a new block of the call's own -/
theorem new_row (hM : Mem tt cl w0 B0 rt h fb U w) {r : Nat} (hr : rt r = none) {ks : List Ck} {rows : List (List D)} {vss : List (List Value)} {cells : Array Value} {t : TypeId} {cap : Nat}
    (hv : RVr tt w true ks vss rows (fun _ => False)) (hc : ∀ j, j < vss.flatten.length → cells[j]? = vss.flatten[j]?) (hcap : rows.length ≤ cap) (hsz : cap * ks.length ≤ cells.size) :
    StepTo tt cl w0 B0 rt h fb U w [(r, .row true ks rows 0)] (.slw r [] 0) (.slice (some ⟨w.heap.size, 0, none⟩) rows.length cap) (pushed w (.cells cells t)) := by
  have hR : Rd tt (pushed w (.cells cells t)) true (.R ks w.heap.size 0 rows) (fun _ => False) := by
    refine RVr_R (RVr_frame hv fun _ h => h.elim) fun j hj => ?_
    rw [cell_of_block (pushed_new w _)]
    simpa using hc j hj
  obtain ⟨h1, h2⟩ := new_root hM hr (x := .row true ks rows 0) (cap := cap) (o := .cells cells t) fun _ =>
    Rd.w hcap (fun _ => ⟨cells, t, pushed_new w _, by simpa using hsz⟩) hR rfl (fun _ h => h.elim) (fun _ h => h)
  refine ⟨_, _, U, h1, ?_, fun _ h => h, fun c hc => pushed_old w _ (hM.Ub c hc), h2⟩
  have ho : over rt [(r, Root.row true ks rows 0)] r = some (.row true ks rows 0) := by simp [over, find]
  simp only [VR]
  refine ⟨by rw [ho]; simp, fun own ks' rows' rv hx => ?_⟩
  rw [ho] at hx; cases hx
  exact ⟨fun h => absurd rfl h, fun _ => by simp only [HdrAt]; rw [set1_eq]⟩
theorem info_of (hP : ttOk P tt = true) {t : TypeId} (ht : tt.has t = true) : ∃ i z, P.info? t = some i ∧ i.size = (tt.at t).ks.length ∧ i.bytes = (tt.at t).bytes ∧ i.zero = some z ∧ zeroOk (tt.at t).ks z.cells.toList = true := by
  obtain ⟨i, h1, h2, h3, z, h4, h5⟩ := (type_facts hP ht).info
  exact ⟨i, z, h1, h2, h3, h4, h5⟩
theorem zeroOk_len : ∀ {ks : List Ck} {vs : List Value}, zeroOk ks vs = true → vs.length = ks.length
  | [], [], _ => rfl
  | k :: ks, v :: vs, hz => by simp only [zeroOk, Bool.and_eq_true] at hz; simp [zeroOk_len hz.2]
  | [], _ :: _, hz => by simp [zeroOk] at hz
  | _ :: _, [], hz => by simp [zeroOk] at hz
theorem wrap_small {n : Int} (h0 : 0 ≤ n) (h1 : n ≤ 4294967296) : IntKind.i64.wrap n = n := IntWalk.i64_in _ (by omega)
theorem make_sound (hP : ttOk P tt = true) (hM : Mem tt cl w0 B0 rt h fb U w) {t e : TypeId} (hd : (tt.at t).d = .sl e) (he : tt.has e = true) (hb : (tt.at e).bytes ≤ 4096) (hp : plain (tt.at e).ks = true)
    (h1k : 1 ≤ (tt.at e).ks.length) {k k' : IntKind} {n c : Int} (h0 : 0 ≤ n) (h1 : n ≤ c) (h2 : c ≤ 4294967296) {r : Nat} (hr : rt r = none) :
    ∃ val w', (Instr.makeSlice t (.int k n) (.int k' c)).run P w = .ok val w' ∧ StepTo tt cl w0 B0 rt h fb U w [(r, .row true (tt.at e).ks (List.replicate n.toNat ((tt.at e).ks.map zeroD)) 0)] (.slw r [] 0) val w' := by
  have hu := und_sl hP hd
  obtain ⟨i, z, g1, g2, g3, g4, g5⟩ := info_of hP he
  have hzl : z.cells.size = (tt.at e).ks.length := by simpa using zeroOk_len g5
  have wn := wrap_small h0 (by omega)
  have wc := wrap_small (n := c) (by omega) h2
  have tl : ∀ m : Int, 0 ≤ m → m ≤ 4294967296 → (decide (m < 0) || decide ((i.bytes : Int) * m > 2 ^ 48)) = false := by
    intro m m0 m1
    have hbb : (i.bytes : Int) ≤ 4096 := by omega
    have hle : (i.bytes : Int) * m ≤ 4096 * 4294967296 := Int.mul_le_mul hbb m1 m0 (by omega)
    simp only [Bool.or_eq_false_iff, decide_eq_false_iff_not]
    omega
  have hrun : (Instr.makeSlice t (.int k n) (.int k' c)).run P w = .ok (.slice (some ⟨w.heap.size, 0, none⟩) n.toNat c.toNat) (pushed w (.cells ((Array.range (c.toNat * i.size)).map (z.cells[· % z.cells.size]!)) e)) := by
    have hc0 : ¬ (c.toNat * i.size = 0 ∧ False) := by simp
    have hroom : ¬ (c.toNat * i.bytes > roomBytes) := by
      have a1 : c.toNat ≤ 4294967296 := by omega
      have a2 : i.bytes ≤ 4096 := by omega
      have := Nat.mul_le_mul a1 a2
      simp only [roomBytes]; omega
    simp only [Instr.makeSlice, Sem.run_bind, run_underlying hu, Result.andThen_ok, asInt, asIntOf, Pure.pure, Sem.run, typeInfo, program, g1, wn, wc, tl c (by omega) h2]
    have c1 : ¬ (n < 0) := by omega
    have c2 : ¬ (n > c) := by omega
    simp only [c1, c2, decide_false, Bool.or_false, Bool.false_eq_true, if_false, askRoom, hroom, sizeOf, typeInfo, program, Sem.run_bind, Sem.run, g1, Result.andThen_ok, Pure.pure]
    by_cases h00 : c.toNat * i.size = 0
    · have e0 : Array.range 0 = #[] := rfl
      simp [h00, newRow, newObj, Sem.run, Pure.pure, e0, pushed]
    · simp [h00, zeroValue, typeInfo, program, g1, g4, newRow, newObj, Sem.run, Pure.pure]
  refine ⟨_, _, hrun, ?_⟩
  have hz := rep_rd (tt := tt) (w := w) (own := true) (fun B => zeros_rd (B := B) g5 hp) n.toNat (fun _ => False)
  have := new_row hM hr (t := e) (cap := c.toNat) (cells := (Array.range (c.toNat * i.size)).map (z.cells[· % z.cells.size]!)) hz ?_ (by simp; omega) (by simp [g2])
  · simpa using this
  · intro j hj
    have hlen : (List.replicate n.toNat z.cells.toList).flatten.length = n.toNat * (tt.at e).ks.length := by
      simp [hzl]
    rw [hlen] at hj
    rw [flat_rep _ _ _ (by simpa [hzl] using hj)]
    have hjc : j < c.toNat * i.size := by
      rw [g2]; exact Nat.lt_of_lt_of_le hj (Nat.mul_le_mul_right _ (by omega))
    have hm : j % z.cells.size < z.cells.size := Nat.mod_lt _ (by omega)
    simp [hjc, hm]
end
end Go.Ev
end
section
/- The evaluator: roots die, another is made of what they held. -/
set_option linter.unusedSimpArgs false
namespace Go.Ev
section
variable {P : Program} {tt : Tt} {cl : Cl} {w0 : World} {B0 : Bs} {rt : Nat → Option Root} {h : Nat → Option Addr × Nat} {fb : Nat → Bs} {U : Bs} {w : World}

def isKey (l : List (Nat × Root)) (s : Nat) : Prop := ∃ x ∈ l, x.1 = s
theorem find_key {l : List (Nat × Root)} {s : Nat} {y : Root} (hf : find l s = some y) : (s, y) ∈ l := by
  induction l with
  | nil => simp [find] at hf
  | cons x l ih =>
    obtain ⟨k, v⟩ := x
    simp only [find] at hf
    cases hb : Nat.beq k s with
    | true =>
      simp only [hb, cond_true, Option.some.injEq] at hf
      subst hf
      cases Nat.eq_of_beq_eq_true hb
      simp
    | false => simp only [hb, cond_false] at hf; exact List.mem_cons_of_mem _ (ih hf)
theorem find_none_key {l : List (Nat × Root)} {s : Nat} (hf : find l s = none) : ¬ isKey l s := by
  induction l with
  | nil => rintro ⟨x, hx, _⟩; simp at hx
  | cons x l ih =>
    obtain ⟨k, v⟩ := x
    simp only [find] at hf
    cases hb : Nat.beq k s with
    | true => simp [hb] at hf
    | false =>
      simp only [hb, cond_false] at hf
      rintro ⟨y, hy, e⟩
      rcases List.mem_cons.1 hy with rfl | hy
      · simp only at e; subst e; simp at hb
      · exact ih hf ⟨y, hy, e⟩
theorem key_find {l : List (Nat × Root)} {s : Nat} (hk : isKey l s) : find l s ≠ none := fun e => find_none_key e hk

open Classical in
/-- the memory of roots behind a step in which some died and one was made -/
noncomputable def fbKill (fb : Nat → Bs) (dead : List (Nat × Root)) (r : Nat) (F : Bs) : Nat → Bs := fun s => if s = r then F else if isKey dead s then fun _ => False else fb s

theorem kill_new (hM : Mem tt cl w0 B0 rt h fb U w) {r : Nat} (hr : rt r = none) {dead : List (Nat × Root)} (hg : Given rt dead) {w' : World}
    (hsame : ∀ c, c < w.heap.size → ¬ FB fb dead c → w'.heap[c]? = w.heap[c]?) (hsize : w.heap.size ≤ w'.heap.size) (hos : w'.os = w.os) (htape : w'.tape = w.tape) (hout : w'.output = w.output)
    {own : Bool} {ks : List Ck} {rows : List (List D)} {hd : Option Addr × Nat} {F : Bs}
    (hF : ∀ c, F c → FB fb dead c ∨ (w.heap.size ≤ c ∧ c < w'.heap.size)) (hok : Rd tt w' own (.W ks hd.1 hd.2 rows) (bif own then F else Un U F)) :
    StepTo tt cl w0 B0 rt h fb U w (dead ++ [(r, .row own ks rows 0)]) (.slw r [] 0) (.slice hd.1 rows.length hd.2) w' := by
  have hfbU : ∀ c, FB fb dead c → ¬ U c := by rintro c ⟨x, _, hx⟩ hu; exact hM.disU _ c hx hu
  have hUs : ∀ c, U c → w'.heap[c]? = w.heap[c]? := fun c hc => hsame c (hM.Ub c hc) fun hb => hfbU c hb hc
  have hup : ∀ s, find (dead ++ [(r, Root.row own ks rows 0)]) s = none → s ≠ r ∧ ¬ isKey dead s := by
    intro s hf
    have := find_none_key hf
    refine ⟨fun e => this ⟨(r, .row own ks rows 0), by simp, e.symm⟩, fun ⟨x, hx, e⟩ => this ⟨x, by simp [hx], e⟩⟩
  have hdr : ¬ isKey dead r := by
    rintro ⟨x, hx, e⟩
    obtain ⟨_, k, rr, v, h1⟩ := hg x hx
    rw [e, hr] at h1; cases h1
  have hval : ∀ s y, find (dead ++ [(r, Root.row own ks rows 0)]) s = some y → (s = r ∧ y = .row own ks rows 0) ∨ (isKey dead s ∧ y = .dead ∧ s ≠ r) := by
    intro s y hf
    rcases List.mem_append.1 (find_key hf) with hx | hx
    · exact .inr ⟨⟨_, hx, rfl⟩, (hg _ hx).1, fun e => hdr ⟨_, hx, e⟩⟩
    · simp only [List.mem_singleton, Prod.mk.injEq] at hx
      exact .inl hx
  let F' : Bs := bif own then F else fun _ => False
  have hF' : ∀ c, F' c → F c := by intro c hc; cases own with | true => exact hc | false => exact hc.elim
  have hfk : ∀ s c, fbKill fb dead r F' s c → (s = r ∧ F' c) ∨ (s ≠ r ∧ ¬ isKey dead s ∧ fb s c) := by
    intro s c hc
    unfold fbKill at hc
    split at hc
    · exact .inl ⟨by assumption, hc⟩
    · split at hc
      · exact hc.elim
      · exact .inr ⟨by assumption, by assumption, hc⟩
  have hdead_fb : ∀ s c, ¬ isKey dead s → fb s c → ¬ FB fb dead c := by
    rintro s c hs hc ⟨x, hx, h2⟩
    exact hM.dis s x.1 (fun e => hs ⟨x, hx, e.symm⟩) c hc h2
  let U' : Bs := bif own then U else Un U F
  have hUU : Sub U U' := by intro c hc; show (bif own then U else Un U F) c; cases own with | true => exact hc | false => exact .inl hc
  have hU' : ∀ c, U' c → U c ∨ (own = false ∧ F c) := by
    intro c hc
    revert hc
    show (bif own then U else Un U F) c → _
    cases own with
    | true => exact fun hc => .inl hc
    | false => rintro (hc | hc); exact .inl hc; exact .inr ⟨rfl, hc⟩
  have fin : (Mem tt cl w0 B0 (over rt (dead ++ [(r, Root.row own ks rows 0)])) (set1 h r hd) (fbKill fb dead r F') U' w' ∧
      ∀ s, rt s ≠ none → Compat tt w w' (rt s) (over rt (dead ++ [(r, Root.row own ks rows 0)]) s) (h s) (set1 h r hd s)) →
      StepTo tt cl w0 B0 rt h fb U w (dead ++ [(r, .row own ks rows 0)]) (.slw r [] 0) (.slice hd.1 rows.length hd.2) w' := by
    rintro ⟨h1, h2⟩
    refine ⟨_, _, U', h1, ?_, hUU, hUs, h2⟩
    have ho : over rt (dead ++ [(r, Root.row own ks rows 0)]) r = some (.row own ks rows 0) := by
      have : find dead r = none := by
        cases hf : find dead r with
        | none => rfl
        | some y => exact absurd ⟨_, find_key hf, rfl⟩ hdr
      simp [over, find_append, this, find]
    simp only [VR]
    refine ⟨by rw [ho]; simp, fun own' ks' rows' rv hx => ?_⟩
    rw [ho] at hx; cases hx
    exact ⟨fun h => absurd rfl h, fun _ => by simp only [HdrAt]; rw [set1_eq]⟩
  refine fin (Mem.update (w' := w') (up := dead ++ [(r, Root.row own ks rows 0)]) (h' := set1 h r hd) (fb' := fbKill fb dead r F') (U' := U') hM hUU hUs ?_ ?_ ?_ ?_ ?_ ?_ ?_ hsize ?_)
  · intro s hf
    obtain ⟨h1, h2⟩ := hup s hf
    refine ⟨set1_ne h1, by simp [fbKill, h1, h2], fun c hc => hsame c (hM.fbb s c hc).1 (hdead_fb s c h2 hc)⟩
  · intro s y hf hs
    rcases hval s y hf with ⟨rfl, _⟩ | ⟨_, rfl, _⟩
    · exact absurd hr hs
    · exact .inl rfl
  · intro _ s y hf
    rcases hval s y hf with ⟨rfl, rfl⟩ | ⟨_, rfl, _⟩
    · rw [set1_eq]
      have e1 : fbKill fb dead s F' s = F' := by simp [fbKill]
      rw [e1]
      show Rd tt w' own (.W ks hd.1 hd.2 rows) (bif own then F' else U')
      cases own with
      | true => exact hok
      | false => exact hok
    · trivial
  · intro s s' hne c hc1 hc2
    rcases hfk s c hc1 with ⟨rfl, q1⟩ | ⟨n1, m1, q1⟩ <;> rcases hfk s' c hc2 with ⟨rfl, q2⟩ | ⟨n2, m2, q2⟩
    · exact hne rfl
    · rcases hF c (hF' c q1) with q | q
      · exact hdead_fb s' c m2 q2 q
      · have := (hM.fbb s' c q2).1; omega
    · rcases hF c (hF' c q2) with q | q
      · exact hdead_fb s c m1 q1 q
      · have := (hM.fbb s c q1).1; omega
    · exact hM.dis s s' hne c q1 q2
  · intro s c hc1 hc2
    rcases hU' c hc2 with q | ⟨ho, q⟩
    · rcases hfk s c hc1 with ⟨rfl, q1⟩ | ⟨n1, m1, q1⟩
      · rcases hF c (hF' c q1) with q3 | q3
        · exact hfbU c q3 q
        · have := hM.Ub c q; omega
      · exact hM.disU s c q1 q
    · rcases hfk s c hc1 with ⟨rfl, q1⟩ | ⟨n1, m1, q1⟩
      · revert q1; show (bif own then F else fun _ => False) c → False; rw [ho]; exact fun h => h
      · rcases hF c q with q3 | q3
        · exact hdead_fb s c m1 q1 q3
        · have := (hM.fbb s c q1).1; omega
  · intro s c _ hc
    rcases hfk s c hc with ⟨rfl, q1⟩ | ⟨n1, m1, q1⟩
    · rcases hF c (hF' c q1) with ⟨x, hx, q3⟩ | q3
      · obtain ⟨g1, g2⟩ := hM.fbb _ c q3
        exact ⟨by omega, g2⟩
      · exact ⟨q3.2, .inr (Nat.le_trans hM.ext.size q3.1)⟩
    · obtain ⟨g1, g2⟩ := hM.fbb s c q1
      exact ⟨by omega, g2⟩
  · intro c hc
    rcases hU' c hc with q | ⟨_, q⟩
    · have := hM.Ub c q; omega
    · rcases hF c q with ⟨x, hx, q3⟩ | q3
      · have := (hM.fbb _ c q3).1; omega
      · exact q3.2
  · have he := hM.ext
    refine ⟨Nat.le_trans he.size hsize, fun c hc hn => ?_, hos.trans he.os, htape.trans he.tape, hout.trans he.out⟩
    refine (hsame c (Nat.lt_of_lt_of_le hc he.size) ?_).trans (he.same c hc hn)
    rintro ⟨x, hx, q⟩
    rcases (hM.fbb _ c q).2 with g | g
    · exact hn g
    · omega
end
end Go.Ev
end
section
/- The evaluator: literals of slices; append. -/
set_option linter.unusedSimpArgs false
namespace Go.Ev
section
variable {P : Program} {tt : Tt} {cl : Cl} {w0 : World} {B0 : Bs} {rt : Nat → Option Root} {h : Nat → Option Addr × Nat} {fb : Nat → Bs} {U : Bs} {w : World}

/-- handed over, or borrowed -/
def Lent (fb : Nat → Bs) (U : Bs) (own : Bool) (dead : List (Nat × Root)) : Bs := bif own then FB fb dead else Un U (FB fb dead)
theorem Lent_borrow {own : Bool} {dead : List (Nat × Root)} : Sub (Lent fb U own dead) (Lent fb U false dead) := by
  intro c hc; cases own with
  | true => exact .inr hc
  | false => exact hc
theorem absorbE_sound (hM : Mem tt cl w0 B0 rt h fb U w) {k : Ck} {v : AV} {val : Value} {o : Bool} {d : D} {dead : List (Nat × Root)} (hq : (absorbE tt k v).Runs rt (o, d, dead))
    (hv : VR tt cl w rt h U v val) : Rd tt w o (.C k val d) (Lent fb U o dead) ∧ Given rt dead := by
  unfold absorbE at hq
  split at hq
  · rename_i e q p ver
    simp only [Q.Runs] at hq
    split at hq
    · rename_i own ks rows v' hr
      cases own with
      | true =>
        simp only [cond_true, Q.runs_bind] at hq
        obtain ⟨⟨d', dead'⟩, h1, h2⟩ := hq
        simp only [Q.Runs, Prod.mk.injEq] at h2
        obtain ⟨rfl, rfl, rfl⟩ := h2
        exact absorb_sound hM h1 hv
      | false =>
        simp only [cond_false, Q.runs_bind, Q.runs_need, Bool.and_eq_true] at hq
        obtain ⟨_, ⟨hp, hk⟩, h2⟩ := hq
        simp only [Q.Runs, Prod.mk.injEq] at h2
        obtain ⟨rfl, rfl, rfl⟩ := h2
        have hk := sames_eq hk
        obtain ⟨a, cap, rfl, hW⟩ := slw_rd hM hv (askRows_runs.2 ⟨false, ks, rows, v', hr, hp, rfl⟩)
        rw [hk] at hW
        exact ⟨Rd.mono (Rd.sl (x := D.rows (rowsAt rows p)) hW) fun c hc => .inl hc, fun x hx => by simp at hx⟩
    · exact hq.elim
  · rename_i e q p off len ver
    simp only [Q.Runs] at hq
    split at hq
    · rename_i own ks rows v' hr
      cases own with
      | true =>
        simp only [cond_true, Q.runs_bind] at hq
        obtain ⟨⟨d', dead'⟩, h1, h2⟩ := hq
        simp only [Q.Runs, Prod.mk.injEq] at h2
        obtain ⟨rfl, rfl, rfl⟩ := h2
        exact absorb_sound hM h1 hv
      | false =>
        simp only [cond_false, Q.runs_bind, Q.runs_need, Bool.and_eq_true] at hq
        obtain ⟨_, ⟨hp, hk⟩, h2⟩ := hq
        simp only [Q.Runs, Prod.mk.injEq] at h2
        obtain ⟨rfl, rfl, rfl⟩ := h2
        have hk := sames_eq hk
        obtain ⟨a, cap, rfl, _, hl, hW⟩ := sl_rd hM hv (askRows_runs.2 ⟨false, ks, rows, v', hr, hp, rfl⟩)
        rw [hk] at hW
        have := Rd.sl (x := D.rows (((rowsAt rows p).drop off).take len)) hW
        rw [show (D.rows (((rowsAt rows p).drop off).take len)).r.length = len from hl] at this
        exact ⟨this.mono fun c hc => .inl hc, fun x hx => by simp at hx⟩
    · exact hq.elim
  · simp only [Q.runs_bind] at hq
    obtain ⟨⟨d', dead'⟩, h1, h2⟩ := hq
    simp only [Q.Runs, Prod.mk.injEq] at h2
    obtain ⟨rfl, rfl, rfl⟩ := h2
    exact absorb_sound hM h1 hv
theorem Lent_append (o : Bool) {a b : List (Nat × Root)} : Sub (Lent fb U o a) (Lent fb U o (a ++ b)) ∧ Sub (Lent fb U o b) (Lent fb U o (a ++ b)) := by
  cases o with
  | true => exact ⟨fun c hc => FB_append.2 (.inl hc), fun c hc => FB_append.2 (.inr hc)⟩
  | false =>
    refine ⟨fun c hc => ?_, fun c hc => ?_⟩
    · rcases hc with q | q; exact .inl q; exact .inr (FB_append.2 (.inl q))
    · rcases hc with q | q; exact .inl q; exact .inr (FB_append.2 (.inr q))
theorem absorbsE_sound (hM : Mem tt cl w0 B0 rt h fb U w) : ∀ {ks : List Ck} {vs : List AV} {us : List Value} {o : Bool} {ds : List D} {dead : List (Nat × Root)}, (absorbsE tt ks vs).Runs rt (o, ds, dead) →
    VRs tt cl w rt h U vs us → keysDistinct dead = true → RVs tt w o ks us ds (Lent fb U o dead) ∧ Given rt dead
  | [], [], us, o, ds, dead, hq, hv, _ => by
    simp only [absorbsE, Q.Runs, Prod.mk.injEq] at hq
    obtain ⟨rfl, rfl, rfl⟩ := hq
    cases us with
    | nil => exact ⟨by simp [RVs], fun x hx => by simp at hx⟩
    | cons u us => simp [VRs] at hv
  | k :: ks, v :: vs, us, o, ds, dead, hq, hv, hd => by
    simp only [absorbsE, Q.runs_bind] at hq
    obtain ⟨⟨o1, d, d1⟩, h1, ⟨o2, es, d2⟩, h2, h3⟩ := hq
    simp only [Q.Runs, Prod.mk.injEq] at h3
    obtain ⟨rfl, rfl, rfl⟩ := h3
    obtain ⟨u, us, rfl, g1, g2⟩ := VRs_cons hv
    obtain ⟨k1, k2, k3⟩ := distinct_append hd
    obtain ⟨q1, q2⟩ := absorbE_sound hM h1 g1
    obtain ⟨q3, q4⟩ := absorbsE_sound hM h2 g2 k2
    refine ⟨?_, q2.append q4⟩
    cases o1 <;> cases o2
    · exact ⟨_, _, q1, q3, (Lent_append false).1, (Lent_append false).2, by simp⟩
    · exact ⟨_, _, q1, q3.borrow.mono Lent_borrow, (Lent_append false).1, (Lent_append false).2, by simp⟩
    · exact ⟨_, _, q1.borrow.mono Lent_borrow, q3, (Lent_append false).1, (Lent_append false).2, by simp⟩
    · exact ⟨_, _, q1, q3, (Lent_append true).1, (Lent_append true).2, fun _ => FB_dis hM.dis k3⟩
  | [], _ :: _, _, _, _, _, hq, _, _ => by simp [absorbsE, Q.Runs] at hq
  | _ :: _, [], _, _, _, _, hq, _, _ => by simp [absorbsE, Q.Runs] at hq
theorem RVr_borrow {own : Bool} {ks : List Ck} : ∀ {vss : List (List Value)} {rows : List (List D)} {B : Bs}, RVr tt w own ks vss rows B → RVr tt w false ks vss rows B
  | [], [], _, _ => by simp [RVr]
  | vs :: l, ds :: m, B, hr => by
    obtain ⟨B1, B2, h1, h2, s1, s2, hd⟩ := hr
    exact ⟨B1, B2, h1.borrow, RVr_borrow h2, s1, s2, by simp⟩
  | [], _ :: _, _, hr => by simp [RVr] at hr
  | _ :: _, [], _, hr => by simp [RVr] at hr
/-- parts that stand one behind the other -/
def Dense (size : Nat) : Nat → List (Nat × Value) → List (List Value) → Prop
  | _, [], [] => True
  | j, (i, v) :: l, vs :: m => i = j ∧ v.cells.toList = vs ∧ vs.length = size ∧ Dense size (j + 1) l m
  | _, _, _ => False
theorem litRows_sound (hM : Mem tt cl w0 B0 rt h fb U w) {ks : List Ck} : ∀ {ps : List (Nat × AV)} {qs : List (Nat × Value)} {j : Nat} {o : Bool} {rows : List (List D)} {dead : List (Nat × Root)},
    (litRows tt ks ps j).Runs rt (o, rows, dead) → PartsVR tt cl w rt h U ps qs → keysDistinct dead = true →
    ∃ vss, Dense ks.length j qs vss ∧ RVr tt w o ks vss rows (Lent fb U o dead) ∧ Given rt dead
  | [], [], j, o, rows, dead, hq, _, _ => by
    simp only [litRows, Q.Runs, Prod.mk.injEq] at hq
    obtain ⟨rfl, rfl, rfl⟩ := hq
    exact ⟨[], by simp [Dense], by simp [RVr], fun x hx => by simp at hx⟩
  | [], _ :: _, _, _, _, _, _, hp, _ => by simp [PartsVR] at hp
  | (_, _) :: _, [], _, _, _, _, _, hp, _ => by simp [PartsVR] at hp
  | (i, v) :: ps, (i', u) :: qs, j, o, rows, dead, hq, hp, hd => by
    simp only [PartsVR] at hp
    obtain ⟨rfl, hv, hp⟩ := hp
    simp only [litRows, Q.runs_bind, Q.runs_need] at hq
    obtain ⟨_, hij, _, hs, ⟨o1, ds, d1⟩, h1, ⟨o2, rs, d2⟩, h2, h3⟩ := hq
    simp only [Q.Runs, Prod.mk.injEq] at h3
    obtain ⟨rfl, rfl, rfl⟩ := h3
    obtain ⟨k1, k2, k3⟩ := distinct_append hd
    have hc := VR_cells hM hv hs
    obtain ⟨q1, q2⟩ := absorbsE_sound hM h1 hc k1
    obtain ⟨vss, e1, e2, e3⟩ := litRows_sound hM h2 hp k2
    refine ⟨u.cells.toList :: vss, ⟨Nat.eq_of_beq_eq_true hij, rfl, (RVs.len q1).1, e1⟩, ?_, q2.append e3⟩
    cases o1 <;> cases o2
    · exact ⟨_, _, q1, e2, (Lent_append false).1, (Lent_append false).2, by simp⟩
    · exact ⟨_, _, q1, RVr_mono (RVr_borrow e2) Lent_borrow, (Lent_append false).1, (Lent_append false).2, by simp⟩
    · exact ⟨_, _, q1.borrow.mono Lent_borrow, e2, (Lent_append false).1, (Lent_append false).2, by simp⟩
    · exact ⟨_, _, q1, e2, (Lent_append true).1, (Lent_append true).2, fun _ => FB_dis hM.dis k3⟩
theorem fill_dense {size : Nat} : ∀ {qs : List (Nat × Value)} {vss : List (List Value)} {j : Nat} {cells : Array Value}, Dense size j qs vss → cells.size = (j + qs.length) * size →
    ∃ cells' : Array Value, Instr.fill (fun i => some (i * size, size)) cells qs = some cells' ∧ cells'.toList = cells.toList.take (j * size) ++ vss.flatten
  | [], [], j, cells, _, hl => ⟨cells, rfl, by simp; rw [List.take_of_length_le (by simp at hl ⊢; omega)]⟩
  | [], _ :: _, _, _, hd, _ => by simp [Dense] at hd
  | (_, _) :: _, [], _, _, hd, _ => by simp [Dense] at hd
  | (i, v) :: qs, vs :: vss, j, cells, hd, hl => by
    obtain ⟨rfl, h1, h2, h3⟩ := hd
    have hsz : v.cells.size = size := by rw [← h2, ← h1]; simp
    have hb : i * size + v.cells.size ≤ cells.size := by
      rw [hl, hsz, ← Nat.succ_mul]
      exact Nat.mul_le_mul_right _ (by simp)
    have hp := place_run cells (i * size) v.cells hb
    obtain ⟨cells', g1, g2⟩ := fill_dense (cells := v.cells.zipIdx.foldl (fun cs (x : Value × Nat) => cs.setIfInBounds (i * size + x.2) x.1) cells) h3 (by
      have := congrArg List.length hp
      rw [splice_len _ _ _ (by simpa using hb)] at this
      simp only [Array.length_toList] at this
      rw [this, hl]; congr 1; simp; omega)
    refine ⟨cells', ?_, ?_⟩
    · simp only [Instr.fill]
      have : ¬ (v.cells.size ≠ size ∨ i * size + v.cells.size > cells.size) := by omega
      simp only [Bool.or_eq_true, decide_eq_true_eq, this, if_false]
      exact g1
    · rw [g2, hp, List.flatten_cons, ← List.append_assoc]
      congr 1
      unfold splice
      rw [h1, Nat.succ_mul, h2]
      have hl2 : (List.take (i * size) cells.toList).length = i * size := by simp; omega
      rw [List.take_append_of_le_length (by simp [hl2, h2]), List.take_of_length_le (by simp [hl2, h2])]
theorem buildSlice_sound (hP : ttOk P tt = true) (hM : Mem tt cl w0 B0 rt h fb U w) {t e : TypeId} (hd : (tt.at t).d = .sl e) (he : tt.has e = true) {n : Nat} {ps : List (Nat × AV)} {qs : Array (Nat × Value)}
    (hn : n * (tt.at e).ks.length ≤ 16777216) (hlen : ps.length = n) (hp : PartsVR tt cl w rt h U ps qs.toList) {o : Bool} {rows : List (List D)} {dead : List (Nat × Root)}
    (hq : (litRows tt (tt.at e).ks ps 0).Runs rt (o, rows, dead)) (hdd : keysDistinct dead = true) {r : Nat} (hr : rt r = none) :
    ∃ val w', (Instr.buildSlice t n qs).run P w = .ok val w' ∧ StepTo tt cl w0 B0 rt h fb U w (dead ++ [(r, .row o (tt.at e).ks rows 0)]) (.slw r [] 0) val w' := by
  have hu := und_sl hP hd
  obtain ⟨i, z, g1, g2, g3, g4, g5⟩ := info_of hP he
  obtain ⟨vss, hD, hR, hG⟩ := litRows_sound hM hq hp hdd
  have hql : qs.size = n := by
    have : ∀ {ps : List (Nat × AV)} {qs : List (Nat × Value)}, PartsVR tt cl w rt h U ps qs → qs.length = ps.length := by
      intro ps
      induction ps with
      | nil => intro qs hp; cases qs with
        | nil => rfl
        | cons q qs => simp [PartsVR] at hp
      | cons p ps ih => intro qs hp; cases qs with
        | nil => simp [PartsVR] at hp
        | cons q qs => obtain ⟨_, _⟩ := p; obtain ⟨_, _⟩ := q; simp only [PartsVR] at hp; simp [ih hp.2.2]
    have := this hp
    simpa [hlen] using this
  obtain ⟨l1, l2⟩ := RVr_len hR
  have hvl : vss.length = n := by
    have : ∀ {j : Nat} {qs : List (Nat × Value)} {vss : List (List Value)}, Dense (tt.at e).ks.length j qs vss → vss.length = qs.length := by
      intro j qs
      induction qs generalizing j with
      | nil => intro vss hp; cases vss with
        | nil => rfl
        | cons q qs => simp [Dense] at hp
      | cons p ps ih => intro vss hp; obtain ⟨_, _⟩ := p; cases vss with
        | nil => simp [Dense] at hp
        | cons q qs => simp only [Dense] at hp; simp [ih hp.2.2.2]
    rw [this hD]; simpa using hql
  have hrun : ∃ cells : Array Value, (Instr.buildSlice t n qs).run P w = .ok (.slice (some ⟨w.heap.size, 0, none⟩) n n) (pushed w (.cells cells e)) ∧ cells.toList = vss.flatten := by
    have hsm : ¬ n * i.size > 2 ^ 24 := by rw [g2]; omega
    obtain ⟨cells', f1, f2⟩ := fill_dense (cells := (Array.range (n * i.size)).map (z.cells[· % z.cells.size]!)) hD (by simp [g2, hql])
    refine ⟨cells', ?_, by simpa using f2⟩
    rw [← g2] at f1
    by_cases h0 : n * i.size = 0
    · simp only [Instr.buildSlice, Sem.run_bind, run_underlying hu, Result.andThen_ok, sizeOf, typeInfo, program, Sem.run, g1, Pure.pure, hsm, if_false, h0, if_true]
      have e0 : Array.range 0 = #[] := rfl
      rw [h0, e0] at f1
      simp only [Array.map_empty] at f1
      simp [e0, f1, newRow, newObj, Sem.run, Pure.pure, pushed]
    · have := run_buildSlice w t e n qs cells' i z hu g1 g4 hsm h0 f1
      simpa using this
  obtain ⟨cells, hrun, hcells⟩ := hrun
  refine ⟨_, _, hrun, ?_⟩
  have hrl : rows.length = n := by omega
  have hFlt : ∀ c, FB fb dead c → c < w.heap.size := by rintro c ⟨x, hx, q⟩; exact (hM.fbb _ c q).1
  have hLlt : ∀ c, Lent fb U o dead c → c < w.heap.size := by
    intro c hc
    cases o with
    | true => exact hFlt c hc
    | false => rcases hc with q | q; exact hM.Ub c q; exact hFlt c q
  have := kill_new hM hr hG (w' := pushed w (.cells cells e)) (own := o) (ks := (tt.at e).ks) (rows := rows) (hd := (some ⟨w.heap.size, 0, none⟩, n)) (F := fun c => FB fb dead c ∨ c = w.heap.size)
    (fun c hc _ => pushed_old w _ hc) (by rw [pushed_size]; omega) rfl rfl rfl (fun c hc => by
      rcases hc with q | q
      · exact .inl q
      · rw [pushed_size]; exact .inr (by omega)) ?_
  · simpa [hrl] using this
  · refine .w (B' := Lent fb U o dead) (by omega) (fun _ => ⟨cells, e, pushed_new w _, ?_⟩) (RVr_R (RVr_frame hR fun c hc => pushed_old w _ (hLlt c hc)) fun j hj => ?_) ?_ ?_ ?_
    · have : cells.size = n * (tt.at e).ks.length := by
        rw [← Array.length_toList, hcells, l2, hrl]
      show 0 + n * _ ≤ _
      omega
    · rw [cell_of_block (pushed_new w _), ← Array.getElem?_toList, hcells]; simp
    · cases o with
      | true => exact .inr rfl
      | false => exact .inr (.inr rfl)
    · intro c hc
      cases o with
      | true => exact .inl hc
      | false => rcases hc with q | q; exact .inl q; exact .inr (.inl q)
    · intro _ hc; have := hLlt _ hc; omega
end
end Go.Ev
end
section
/- The evaluator: append. -/
set_option linter.unusedSimpArgs false
namespace Go.Ev
section
variable {P : Program} {tt : Tt} {cl : Cl} {w0 : World} {B0 : Bs} {rt : Nat → Option Root} {h : Nat → Option Addr × Nat} {fb : Nat → Bs} {U : Bs} {w : World}

/-! ### what is borrowed -/
def Seen (fb : Nat → Bs) (U : Bs) (l : List Nat) : Bs := fun c => U c ∨ ∃ r ∈ l, fb r c
theorem side_seen {own : Bool} {r : Nat} : Sub (side fb U own r) (Seen fb U [r]) := by
  intro c hc
  cases own with
  | true => exact .inr ⟨r, by simp, hc⟩
  | false => exact .inl hc
theorem content0_sound (hM : Mem tt cl w0 B0 rt h fb U w) {k : Ck} {v : AV} {val : Value} {d : D} (hq : (content0 tt k v).Runs rt d) (hv : VR tt cl w rt h U v val) :
    Rd tt w false (.C k val d) (Seen fb U (men v)) := by
  unfold content0 at hq
  split at hq
  · simp only [Q.runs_bind, Q.runs_need, decide_eq_true_eq] at hq
    obtain ⟨_, rfl, hq⟩ := hq
    simp only [Q.Runs] at hq; subst hq
    cases VR_int.1 hv
    rename_i k n _
    exact Rd.int (x := D.int n)
  · simp only [Q.Runs] at hq; subst hq
    cases VR_bool.1 hv
    rename_i b
    exact Rd.bool (x := D.bool b)
  · simp only [Q.Runs] at hq; subst hq
    cases VR_str.1 hv
    rename_i s
    exact Rd.str (x := D.str s)
  · simp only [Q.Runs] at hq; subst hq
    simp only [VR] at hv
    obtain ⟨a, rfl⟩ := hv
    exact Rd.sl (x := D.rows []) .wnil
  · rename_i e r p ver
    simp only [Q.runs_bind, Q.runs_need] at hq
    obtain ⟨⟨own, ks, rows⟩, ha, _, hk, hq⟩ := hq
    simp only [Q.Runs] at hq; subst hq
    have hk := sames_eq hk
    simp only at hk
    obtain ⟨a, cap, rfl, hW⟩ := slw_rd hM hv ha
    rw [hk] at hW
    exact Rd.mono (Rd.sl (x := D.rows rows) hW.borrow) side_seen
  · rename_i e r p off len ver
    simp only [Q.runs_bind, Q.runs_need] at hq
    obtain ⟨⟨own, ks, rows⟩, ha, _, hk, hq⟩ := hq
    simp only [Q.Runs] at hq; subst hq
    have hk := sames_eq hk
    simp only at hk
    obtain ⟨a, cap, rfl, _, hl, hW⟩ := sl_rd hM hv ha
    rw [hk] at hW
    have := Rd.sl (x := D.rows ((rows.drop off).take len)) hW.borrow
    rw [show (D.rows ((rows.drop off).take len)).r.length = len from hl] at this
    exact this.mono side_seen
  · exact hq.elim

/-! ### cells in and out of blocks -/
def oneCell : Value → Prop
  | .agg _ => False
  | .tuple _ => False
  | _ => True
theorem C_one {own : Bool} {k : Ck} {v : Value} {d : D} {B : Bs} (hr : Rd tt w own (.C k v d) B) : oneCell v := by cases hr <;> trivial
theorem RVs_one {own : Bool} : ∀ {ks : List Ck} {vs : List Value} {ds : List D} {B : Bs}, RVs tt w own ks vs ds B → ∀ v ∈ vs, oneCell v
  | [], [], [], _, _ => by simp
  | k :: ks, v :: vs, d :: ds, B, hr => by
    obtain ⟨B1, B2, h1, h2, _⟩ := hr
    intro u hu
    rcases List.mem_cons.1 hu with rfl | hu
    · exact C_one h1
    · exact RVs_one h2 u hu
  | [], [], _ :: _, _, hr => by simp [RVs] at hr
  | [], _ :: _, _, _, hr => by simp [RVs] at hr
  | _ :: _, [], _, _, hr => by simp [RVs] at hr
  | _ :: _, _ :: _, [], _, hr => by simp [RVs] at hr
theorem RVr_one {own : Bool} {ks : List Ck} : ∀ {vss : List (List Value)} {rows : List (List D)} {B : Bs}, RVr tt w own ks vss rows B → ∀ v ∈ vss.flatten, oneCell v
  | [], [], _, _ => by simp
  | vs :: l, ds :: m, B, hr => by
    obtain ⟨B1, B2, h1, h2, _⟩ := hr
    intro u hu
    simp only [List.flatten_cons, List.mem_append] at hu
    rcases hu with hu | hu
    · exact RVs_one h1 u hu
    · exact RVr_one h2 u hu
  | [], _ :: _, _, hr => by simp [RVr] at hr
  | _ :: _, [], _, hr => by simp [RVr] at hr
theorem S_RVs {own : Bool} : ∀ {ks : List Ck} {ds : List D} {B : Bs} {b o : Nat}, Rd tt w own (.S ks b o ds) B → ∃ vs, RVs tt w own ks vs ds B ∧ ∀ j, j < vs.length → w.cell? ⟨b, o + j, none⟩ = vs[j]?
  | [], [], B, b, o, _ => ⟨[], by simp [RVs], by simp⟩
  | k :: ks, d :: ds, B, b, o, hr => by
    cases hr with
    | scons hv h1 h2 s1 s2 hd =>
      obtain ⟨vs, g1, g2⟩ := S_RVs h2
      refine ⟨_ :: vs, ⟨_, _, h1, g1, s1, s2, hd⟩, fun j hj => ?_⟩
      cases j with
      | zero => simpa using hv
      | succ j =>
        have := g2 j (by simpa using hj)
        rw [show o + (j + 1) = o + 1 + j by omega]; simpa using this
  | [], _ :: _, _, _, _, hr => by cases hr
  | _ :: _, [], _, _, _, hr => by cases hr
theorem R_RVr {own : Bool} {ks : List Ck} : ∀ {rows : List (List D)} {B : Bs} {b o : Nat}, Rd tt w own (.R ks b o rows) B → ∃ vss, RVr tt w own ks vss rows B ∧ ∀ j, j < vss.flatten.length → w.cell? ⟨b, o + j, none⟩ = vss.flatten[j]?
  | [], B, b, o, _ => ⟨[], by simp [RVr], by simp⟩
  | row :: rows, B, b, o, hr => by
    cases hr with
    | rcons h1 h2 s1 s2 hd =>
      obtain ⟨vs, g1, g2⟩ := S_RVs h1
      obtain ⟨vss, g3, g4⟩ := R_RVr h2
      have hl := (RVs.len g1).1
      refine ⟨vs :: vss, ⟨_, _, g1, g3, s1, s2, hd⟩, fun j hj => ?_⟩
      rw [List.flatten_cons]
      by_cases hj2 : j < vs.length
      · rw [List.getElem?_append_left hj2]; exact g2 j hj2
      · rw [List.getElem?_append_right (by omega)]
        have := g4 (j - vs.length) (by simp only [List.flatten_cons, List.length_append] at hj; omega)
        rw [← this]; congr 2; omega
theorem RVr_append {own : Bool} {ks : List Ck} : ∀ {v1 v2 : List (List Value)} {r1 r2 : List (List D)} {A B C : Bs}, RVr tt w own ks v1 r1 A → RVr tt w own ks v2 r2 B → Sub A C → Sub B C → (own = true → Dis A B) →
    RVr tt w own ks (v1 ++ v2) (r1 ++ r2) C
  | [], v2, [], r2, A, B, C, _, h2, _, sb, _ => RVr_mono h2 sb
  | v :: v1, v2, r :: r1, r2, A, B, C, h1, h2, sa, sb, hd => by
    obtain ⟨A1, A2, g1, g2, s1, s2, hd2⟩ := h1
    refine ⟨A1, Un A2 B, g1, RVr_append g2 h2 (fun _ h => .inl h) (fun _ h => .inr h) (fun e c a b => hd e c (s2 c a) b), fun c hc => sa c (s1 c hc), ?_, ?_⟩
    · rintro c (hc | hc); exact sa c (s2 c hc); exact sb c hc
    · rintro e c hc (hc' | hc'); exact hd2 e c hc hc'; exact hd e c (s1 c hc) hc'
  | [], _, _ :: _, _, _, _, _, h1, _, _, _, _ => by simp [RVr] at h1
  | _ :: _, _, [], _, _, _, _, h1, _, _, _, _ => by simp [RVr] at h1
theorem flat_C {w' : World} {own own' : Bool} {k : Ck} {v : Value} {d : D} {B B' : Bs} (hf : flat [k] = true) (hr : Rd tt w own (.C k v d) B) : Rd tt w' own' (.C k v d) B' := by
  cases hr with
  | int => exact .int
  | bool => exact .bool
  | str => exact .str
  | sl h => simp [flat] at hf
theorem flat_cons {k : Ck} {ks : List Ck} (hp : flat (k :: ks) = true) : flat [k] = true ∧ flat ks = true := by
  cases k <;> simp_all [flat]
theorem flat_RVs {w' : World} {own own' : Bool} : ∀ {ks : List Ck} {vs : List Value} {ds : List D} {B B' : Bs}, flat ks = true → RVs tt w own ks vs ds B → RVs tt w' own' ks vs ds B'
  | [], [], [], _, _, _, _ => by simp [RVs]
  | k :: ks, v :: vs, d :: ds, B, B', hf, hr => by
    obtain ⟨B1, B2, h1, h2, s1, s2, hd⟩ := hr
    obtain ⟨f1, f2⟩ := flat_cons hf
    exact ⟨fun _ => False, fun _ => False, flat_C f1 h1, flat_RVs f2 h2, fun _ h => h.elim, fun _ h => h.elim, fun _ _ h => h.elim⟩
  | [], [], _ :: _, _, _, _, hr => by simp [RVs] at hr
  | [], _ :: _, _, _, _, _, hr => by simp [RVs] at hr
  | _ :: _, [], _, _, _, _, hr => by simp [RVs] at hr
  | _ :: _, _ :: _, [], _, _, _, hr => by simp [RVs] at hr
theorem flat_RVr {w' : World} {own own' : Bool} {ks : List Ck} (hf : flat ks = true) : ∀ {vss : List (List Value)} {rows : List (List D)} {B B' : Bs}, RVr tt w own ks vss rows B → RVr tt w' own' ks vss rows B'
  | [], [], _, _, _ => by simp [RVr]
  | vs :: l, ds :: m, B, B', hr => by
    obtain ⟨B1, B2, h1, h2, _⟩ := hr
    exact ⟨fun _ => False, fun _ => False, flat_RVs hf h1, flat_RVr hf h2, fun _ h => h.elim, fun _ h => h.elim, fun _ _ h => h.elim⟩
  | [], _ :: _, _, _, hr => by simp [RVr] at hr
  | _ :: _, [], _, _, hr => by simp [RVr] at hr

/-! ### stores into a block -/
/-- block b's cells have turned from p on, by vs -/
structure Wrote (w w' : World) (b p : Nat) (vs : List Value) : Prop where
  size : w'.heap.size = w.heap.size
  other : ∀ c, c ≠ b → w'.heap[c]? = w.heap[c]?
  os : w'.os = w.os
  tape : w'.tape = w.tape
  out : w'.output = w.output
  block : ∀ c t, w.heap[b]? = some (.cells c t (0, 0)) → p + vs.length ≤ c.size → ∃ c' : Array Value, w'.heap[b]? = some (.cells c' t (0, 0)) ∧ c'.size = c.size ∧ c'.toList = splice c.toList p vs
theorem setCell_wrote {b p : Nat} {v : Value} : Wrote w (w.setCell ⟨b, p, none⟩ v) b p [v] := by
  unfold World.setCell
  refine ⟨by simp, fun c hc => ?_, rfl, rfl, rfl, fun c t hb hl => ?_⟩
  · simp only [Array.getElem?_modify, if_neg (fun e : b = c => hc e.symm)]
  · refine ⟨c.setIfInBounds p v, ?_, by simp, ?_⟩
    · simp only [Array.getElem?_modify, if_true, hb, Option.map_some]
      simp
    · rw [splice_one _ _ (by simp at hl ⊢; omega), upd_eq]; simp
theorem Wrote.nil {b p : Nat} : Wrote w w b p [] := ⟨rfl, fun _ _ => rfl, rfl, rfl, rfl, fun c t hb _ => ⟨c, hb, rfl, by simp [splice]⟩⟩
theorem splice_splice {α : Type} (l : List α) (p : Nat) (v : α) (vs : List α) (h : p + (vs.length + 1) ≤ l.length) : splice (splice l p [v]) (p + 1) vs = splice l p (v :: vs) := by
  rw [splice_one _ _ (by omega)]; exact splice_cons _ _ _ _ h
theorem storeCells_run {b : Nat} {t : TypeId} : ∀ {vs : List Value} {p i : Nat} {w : World} {c : Array Value}, w.heap[b]? = some (.cells c t (0, 0)) → p + i + vs.length ≤ c.size → (∀ v ∈ vs, oneCell v) →
    ∃ w', (storeCells ⟨b, p, none⟩ vs i).run P w = .ok () w' ∧ Wrote w w' b (p + i) vs
  | [], p, i, w, c, _, _, _ => ⟨w, by simp [storeCells, Pure.pure, Sem.run], .nil⟩
  | v :: vs, p, i, w, c, hb, hl, h1 => by
    have hlt : p + i < c.size := by simp at hl; omega
    have hcell : w.cell? ⟨b, p + i, none⟩ = some c[p + i] := by rw [cell_of_block hb]; simp [hlt]
    have hfr : w.frozen? ⟨b, p + i, none⟩ = false := by simp [World.frozen?, hb]
    have hw := setCell_wrote (w := w) (b := b) (p := p + i) (v := v)
    obtain ⟨c', g1, g2, g3⟩ := hw.block c t hb (by simp; omega)
    obtain ⟨w', k1, k2⟩ := storeCells_run (vs := vs) (p := p) (i := i + 1) g1 (by rw [g2]; simp at hl; omega) (fun u hu => h1 u (List.mem_cons_of_mem _ hu))
    have hst : (store ((⟨b, p, none⟩ : Addr).add i) v).run P w = .ok () (w.setCell ⟨b, p + i, none⟩ v) := by
      have ho := h1 v (by simp)
      rw [add_at]
      cases v <;> simp only [oneCell] at ho <;> simp [store, Sem.run, hcell, hfr]
    refine ⟨w', ?_, ⟨k2.size.trans hw.size, fun c hc => (k2.other c hc).trans (hw.other c hc), k2.os.trans hw.os, k2.tape.trans hw.tape, k2.out.trans hw.out, fun c2 t2 hb2 hl2 => ?_⟩⟩
    · rw [storeCells]
      simp only [Sem.run_bind, hst, Result.andThen_ok]
      exact k1
    · rw [hb] at hb2; cases hb2
      obtain ⟨c3, q1, q2, q3⟩ := k2.block c' t g1 (by rw [g2]; simp at hl2; omega)
      refine ⟨c3, q1, q2.trans g2, ?_⟩
      rw [q3, g3, show p + (i + 1) = p + i + 1 by omega]
      exact splice_splice _ _ _ _ (by simp at hl2 ⊢; omega)
theorem nextcap_le {need cap : Nat} (h1 : need ≤ 4294967296) (h2 : cap < need) : Builtin.nextslicecap need cap ≤ 8589934592 := by
  have grow : ∀ (n c : Nat), c ≤ 8589934592 → Builtin.growBy need n c ≤ 8589934592 := by
    intro n
    induction n with
    | zero => intro c hc; simpa [Builtin.growBy] using hc
    | succ n ih =>
      intro c hc
      simp only [Builtin.growBy]
      split
      · exact hc
      · exact ih _ (by omega)
  unfold Builtin.nextslicecap
  split
  · omega
  · split
    · omega
    · exact grow 4 cap (by omega)

/-- where appended elements come from -/
def Src (P : Program) (tt : Tt) (w : World) (ks : List Ck) (F : Bs) (vx : Value) (rows : List (List D)) : Prop :=
  ∃ a cap vss, vx = .slice a rows.length cap ∧ vss.flatten.length = rows.length * ks.length ∧ (∀ v ∈ vss.flatten, oneCell v) ∧
    (∀ w1 : World, w1.heap = w.heap → (Builtin.firstCells ks.length rows.length vx).run P w1 = .ok vss.flatten.toArray w1) ∧ ∀ w' : World, (∀ c, F c → w'.heap[c]? = w.heap[c]?) → RVr tt w' true ks vss rows F
theorem first_run {own : Bool} {ks : List Ck} {a : Option Addr} {cap : Nat} {rows : List (List D)} {B : Bs} (hW : Rd tt w own (.W ks a cap rows) B) :
    ∃ vss, RVr tt w own ks vss rows B ∧ vss.flatten.length = rows.length * ks.length ∧ (∀ w1 : World, w1.heap = w.heap → (Builtin.firstCells ks.length rows.length (.slice a rows.length cap)).run P w1 = .ok vss.flatten.toArray w1) ∧
      (∀ b o, a = some ⟨b, o, none⟩ → rows ≠ [] → B b ∧ ∃ B', Sub B' B ∧ RVr tt w own ks vss rows B' ∧ (own = true → ¬ B' b)) := by
  cases hW with
  | wnil =>
    refine ⟨[], by simp [RVr], by simp, fun w1 _ => ?_, fun _ _ _ h => absurd rfl h⟩
    cases a <;> simp [Builtin.firstCells, loadCells, loadCellsFrom, Pure.pure, Sem.run]
  | w hc hr h1 hb hs hn =>
    obtain ⟨vss, g1, g2⟩ := R_RVr h1
    obtain ⟨l1, l2⟩ := RVr_len g1
    refine ⟨vss, RVr_mono g1 hs, l2, fun w1 hw1 => ?_, fun b' o' e _ => ?_⟩
    · simp only [Builtin.firstCells, loadCells]
      rw [loadCellsFrom_run (rows.length * ks.length) 0 #[] vss.flatten l2 fun j hj => by
        have := g2 j (by omega)
        rw [add_at, Nat.zero_add, ← this]
        unfold World.cell?; rw [hw1]]
      simp
    · cases e; exact ⟨hb, _, hs, g1, hn⟩
theorem src_flat {e : TypeId} {vx : Value} {rows : List (List D)} {B F : Bs} (hf : flat (tt.at e).ks = true) (hr : Rd tt w false (.C (.sl e) vx (D.rows rows)) B) : Src P tt w (tt.at e).ks F vx rows := by
  cases hr with
  | @sl _ a cap _ _ hW =>
    obtain ⟨vss, g1, g2, g3, _⟩ := first_run (P := P) (rows := rows) hW
    exact ⟨a, cap, vss, rfl, g2, RVr_one g1, g3, fun w' _ => flat_RVr hf g1⟩
theorem src_own {e : TypeId} {vx : Value} {rows : List (List D)} {F : Bs} (hr : Rd tt w true (.C (.sl e) vx (D.rows rows)) F) : Src P tt w (tt.at e).ks F vx rows := by
  cases hr with
  | @sl _ a cap _ _ hW =>
    obtain ⟨vss, g1, g2, g3, _⟩ := first_run (P := P) (rows := rows) hW
    exact ⟨a, cap, vss, rfl, g2, RVr_one g1, g3, fun w' hs => RVr_frame g1 hs⟩
theorem append_in {t e ty : TypeId} (hu : P.underlying t = some (.slice e)) {n1 n2 cap0 sz : Nat} {a0 : Option Addr} {vx : Value} (hsz : (sizeOf e).run P w = .ok sz w) {new : Array Value}
    (hlx : Builtin.lenOf vx = pure n2) (hx : (Builtin.firstCells sz n2 vx).run P w = .ok new w) (hle : n1 + n2 ≤ cap0) {w' : World}
    (hst : (match a0 with | some a => storeCells (a.add (n1 * sz)) new.toList | none => pure () : Sem Unit).run P w = .ok () w') :
    (Builtin.append_ #[t, t] ty #[.slice a0 n1 cap0, vx]).run P w = .ok (.slice a0 (n1 + n2) cap0) w' := by
  simp only [Builtin.append_, List.getElem?_toArray, List.getElem?_cons_zero, List.getElem?_cons_succ, Sem.run_bind, run_underlying hu, Result.andThen_ok, hsz, Pure.pure, Sem.run, hlx, Bool.false_eq_true, if_false, Bool.not_false, if_true]
  rw [if_pos hle]
  simp only [Sem.run_bind, hx, Result.andThen_ok]
  cases a0 with
  | none => simp only [Pure.pure, Sem.run, Result.ok.injEq, true_and] at hst; subst hst; simp [Pure.pure, Sem.run]
  | some a => simp only at hst; simp [Sem.run_bind, hst, Pure.pure, Sem.run]
theorem append_out {t e ty : TypeId} (hu : P.underlying t = some (.slice e)) {n1 n2 cap0 : Nat} {a0 : Option Addr} {vx : Value} {i : TypeInfo} {z : Value} (hi : P.info? e = some i) (hz : i.zero = some z) {old new : Array Value}
    (hlx : Builtin.lenOf vx = pure n2) (ho : ∀ w1 : World, w1.heap = w.heap → (Builtin.firstCells i.size n1 (.slice a0 n1 cap0)).run P w1 = .ok old w1)
    (hx : ∀ w1 : World, w1.heap = w.heap → (Builtin.firstCells i.size n2 vx).run P w1 = .ok new w1) (hgt : ¬ n1 + n2 ≤ cap0) (hl : n1 + n2 ≤ 4294967296) (hb : i.bytes ≤ 4096) :
    ∃ (m : Nat) (w1 : World), n1 + n2 ≤ m ∧ w1.heap = w.heap ∧ w1.os = w.os ∧ w1.tape = w.tape ∧ w1.output = w.output ∧
    (Builtin.append_ #[t, t] ty #[.slice a0 n1 cap0, vx]).run P w = .ok (.slice (some ⟨w.heap.size, 0, none⟩) (n1 + n2) m) (pushed w1 (.cells (old ++ new ++ Builtin.zeroCells z.cells (m - (n1 + n2))) e)) := by
  have hsz : (sizeOf e).run P w = .ok i.size w := by simp [sizeOf, typeInfo, program, hi, Pure.pure, Sem.run]
  have hmax : ¬ (((n1 + n2 : Nat) : Int) > IntKind.i64.max) := by
    simp only [IntKind.max, IntKind.signed, IntKind.bits]; simp; omega
  have hcap : ¬ Builtin.nextslicecap (n1 + n2) cap0 * i.bytes > 2 ^ 48 := by
    have := nextcap_le hl (by omega : cap0 < n1 + n2)
    have := Nat.mul_le_mul this hb
    omega
  refine ⟨(Question.appendCap (n1 + n2) cap0 e).cut (w.tape w.drawn (.appendCap (n1 + n2) cap0 e)), { w with drawn := w.drawn + 1 }, by simp [Question.cut], rfl, rfl, rfl, rfl, ?_⟩
  have ho1 := ho { w with drawn := w.drawn + 1 } rfl
  have hx1 := hx { w with drawn := w.drawn + 1 } rfl
  generalize hm : (Question.appendCap (n1 + n2) cap0 e).cut (w.tape w.drawn (.appendCap (n1 + n2) cap0 e)) = m
  have hch : (choose (.appendCap (n1 + n2) cap0 e)).run P w = .ok m { w with drawn := w.drawn + 1 } := by
    simp [choose, Sem.run, Question.forced, hm]
  have hask : ∀ (k : Nat) (w1 : World), (askRoom k).run P w1 = .ok () w1 := by
    intro k w1; unfold askRoom; split <;> simp [mark, Sem.run, Pure.pure]
  simp only [Builtin.append_, List.getElem?_toArray, List.getElem?_cons_zero, List.getElem?_cons_succ, Sem.run_bind, run_underlying hu, Result.andThen_ok, hsz, Pure.pure, Sem.run, hlx, Bool.false_eq_true, if_false, Bool.not_false, if_true]
  rw [if_neg hgt]
  have hti : ∀ w1 : World, (typeInfo e).run P w1 = .ok i w1 := fun w1 => by simp [typeInfo, program, hi, Pure.pure, Sem.run]
  have hzv : ∀ w1 : World, (zeroValue e).run P w1 = .ok z w1 := fun w1 => by simp [zeroValue, hti, hz, Pure.pure, Sem.run]
  have hrow : ∀ (cells : Array Value) (w1 : World), (newRow e cells).run P w1 = .ok ⟨w1.heap.size, 0, none⟩ (pushed w1 (.cells cells e)) := fun cells w1 => by
    simp [newRow, newObj, Sem.run, Pure.pure, pushed]
  simp only [Sem.run_bind, Sem.run_ite, hti, Result.andThen_ok, Pure.pure, hmax, false_and, if_false, hcap, hch, hask, ho1, hx1, hzv, hrow, Sem.run]
theorem append_sound (hP : ttOk P tt = true) (hM : Mem tt cl w0 B0 rt h fb U w) {t e ty : TypeId} (hd : (tt.at t).d = .sl e) (he : tt.has e = true) (hb : (tt.at e).bytes ≤ 4096)
    {vs vx : Value} {rows1 rows2 : List (List D)} {d1 d2 : List (Nat × Root)} (hs : Rd tt w true (.C (.sl e) vs (D.rows rows1)) (FB fb d1)) (hg1 : Given rt d1) (hg2 : Given rt d2)
    (hx : Src P tt w (tt.at e).ks (FB fb d2) vx rows2) (hdis : Dis (FB fb d1) (FB fb d2)) (hl : rows1.length + rows2.length ≤ 4294967296) {r : Nat} (hr : rt r = none) :
    ∃ val w', (Builtin.append_ #[t, t] ty #[vs, vx]).run P w = .ok val w' ∧ StepTo tt cl w0 B0 rt h fb U w (d1 ++ d2 ++ [(r, .row true (tt.at e).ks (rows1 ++ rows2) 0)]) (.slw r [] 0) val w' := by
  have hu := und_sl hP hd
  obtain ⟨i, z, g1, g2, g3, g4, g5⟩ := info_of hP he
  obtain ⟨ax, cx, vss2, rfl, xl, xone, xrun, xr⟩ := hx
  have hFlt : ∀ c, FB fb (d1 ++ d2) c → c < w.heap.size := by rintro c ⟨x, hx, q⟩; exact (hM.fbb _ c q).1
  have hG : Given rt (d1 ++ d2) := hg1.append hg2
  have hsz := size_run hP he w
  cases hs with
  | @sl _ a0 cap0 _ _ hW =>
    change Rd tt w true (.W (tt.at e).ks a0 cap0 rows1) (FB fb d1) at hW
    show ∃ val w', (Builtin.append_ #[t, t] ty #[.slice a0 rows1.length cap0, .slice ax rows2.length cx]).run P w = .ok val w' ∧ _
    by_cases hle : rows1.length + rows2.length ≤ cap0
    · -- in place
      cases hW with
      | wnil =>
        have h2 : rows2 = [] := by cases rows2 with | nil => rfl | cons _ _ => simp at hle
        subst h2
        have hnew : vss2.flatten = [] := List.eq_nil_of_length_eq_zero (by simpa using xl)
        refine ⟨_, w, append_in hu hsz rfl (xrun w rfl) hle (w' := w) ?_, ?_⟩
        · cases a0 with
          | none => rfl
          | some a => simp [hnew, storeCells, Pure.pure, Sem.run]
        · have := kill_new hM hr hG (w' := w) (own := true) (ks := (tt.at e).ks) (rows := []) (hd := (a0, 0)) (F := fun _ => False) (fun _ _ _ => rfl) (Nat.le_refl _) rfl rfl rfl (fun c hc => hc.elim) .wnil
          simpa using this
      | @w _ b o _ _ _ B' hc hroom h1 hbB hs1 hn1 =>
        obtain ⟨c, tb, hblk, hroom⟩ := hroom rfl
        have hbound : o + rows1.length * (tt.at e).ks.length + vss2.flatten.length ≤ c.size := by
          rw [xl, Nat.add_assoc, ← Nat.add_mul]
          exact Nat.le_trans (Nat.add_le_add_left (Nat.mul_le_mul_right _ hle) _) hroom
        obtain ⟨w', k1, k2⟩ := storeCells_run (P := P) (vs := vss2.flatten) (p := o + rows1.length * (tt.at e).ks.length) (i := 0) hblk (by simpa using hbound) xone
        rw [Nat.add_zero] at k2
        refine ⟨_, w', append_in hu hsz rfl (xrun w rfl) hle (w' := w') (by simpa [add_at] using k1), ?_⟩
        obtain ⟨c', q1, q2, q3⟩ := k2.block c tb hblk hbound
        have hnb : ∀ c, FB fb d2 c → c ≠ b := fun c hc e => hdis c (by rw [e]; exact hbB) hc
        have := kill_new hM hr hG (w' := w') (own := true) (ks := (tt.at e).ks) (rows := rows1 ++ rows2) (hd := (some ⟨b, o, none⟩, cap0)) (F := FB fb (d1 ++ d2))
          (fun c _ hn => k2.other c fun e => hn (by rw [e]; exact FB_append.2 (.inl hbB))) (by rw [k2.size]; exact Nat.le_refl _) k2.os k2.tape k2.out (fun c hc => .inl hc) ?_
        · simpa using this
        · have r1 : Rd tt w' true (.R (tt.at e).ks b o rows1) B' := by
            refine R_frame h1 (fun p hp1 hp2 => ?_) (fun c hc => k2.other c fun e => hn1 rfl (by rw [← e]; exact hc))
            rw [cell_of_block q1, cell_of_block hblk, ← Array.getElem?_toList, ← Array.getElem?_toList, q3]
            unfold splice
            rw [List.append_assoc, List.getElem?_append_left (by simp; omega), List.getElem?_take, if_pos (by omega)]
          have r2 : Rd tt w' true (.R (tt.at e).ks b (o + rows1.length * (tt.at e).ks.length) rows2) (FB fb d2) := by
            refine RVr_R (xr w' fun c hc => k2.other c (hnb c hc)) fun j hj => ?_
            rw [cell_of_block q1, ← Array.getElem?_toList, q3]
            unfold splice
            have hl1 : (List.take (o + rows1.length * (tt.at e).ks.length) c.toList).length = o + rows1.length * (tt.at e).ks.length := by simp; omega
            rw [List.append_assoc, List.getElem?_append_right (by omega), hl1, List.getElem?_append_left (by omega)]
            congr 1; omega
          refine .w (by simpa using hle) (fun _ => ⟨c', tb, q1, by rw [q2]; exact hroom⟩) (R_join r1 r2 fun _ c hc hc' => hdis c (hs1 c hc) hc') (FB_append.2 (.inl hbB)) ?_ ?_
          · rintro c (hc | hc)
            · exact FB_append.2 (.inl (hs1 c hc))
            · exact FB_append.2 (.inr hc)
          · rintro - (hc | hc)
            · exact hn1 rfl hc
            · exact hnb b hc rfl
    · -- a new array
      obtain ⟨vss1, v1, v2, v3, _⟩ := first_run (P := P) hW
      rw [← g2] at v3 xrun
      obtain ⟨m, w1, m1, m2, m3, m4, m5, hrun⟩ := append_out (P := P) (w := w) (t := t) (ty := ty) hu (n1 := rows1.length) (n2 := rows2.length) (cap0 := cap0) (a0 := a0) (vx := .slice ax rows2.length cx) g1 g4 rfl
        v3 xrun hle hl (by omega)
      refine ⟨_, _, hrun, ?_⟩
      have hz : z.cells.size = (tt.at e).ks.length := by simpa using zeroOk_len g5
      have hold : ∀ c, c < w.heap.size → (pushed w1 (.cells (vss1.flatten.toArray ++ vss2.flatten.toArray ++ Builtin.zeroCells z.cells (m - (rows1.length + rows2.length))) e)).heap[c]? = w.heap[c]? := fun c hc => by
        rw [pushed_old w1 _ (by rw [m2]; exact hc), m2]
      have hnew := pushed_new w1 (.cells (vss1.flatten.toArray ++ vss2.flatten.toArray ++ Builtin.zeroCells z.cells (m - (rows1.length + rows2.length))) e)
      rw [m2] at hnew
      have hRV := RVr_append v1 (xr w fun _ _ => rfl) (C := FB fb (d1 ++ d2)) (fun c hc => FB_append.2 (.inl hc)) (fun c hc => FB_append.2 (.inr hc)) fun _ => hdis
      have := kill_new hM hr hG (w' := pushed w1 (.cells (vss1.flatten.toArray ++ vss2.flatten.toArray ++ Builtin.zeroCells z.cells (m - (rows1.length + rows2.length))) e)) (own := true) (ks := (tt.at e).ks) (rows := rows1 ++ rows2)
        (hd := (some ⟨w.heap.size, 0, none⟩, m)) (F := fun c => FB fb (d1 ++ d2) c ∨ c = w.heap.size)
        (fun c hc _ => hold c hc) (by rw [pushed_size, m2]; omega) m3 m4 m5 (fun c hc => by
          rcases hc with q | q
          · exact .inl q
          · rw [pushed_size, m2]; exact .inr (by omega)) ?_
      · simpa using this
      · refine .w (B' := FB fb (d1 ++ d2)) (by simpa using m1) (fun _ => ⟨_, e, hnew, ?_⟩) (RVr_R (RVr_frame hRV fun c hc => hold c (hFlt c hc)) fun j hj => ?_) (.inr rfl) (fun c hc => .inl hc) (fun _ hc => by have := hFlt _ hc; omega)
        · have hzl : (Builtin.zeroCells z.cells (m - (rows1.length + rows2.length))).size = (m - (rows1.length + rows2.length)) * (tt.at e).ks.length := by simp [Builtin.zeroCells, hz]
          simp only [Array.size_append, List.size_toArray, v2, xl, hzl, ← Nat.add_mul]
          rw [show rows1.length + rows2.length + (m - (rows1.length + rows2.length)) = m by omega]
          omega
        · rw [cell_of_block hnew]
          rw [List.flatten_append] at hj ⊢
          rw [← Array.getElem?_toList]
          simp only [Array.toList_append]
          rw [List.getElem?_append_left (by simpa using hj)]
          simp
theorem prim_int (hP : ttOk P tt = true) {u : TypeId} (hd : (tt.at u).d = .prim) (hk : (tt.at u).ks = [.int .i64]) : P.underlying u = some (.int .i64) := by
  have hdesc := (type_facts hP (t := u) (by simp [Tt.has, hd])).desc
  unfold descOk at hdesc
  rw [hd, hk] at hdesc
  split at hdesc <;> simp_all
theorem appendz_sound (hP : ttOk P tt = true) (hM : Mem tt cl w0 B0 rt h fb U w) {t u e ty : TypeId} (hd : (tt.at t).d = .sl e) (he : tt.has e = true) (hb : (tt.at e).bytes ≤ 4096) (hp : plain (tt.at e).ks = true)
    (h1k : 1 ≤ (tt.at e).ks.length) (hdu : (tt.at u).d = .prim) (hku : (tt.at u).ks = [.int .i64]) {a0 : Option Addr} {n : Int} (h0 : 0 ≤ n) (h1 : n ≤ 4294967296) {r : Nat} (hr : rt r = none) :
    ∃ val w', (Builtin.append_ #[t, u] ty #[.slice a0 0 0, .int .i64 n]).run P w = .ok val w' ∧
      StepTo tt cl w0 B0 rt h fb U w [(r, .row true (tt.at e).ks (List.replicate n.toNat ((tt.at e).ks.map zeroD)) 0)] (.slw r [] 0) val w' := by
  have hu := und_sl hP hd
  have huu := prim_int hP hdu hku
  obtain ⟨i, z, g1, g2, g3, g4, g5⟩ := info_of hP he
  have hzl : z.cells.size = (tt.at e).ks.length := by simpa using zeroOk_len g5
  have wn := wrap_small h0 h1
  have hsz : ∀ w1 : World, (sizeOf e).run P w1 = .ok i.size w1 := fun w1 => by simp [sizeOf, typeInfo, program, g1, Pure.pure, Sem.run]
  have hti : ∀ w1 : World, (typeInfo e).run P w1 = .ok i w1 := fun w1 => by simp [typeInfo, program, g1, Pure.pure, Sem.run]
  have hzv : ∀ w1 : World, (zeroValue e).run P w1 = .ok z w1 := fun w1 => by simp [zeroValue, hti, g4, Pure.pure, Sem.run]
  have hrow : ∀ (cells : Array Value) (w1 : World), (newRow e cells).run P w1 = .ok ⟨w1.heap.size, 0, none⟩ (pushed w1 (.cells cells e)) := fun cells w1 => by
    simp [newRow, newObj, Sem.run, Pure.pure, pushed]
  have hask : ∀ (k : Nat) (w1 : World), (askRoom k).run P w1 = .ok () w1 := by
    intro k w1; unfold askRoom; split <;> simp [mark, Sem.run, Pure.pure]
  have c1 : ¬ n < 0 := by omega
  have c2 : ¬ n * (i.bytes : Int) > 2 ^ 48 := by
    have hbb : (i.bytes : Int) ≤ 4096 := by omega
    have : n * (i.bytes : Int) ≤ 4294967296 * 4096 := Int.mul_le_mul h1 hbb (by omega) (by omega)
    omega
  by_cases hn : n.toNat = 0
  · refine ⟨.slice a0 0 0, w, ?_, ?_⟩
    · simp only [Builtin.append_, List.getElem?_toArray, List.getElem?_cons_zero, List.getElem?_cons_succ, Sem.run_bind, run_underlying hu, run_underlying huu, Result.andThen_ok, hsz, hti, Pure.pure, Sem.run, asInt, asIntOf, wn, c1, c2, if_false, if_true]
      cases a0 <;> simp [hn, storeCells, Pure.pure, Sem.run]
    · have := kill_new hM hr (dead := []) (by intro x hx; simp at hx) (w' := w) (own := true) (ks := (tt.at e).ks) (rows := []) (hd := (a0, 0)) (F := fun _ => False) (fun _ _ _ => rfl) (Nat.le_refl _) rfl rfl rfl (fun c hc => hc.elim) .wnil
      rw [hn]; simpa using this
  · have hcap : ¬ Builtin.nextslicecap n.toNat 0 * i.bytes > 2 ^ 48 := by
      have := nextcap_le (need := n.toNat) (cap := 0) (by omega) (by omega)
      have := Nat.mul_le_mul this (show i.bytes ≤ 4096 by omega)
      omega
    have hmax : ¬ ((n.toNat : Int) > IntKind.i64.max) := by
      simp only [IntKind.max, IntKind.signed, IntKind.bits]; simp; omega
    have hbz : ¬ (0 + n.toNat ≤ 0) := by omega
    have hsize : i.size ≠ 0 := by omega
    have hns : ¬ (n.toNat * i.size = 0) := by
      intro hh; rcases Nat.mul_eq_zero.1 hh with q | q
      · exact hn q
      · exact hsize q
    obtain ⟨m, hm, hch⟩ : ∃ m, n.toNat ≤ m ∧ (choose (.appendCap n.toNat 0 e)).run P w = .ok m { w with drawn := w.drawn + 1 } := by
      refine ⟨(Question.appendCap n.toNat 0 e).cut (w.tape w.drawn (.appendCap n.toNat 0 e)), by simp [Question.cut], ?_⟩
      simp [choose, Sem.run, Question.forced]
    have hold0 : ∀ w1 : World, (Builtin.firstCells i.size 0 (.slice a0 0 0)).run P w1 = .ok #[] w1 := by
      intro w1; cases a0 <;> simp [Builtin.firstCells, loadCells, loadCellsFrom, Pure.pure, Sem.run]
    have hby : ¬ (i.bytes = 0 ∧ False) := by simp
    have hrun : (Builtin.append_ #[t, u] ty #[.slice a0 0 0, .int .i64 n]).run P w = .ok (.slice (some ⟨w.heap.size, 0, none⟩) n.toNat m)
        (pushed { w with drawn := w.drawn + 1 } (.cells (#[] ++ Builtin.zeroCells z.cells n.toNat ++ Builtin.zeroCells z.cells (m - n.toNat)) e)) := by
      simp only [Builtin.append_, List.getElem?_toArray, List.getElem?_cons_zero, List.getElem?_cons_succ, Sem.run_bind, run_underlying hu, run_underlying huu, Result.andThen_ok, hsz, hti, Pure.pure, Sem.run, asInt, asIntOf, wn, c1, c2, if_false, if_true, Nat.zero_add]
      rw [if_neg (by omega)]
      simp only [Sem.run_bind, Sem.run_ite, hti, Result.andThen_ok, Pure.pure, hmax, false_and, if_false, hcap, hch, hask, hold0, hns, Bool.not_true, Bool.false_eq_true, hzv, hrow, Sem.run]
    refine ⟨_, _, hrun, ?_⟩
    have hold : ∀ c, c < w.heap.size → (pushed { w with drawn := w.drawn + 1 } (.cells (#[] ++ Builtin.zeroCells z.cells n.toNat ++ Builtin.zeroCells z.cells (m - n.toNat)) e)).heap[c]? = w.heap[c]? := fun c hc => pushed_old { w with drawn := w.drawn + 1 } _ hc
    have hnew := pushed_new { w with drawn := w.drawn + 1 } (.cells (#[] ++ Builtin.zeroCells z.cells n.toNat ++ Builtin.zeroCells z.cells (m - n.toNat)) e)
    have hz := rep_rd (tt := tt) (w := w) (own := true) (fun B => zeros_rd (B := B) g5 hp) n.toNat (fun _ => False)
    have hzs : ∀ k, (Builtin.zeroCells z.cells k).size = k * (tt.at e).ks.length := fun k => by simp [Builtin.zeroCells, hzl]
    have := kill_new hM hr (dead := []) (by intro x hx; simp at hx) (w' := pushed { w with drawn := w.drawn + 1 } (.cells (#[] ++ Builtin.zeroCells z.cells n.toNat ++ Builtin.zeroCells z.cells (m - n.toNat)) e)) (own := true) (ks := (tt.at e).ks)
      (rows := List.replicate n.toNat ((tt.at e).ks.map zeroD)) (hd := (some ⟨w.heap.size, 0, none⟩, m)) (F := fun c => c = w.heap.size) (fun c hc _ => hold c hc) (by rw [pushed_size]; simp) rfl rfl rfl (fun c hc => by rw [pushed_size]; simp only; exact .inr (by omega)) ?_
    · simpa using this
    · refine .w (B' := fun _ => False) (by simpa using hm) (fun _ => ⟨_, e, hnew, ?_⟩) (RVr_R (RVr_frame hz fun _ hc => hc.elim) fun j hj => ?_) rfl (fun _ hc => hc.elim) (fun _ hc => hc)
      · simp only [Array.size_append, hzs, ← Nat.add_mul]
        simp only [List.size_toArray, List.length_nil, Nat.zero_add]
        rw [← Nat.add_mul, show n.toNat + (m - n.toNat) = m by omega]
        exact Nat.le_refl _
      · have hlen : (List.replicate n.toNat z.cells.toList).flatten.length = n.toNat * (tt.at e).ks.length := by simp [hzl]
        rw [hlen] at hj
        rw [flat_rep _ _ _ (by simpa [hzl] using hj), cell_of_block hnew]
        have hjz : j < n.toNat * z.cells.size := by rw [hzl]; exact hj
        have hm2 : j % z.cells.size < z.cells.size := Nat.mod_lt _ (by omega)
        simp only [Nat.zero_add, Array.empty_append]
        rw [Array.getElem?_append_left (by rw [hzs]; exact hj)]
        simp [Builtin.zeroCells, hjz, hm2]
end
end Go.Ev
end
