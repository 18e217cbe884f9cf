/- The program's data as plain Lean, and how they lie in the evaluator's data. Integers, times, names, hashes, certificates. Hashes, certificates, revocation. Facts, saved decisions. Conditions. Rules and policies. Roles: sets of roles, reach. Roles: the printed functions. Roles: the breadth first search. Roles held, and leaves. Evaluation. Decisions. How long a decision holds; saved decisions. Copies, and what a point answers. What a point answers; sessions. Sessions are started. -/
import Derived.Test.YtcfncgapdmpjmaaGreatEvThree
import Derived.Test.YtcfncgapdmpjmaaGreatD
set_option linter.unusedVariables false
set_option linter.unusedSimpArgs false
section
/- The program's data as plain Lean, and how they lie in the evaluator's data. -/
namespace Acc
open Go Go.Ev
class Rw (α : Type) where
  of : α → List D
abbrev row {α : Type} [Rw α] (x : α) : List D := Rw.of x
instance : Rw Int := ⟨fun n => [D.int n]⟩
instance : Rw Bool := ⟨fun b => [D.bool b]⟩
instance : Rw ByteArray := ⟨fun s => [D.str s]⟩
instance {α : Type} [Rw α] : Rw (List α) := ⟨fun l => [D.rows (l.map row)]⟩
@[simp] theorem row_int (n : Int) : row n = [D.int n] := rfl
@[simp] theorem row_bool (n : Bool) : row n = [D.bool n] := rfl
@[simp] theorem row_str (n : ByteArray) : row n = [D.str n] := rfl
@[simp] theorem row_list {α : Type} [Rw α] (l : List α) : row l = [D.rows (l.map row)] := rfl
@[simp] theorem i_int (n : Int) : (D.int n).i = n := rfl
@[simp] theorem b_bool (b : Bool) : (D.bool b).b = b := rfl
@[simp] theorem s_str (s : ByteArray) : (D.str s).s = s := rfl
@[simp] theorem r_rows (r : List (List D)) : (D.rows r).r = r := rfl
@[simp] theorem cs_st (cs : List D) : (D.st cs).cs = cs := rfl
@[simp] theorem f_st (cs : List D) (j : Nat) : (D.st cs).f j = res cs j := rfl
@[simp] theorem res_zero (x : D) (l : List D) : res (x :: l) 0 = x := rfl
@[simp] theorem res_succ (x : D) (l : List D) (j : Nat) : res (x :: l) (j + 1) = res l j := rfl
@[simp] theorem arg_zero (x : D) (l : List D) : arg (x :: l) 0 = x := rfl
@[simp] theorem arg_succ (x : D) (l : List D) (j : Nat) : arg (x :: l) (j + 1) = arg l j := rfl
@[simp] theorem nth_zero {α : Type} (d x : α) (l : List α) : nth d (x :: l) 0 = x := rfl
@[simp] theorem nth_succ {α : Type} (d x : α) (l : List α) (j : Nat) : nth d (x :: l) (j + 1) = nth d l j := rfl
theorem cell_map {α : Type} [Rw α] {l : List α} {i c : Nat} {x : α} (h : l[i]? = some x) : cell (l.map row) i c = nth D.z (row x) c := by
  unfold cell
  congr 1
  rw [nth_eq, List.getD_eq_getElem?_getD, List.getElem?_map, h]; rfl
theorem cell_rows {l : List (List D)} {i c : Nat} {x : List D} (h : l[i]? = some x) : cell l i c = nth D.z x c := by
  unfold cell
  congr 1
  rw [nth_eq, List.getD_eq_getElem?_getD, h]; rfl
@[simp] theorem bind_some {α β : Type} (x : α) (f : α → Option β) : Option.bind (some x) f = f x := rfl
theorem w64_in {x : Int} (h : -9223372036854775808 ≤ x ∧ x ≤ 9223372036854775807) : w64 x = x := IntWalk.i64_in _ (by omega)
theorem lt_k {k n : Nat} (h : k < n) : ltI (k : Int) (n : Int) = true := by simp [ltI, h]
@[simp] theorem le_0 (k : Nat) : leI 0 (k : Int) = true := by simp [leI]
@[simp] theorem le_self (n : Int) : leI n n = true := by simp [leI]
@[simp] theorem lt_self (n : Int) : ltI n n = false := by simp [ltI]
theorem w64_k {k n : Nat} (h : k < n) (hn : n ≤ 1099511627776) : w64 ((k : Int) + 1) = (k : Int) + 1 := w64_in (by omega)
theorem loop_some {f : List D → LR} {s : List D} {R : Type} {k r : List D → Option R} {x : List D ⊕ List D} (h : iter f s = some x) : loop f s k r = Sum.elim k r x := by
  unfold loop; rw [h]; rfl
@[simp] theorem cond_bool (c x y : Bool) : (bif c then some [D.bool x] else some [D.bool y]) = some [D.bool (bif c then x else y)] := by cases c <;> rfl
@[simp] theorem cond_int (c : Bool) (x y : Int) : (bif c then some [D.int x] else some [D.int y]) = some [D.int (bif c then x else y)] := by cases c <;> rfl
@[simp] theorem geI_eq (x y : Int) : geI x y = leI y x := rfl
@[simp] theorem gtI_eq (x y : Int) : gtI x y = ltI y x := rfl
theorem ltI_iff {x y : Int} : ltI x y = true ↔ x < y := by simp [ltI]
theorem leI_iff {x y : Int} : leI x y = true ↔ x ≤ y := by simp [leI]
theorem leN_iff {x y : Nat} : leN x y = true ↔ x ≤ y := by simp [leN]
theorem iter_step {S B : Type} {f : S → Option (S ⊕ B)} {s s' : S} (h : f s = some (.inl s')) : iter f s = iter f s' := by
  cases h' : iter f s' with
  | some b => exact iter_inl h h'
  | none =>
    cases hs : iter f s with
    | none => rfl
    | some b =>
      obtain ⟨n, hn⟩ := iter_some hs
      cases n with
      | zero => simp [iterN] at hn
      | succ n =>
        simp only [iterN, h] at hn
        rw [iter_of hn] at h'; cases h'
theorem goList_fold {α S B : Type} {step : S → α → S} {e : S → B} : ∀ (l : List α) (k : Nat) (s : S), goList (fun _ x s => .inl (step s x)) e l k s = e (l.foldl step s)
  | [], _, _ => rfl
  | x :: l, k, s => by simp [goList, goList_fold l]
/-- the first place of an element that p takes, or -1 -/
def idxFrom {α : Type} (p : α → Bool) : List α → Nat → Int
  | [], _ => -1
  | x :: l, k => bif p x then (k : Int) else idxFrom p l (k + 1)
def idxOf {α : Type} (p : α → Bool) (l : List α) : Int := idxFrom p l 0
theorem idxFrom_none {α : Type} {p : α → Bool} : ∀ {l : List α} {k : Nat}, l.any p = false → idxFrom p l k = -1
  | [], _, _ => rfl
  | x :: l, k, h => by simp only [List.any_cons, Bool.or_eq_false_iff] at h; simp [idxFrom, h.1, idxFrom_none h.2]
theorem idxFrom_some {α : Type} {p : α → Bool} : ∀ {l : List α} {k : Nat}, l.any p = true → ∃ (i : Nat) (x : α), idxFrom p l k = ((k + i : Nat) : Int) ∧ l[i]? = some x ∧ p x = true ∧ l.find? p = some x
  | [], _, h => by simp at h
  | x :: l, k, h => by
    cases hx : p x with
    | true => exact ⟨0, x, by simp [idxFrom, hx], rfl, hx, by simp [hx]⟩
    | false =>
      simp only [List.any_cons, hx, Bool.false_or] at h
      obtain ⟨i, y, h1, h2, h3, h4⟩ := idxFrom_some (k := k + 1) h
      exact ⟨i + 1, y, by simp only [idxFrom, hx, cond_false, h1]; congr 1; omega, by simpa using h2, h3, by simp [hx, h4]⟩
theorem idxOf_cases {α : Type} (p : α → Bool) (l : List α) : (l.any p = false ∧ idxOf p l = -1 ∧ l.find? p = none) ∨ ∃ (i : Nat) (x : α), l.any p = true ∧ idxOf p l = (i : Int) ∧ l[i]? = some x ∧ p x = true ∧ l.find? p = some x := by
  cases h : l.any p with
  | false => exact .inl ⟨rfl, idxFrom_none h, by rw [List.find?_eq_none]; intro x hx hp; rw [List.any_eq_false] at h; exact h x hx hp⟩
  | true =>
    obtain ⟨i, x, h1, h2, h3, h4⟩ := idxFrom_some (k := 0) h
    exact .inr ⟨i, x, rfl, by unfold idxOf; rw [h1]; simp, h2, h3, h4⟩
theorem find_go {α B : Type} {p : α → Bool} {v : α → B} {e : Unit → B} : ∀ (l : List α) (k : Nat), goList (fun _ x (_ : Unit) => bif p x then .inr (v x) else .inl ()) e l k () = match l.find? p with | some x => v x | none => e ()
  | [], _ => rfl
  | x :: l, k => by
    cases hx : p x with
    | true => simp [goList, hx]
    | false => simp [goList, hx, find_go l (k + 1)]
theorem any_go {α B : Type} {p : α → Bool} {b : B} {e : Unit → B} : ∀ (l : List α) (k : Nat), goList (fun _ x (_ : Unit) => bif p x then .inr b else .inl ()) e l k () = bif l.any p then b else e ()
  | [], _ => rfl
  | x :: l, k => by
    cases hx : p x with
    | true => simp [goList, hx]
    | false => simp [goList, hx, any_go l (k + 1)]
theorem idx_go {α : Type} {p : α → Bool} : ∀ (l : List α) (k : Nat),
    goList (fun k x (_ : Unit) => bif p x then .inr (.inr [D.int (k : Int)]) else .inl ()) (fun _ => .inl []) l k () = (bif l.any p then .inr [D.int (idxFrom p l k)] else .inl [] : List D ⊕ List D)
  | [], k => rfl
  | x :: l, k => by
    cases hx : p x with
    | true => simp [goList, hx, idxFrom]
    | false => simp [goList, hx, idxFrom, idx_go l (k + 1)]
theorem gf_one {n : Nat} {t : List D → Option (List D)} : gf [(n, t)] (n : Int) = t := by simp [gf, Ev.look]

/-- no list in it is longer than M -/
class Bd (α : Type) where
  of : Nat → α → Prop
abbrev bd {α : Type} [Bd α] (M : Nat) (x : α) : Prop := Bd.of M x
instance : Bd Int := ⟨fun _ _ => True⟩
instance : Bd Bool := ⟨fun _ _ => True⟩
instance : Bd ByteArray := ⟨fun M s => s.size ≤ M⟩
instance {α : Type} [Bd α] : Bd (List α) := ⟨fun M l => l.length ≤ M ∧ ∀ x ∈ l, bd M x⟩
@[simp] theorem bd_int (M : Nat) (x : Int) : bd M x = True := rfl
@[simp] theorem bd_bool (M : Nat) (x : Bool) : bd M x = True := rfl
theorem bd_list {α : Type} [Bd α] {M : Nat} {l : List α} : bd M l ↔ l.length ≤ M ∧ ∀ x ∈ l, bd M x := Iff.rfl

/-- of a size that nothing overflows by -/
abbrev ok {α : Type} [Bd α] (x : α) : Prop := bd 16777216 x
structure Apart where
  A : Int
  B : Int
  Object : Int
  deriving DecidableEq, Inhabited
@[simp] theorem Apart.eta_ (x : Apart) : (⟨x.A, x.B, x.Object⟩ : Apart) = x := rfl
instance : Bd Apart := ⟨fun M x => True⟩
@[simp] theorem bd_Apart (M : Nat) (x : Apart) : bd M x = (True) := rfl
instance : Rw Apart := ⟨fun x => [D.int x.A, D.int x.B, D.int x.Object]⟩
@[simp] theorem row_Apart (x : Apart) : row x = [D.int x.A, D.int x.B, D.int x.Object] := rfl
structure Issuer where
  Id : Int
  Kinds : List Int
  Secret : Int
  deriving DecidableEq, Inhabited
@[simp] theorem Issuer.eta_ (x : Issuer) : (⟨x.Id, x.Kinds, x.Secret⟩ : Issuer) = x := rfl
instance : Bd Issuer := ⟨fun M x => bd M x.Kinds⟩
@[simp] theorem bd_Issuer (M : Nat) (x : Issuer) : bd M x = (bd M x.Kinds) := rfl
instance : Rw Issuer := ⟨fun x => [D.int x.Id, D.rows (x.Kinds.map row), D.int x.Secret]⟩
@[simp] theorem row_Issuer (x : Issuer) : row x = [D.int x.Id, D.rows (x.Kinds.map row), D.int x.Secret] := rfl
structure Includes where
  Greater : Int
  Lesser : Int
  deriving DecidableEq, Inhabited
@[simp] theorem Includes.eta_ (x : Includes) : (⟨x.Greater, x.Lesser⟩ : Includes) = x := rfl
instance : Bd Includes := ⟨fun M x => True⟩
@[simp] theorem bd_Includes (M : Nat) (x : Includes) : bd M x = (True) := rfl
instance : Rw Includes := ⟨fun x => [D.int x.Greater, D.int x.Lesser]⟩
@[simp] theorem row_Includes (x : Includes) : row x = [D.int x.Greater, D.int x.Lesser] := rfl
/-- a condition -/
inductive Cond where
  | mk (Op A B : Int) (Args : List Cond)
namespace Cond
def Op : Cond → Int | .mk o _ _ _ => o
def A : Cond → Int | .mk _ a _ _ => a
def B : Cond → Int | .mk _ _ b _ => b
def Args : Cond → List Cond | .mk _ _ _ l => l
instance : Inhabited Cond := ⟨.mk 0 0 0 []⟩
mutual
def rw : Cond → List D
  | .mk o a b l => [D.int o, D.int a, D.int b, D.rows (rws l)]
def rws : List Cond → List (List D)
  | [] => []
  | x :: l => rw x :: rws l
end
theorem rws_eq : ∀ l : List Cond, rws l = l.map rw
  | [] => rfl
  | x :: l => by simp [rws, rws_eq l]
mutual
def beq : Cond → Cond → Bool
  | .mk o a b l, .mk o' a' b' l' => o == o' && a == a' && b == b' && beqs l l'
def beqs : List Cond → List Cond → Bool
  | [], [] => true
  | x :: l, y :: m => beq x y && beqs l m
  | _, _ => false
end
mutual
theorem beq_iff : ∀ x y : Cond, beq x y = true ↔ x = y
  | .mk o a b l, .mk o' a' b' l' => by
    simp only [beq, Bool.and_eq_true, beq_iff_eq, Cond.mk.injEq, beqs_iff l l', and_assoc]
theorem beqs_iff : ∀ l m : List Cond, beqs l m = true ↔ l = m
  | [], [] => by simp [beqs]
  | [], _ :: _ => by simp [beqs]
  | _ :: _, [] => by simp [beqs]
  | x :: l, y :: m => by simp only [beqs, Bool.and_eq_true, beq_iff x y, beqs_iff l m, List.cons.injEq]
end
instance : DecidableEq Cond := fun x y => decidable_of_iff (beq x y = true) (beq_iff x y)
end Cond
@[simp] theorem Cond.eta_ (x : Cond) : Cond.mk x.Op x.A x.B x.Args = x := by cases x; rfl
@[simp] theorem Cond.Op_mk (o a b : Int) (l : List Cond) : (Cond.mk o a b l).Op = o := rfl
@[simp] theorem Cond.A_mk (o a b : Int) (l : List Cond) : (Cond.mk o a b l).A = a := rfl
@[simp] theorem Cond.B_mk (o a b : Int) (l : List Cond) : (Cond.mk o a b l).B = b := rfl
@[simp] theorem Cond.Args_mk (o a b : Int) (l : List Cond) : (Cond.mk o a b l).Args = l := rfl
mutual
def Cond.csize : Cond → Nat
  | .mk _ _ _ l => 1 + Cond.csizes l
def Cond.csizes : List Cond → Nat
  | [] => 0
  | x :: l => x.csize + Cond.csizes l
end
theorem Cond.csizes_mem : ∀ {l : List Cond} {x : Cond}, x ∈ l → x.csize ≤ Cond.csizes l
  | y :: l, x, h => by
    rcases List.mem_cons.1 h with rfl | h
    · simp [Cond.csizes]
    · have := Cond.csizes_mem h; simp only [Cond.csizes]; omega
theorem Cond.csizes_len : ∀ {l : List Cond}, l.length ≤ Cond.csizes l
  | [] => by simp
  | (.mk o a b m) :: l => by have := Cond.csizes_len (l := l); simp only [Cond.csizes, Cond.csize, List.length_cons]; omega
theorem Cond.csize_eq (x : Cond) : x.csize = 1 + Cond.csizes x.Args := by cases x; rfl
theorem Cond.csize_mem {x y : Cond} (h : y ∈ x.Args) : y.csize < x.csize := by
  have := Cond.csizes_mem h; rw [x.csize_eq]; omega
theorem Cond.args_len (x : Cond) : x.Args.length < x.csize := by
  have := Cond.csizes_len (l := x.Args); rw [x.csize_eq]; omega
instance : Bd Cond := ⟨fun M x => x.csize ≤ M⟩
theorem bd_Cond (M : Nat) (x : Cond) : bd M x ↔ x.csize ≤ M := Iff.rfl
theorem ok_arg {x y : Cond} (h : ok x) (hy : y ∈ x.Args) : ok y := by
  have h : x.csize ≤ 16777216 := h
  show y.csize ≤ 16777216
  have := Cond.csize_mem hy; omega
theorem ok_args {x : Cond} (h : ok x) : x.Args.length ≤ 16777216 := by
  have h : x.csize ≤ 16777216 := h
  have := x.args_len; omega
@[simp] theorem look_self {α : Type} (d : α) (k : Nat) (v : α) (l : List (Nat × α)) : Ev.look d ((k, v) :: l) k = v := by simp [Ev.look]
instance : Rw Cond := ⟨Cond.rw⟩
@[simp] theorem row_Cond (x : Cond) : row x = [D.int x.Op, D.int x.A, D.int x.B, D.rows (x.Args.map row)] := by
  cases x with | mk o a b l => show Cond.rw _ = _; simp only [Cond.rw, Cond.rws_eq]; rfl
structure Rule where
  Effect : Int
  Action : Int
  Object : Int
  Cond : Cond
  deriving DecidableEq, Inhabited
@[simp] theorem Rule.eta_ (x : Rule) : (⟨x.Effect, x.Action, x.Object, x.Cond⟩ : Rule) = x := rfl
instance : Bd Rule := ⟨fun M x => bd M x.Cond⟩
@[simp] theorem bd_Rule (M : Nat) (x : Rule) : bd M x = (bd M x.Cond) := rfl
instance : Rw Rule := ⟨fun x => [D.int x.Effect, D.int x.Action, D.int x.Object, D.int x.Cond.Op, D.int x.Cond.A, D.int x.Cond.B, D.rows (x.Cond.Args.map row)]⟩
@[simp] theorem row_Rule (x : Rule) : row x = [D.int x.Effect, D.int x.Action, D.int x.Object, D.int x.Cond.Op, D.int x.Cond.A, D.int x.Cond.B, D.rows (x.Cond.Args.map row)] := rfl
structure Policy where
  Version : Int
  Rules : List Rule
  deriving DecidableEq, Inhabited
@[simp] theorem Policy.eta_ (x : Policy) : (⟨x.Version, x.Rules⟩ : Policy) = x := rfl
instance : Bd Policy := ⟨fun M x => bd M x.Rules⟩
@[simp] theorem bd_Policy (M : Nat) (x : Policy) : bd M x = (bd M x.Rules) := rfl
instance : Rw Policy := ⟨fun x => [D.int x.Version, D.rows (x.Rules.map row)]⟩
@[simp] theorem row_Policy (x : Policy) : row x = [D.int x.Version, D.rows (x.Rules.map row)] := rfl
structure Epoch where
  Number : Int
  At : Int
  Pairs : List Includes
  Policy : Policy
  deriving DecidableEq, Inhabited
@[simp] theorem Epoch.eta_ (x : Epoch) : (⟨x.Number, x.At, x.Pairs, x.Policy⟩ : Epoch) = x := rfl
instance : Bd Epoch := ⟨fun M x => bd M x.Pairs ∧ bd M x.Policy⟩
@[simp] theorem bd_Epoch (M : Nat) (x : Epoch) : bd M x = (bd M x.Pairs ∧ bd M x.Policy) := rfl
instance : Rw Epoch := ⟨fun x => [D.int x.Number, D.int x.At, D.rows (x.Pairs.map row), D.int x.Policy.Version, D.rows (x.Policy.Rules.map row)]⟩
@[simp] theorem row_Epoch (x : Epoch) : row x = [D.int x.Number, D.int x.At, D.rows (x.Pairs.map row), D.int x.Policy.Version, D.rows (x.Policy.Rules.map row)] := rfl
structure Fact where
  Kind : Int
  Subject : Int
  Value : Int
  Issuer : Int
  At : Int
  Until : Int
  deriving DecidableEq, Inhabited
@[simp] theorem Fact.eta_ (x : Fact) : (⟨x.Kind, x.Subject, x.Value, x.Issuer, x.At, x.Until⟩ : Fact) = x := rfl
instance : Bd Fact := ⟨fun M x => True⟩
@[simp] theorem bd_Fact (M : Nat) (x : Fact) : bd M x = (True) := rfl
instance : Rw Fact := ⟨fun x => [D.int x.Kind, D.int x.Subject, D.int x.Value, D.int x.Issuer, D.int x.At, D.int x.Until]⟩
@[simp] theorem row_Fact (x : Fact) : row x = [D.int x.Kind, D.int x.Subject, D.int x.Value, D.int x.Issuer, D.int x.At, D.int x.Until] := rfl
structure Revoked where
  Serial : Int
  At : Int
  deriving DecidableEq, Inhabited
@[simp] theorem Revoked.eta_ (x : Revoked) : (⟨x.Serial, x.At⟩ : Revoked) = x := rfl
instance : Bd Revoked := ⟨fun M x => True⟩
@[simp] theorem bd_Revoked (M : Nat) (x : Revoked) : bd M x = (True) := rfl
instance : Rw Revoked := ⟨fun x => [D.int x.Serial, D.int x.At]⟩
@[simp] theorem row_Revoked (x : Revoked) : row x = [D.int x.Serial, D.int x.At] := rfl
structure Cert where
  Serial : Int
  Subject : Int
  Key : Int
  From : Int
  Until : Int
  Mark : Int
  deriving DecidableEq, Inhabited
@[simp] theorem Cert.eta_ (x : Cert) : (⟨x.Serial, x.Subject, x.Key, x.From, x.Until, x.Mark⟩ : Cert) = x := rfl
instance : Bd Cert := ⟨fun M x => True⟩
@[simp] theorem bd_Cert (M : Nat) (x : Cert) : bd M x = (True) := rfl
instance : Rw Cert := ⟨fun x => [D.int x.Serial, D.int x.Subject, D.int x.Key, D.int x.From, D.int x.Until, D.int x.Mark]⟩
@[simp] theorem row_Cert (x : Cert) : row x = [D.int x.Serial, D.int x.Subject, D.int x.Key, D.int x.From, D.int x.Until, D.int x.Mark] := rfl
structure Center where
  Issuers : List Issuer
  Epochs : List Epoch
  Store : List Fact
  Revoked : List Revoked
  Secret : Int
  Certs : List Cert
  deriving DecidableEq, Inhabited
@[simp] theorem Center.eta_ (x : Center) : (⟨x.Issuers, x.Epochs, x.Store, x.Revoked, x.Secret, x.Certs⟩ : Center) = x := rfl
instance : Bd Center := ⟨fun M x => bd M x.Issuers ∧ bd M x.Epochs ∧ bd M x.Store ∧ bd M x.Revoked ∧ bd M x.Certs⟩
@[simp] theorem bd_Center (M : Nat) (x : Center) : bd M x = (bd M x.Issuers ∧ bd M x.Epochs ∧ bd M x.Store ∧ bd M x.Revoked ∧ bd M x.Certs) := rfl
instance : Rw Center := ⟨fun x => [D.rows (x.Issuers.map row), D.rows (x.Epochs.map row), D.rows (x.Store.map row), D.rows (x.Revoked.map row), D.int x.Secret, D.rows (x.Certs.map row)]⟩
@[simp] theorem row_Center (x : Center) : row x = [D.rows (x.Issuers.map row), D.rows (x.Epochs.map row), D.rows (x.Store.map row), D.rows (x.Revoked.map row), D.int x.Secret, D.rows (x.Certs.map row)] := rfl
structure Emergency where
  Id : Int
  Person : Int
  At : Int
  Until : Int
  Used : List Int
  Settled : Bool
  deriving DecidableEq, Inhabited
@[simp] theorem Emergency.eta_ (x : Emergency) : (⟨x.Id, x.Person, x.At, x.Until, x.Used, x.Settled⟩ : Emergency) = x := rfl
instance : Bd Emergency := ⟨fun M x => bd M x.Used⟩
@[simp] theorem bd_Emergency (M : Nat) (x : Emergency) : bd M x = (bd M x.Used) := rfl
instance : Rw Emergency := ⟨fun x => [D.int x.Id, D.int x.Person, D.int x.At, D.int x.Until, D.rows (x.Used.map row), D.bool x.Settled]⟩
@[simp] theorem row_Emergency (x : Emergency) : row x = [D.int x.Id, D.int x.Person, D.int x.At, D.int x.Until, D.rows (x.Used.map row), D.bool x.Settled] := rfl
structure Entry where
  Kind : Int
  At : Int
  Point : Int
  Serial : Int
  Person : Int
  Object : Int
  Outcome : Int
  Epoch : Int
  Mark : Int
  deriving DecidableEq, Inhabited
@[simp] theorem Entry.eta_ (x : Entry) : (⟨x.Kind, x.At, x.Point, x.Serial, x.Person, x.Object, x.Outcome, x.Epoch, x.Mark⟩ : Entry) = x := rfl
instance : Bd Entry := ⟨fun M x => True⟩
@[simp] theorem bd_Entry (M : Nat) (x : Entry) : bd M x = (True) := rfl
instance : Rw Entry := ⟨fun x => [D.int x.Kind, D.int x.At, D.int x.Point, D.int x.Serial, D.int x.Person, D.int x.Object, D.int x.Outcome, D.int x.Epoch, D.int x.Mark]⟩
@[simp] theorem row_Entry (x : Entry) : row x = [D.int x.Kind, D.int x.At, D.int x.Point, D.int x.Serial, D.int x.Person, D.int x.Object, D.int x.Outcome, D.int x.Epoch, D.int x.Mark] := rfl
structure Request where
  Person : Int
  Device : Int
  Program : Int
  Action : Int
  Object : Int
  Now : Int
  deriving DecidableEq, Inhabited
@[simp] theorem Request.eta_ (x : Request) : (⟨x.Person, x.Device, x.Program, x.Action, x.Object, x.Now⟩ : Request) = x := rfl
instance : Bd Request := ⟨fun M x => True⟩
@[simp] theorem bd_Request (M : Nat) (x : Request) : bd M x = (True) := rfl
instance : Rw Request := ⟨fun x => [D.int x.Person, D.int x.Device, D.int x.Program, D.int x.Action, D.int x.Object, D.int x.Now]⟩
@[simp] theorem row_Request (x : Request) : row x = [D.int x.Person, D.int x.Device, D.int x.Program, D.int x.Action, D.int x.Object, D.int x.Now] := rfl
structure Event where
  Kind : Int
  A : Int
  B : Int
  C : Int
  D : Int
  E : Int
  Ask : Request
  Rules : List Rule
  Actions : List Int
  deriving DecidableEq, Inhabited
@[simp] theorem Event.eta_ (x : Event) : (⟨x.Kind, x.A, x.B, x.C, x.D, x.E, x.Ask, x.Rules, x.Actions⟩ : Event) = x := rfl
instance : Bd Event := ⟨fun M x => bd M x.Rules ∧ bd M x.Actions⟩
@[simp] theorem bd_Event (M : Nat) (x : Event) : bd M x = (bd M x.Rules ∧ bd M x.Actions) := rfl
instance : Rw Event := ⟨fun x => [D.int x.Kind, D.int x.A, D.int x.B, D.int x.C, D.int x.D, D.int x.E, D.int x.Ask.Person, D.int x.Ask.Device, D.int x.Ask.Program, D.int x.Ask.Action, D.int x.Ask.Object, D.int x.Ask.Now, D.rows (x.Rules.map row), D.rows (x.Actions.map row)]⟩
@[simp] theorem row_Event (x : Event) : row x = [D.int x.Kind, D.int x.A, D.int x.B, D.int x.C, D.int x.D, D.int x.E, D.int x.Ask.Person, D.int x.Ask.Device, D.int x.Ask.Program, D.int x.Ask.Action, D.int x.Ask.Object, D.int x.Ask.Now, D.rows (x.Rules.map row), D.rows (x.Actions.map row)] := rfl
structure Grant where
  Id : Int
  From : Int
  To : Int
  Actions : List Int
  Until : Int
  Parent : Int
  Taken : Bool
  deriving DecidableEq, Inhabited
@[simp] theorem Grant.eta_ (x : Grant) : (⟨x.Id, x.From, x.To, x.Actions, x.Until, x.Parent, x.Taken⟩ : Grant) = x := rfl
instance : Bd Grant := ⟨fun M x => bd M x.Actions⟩
@[simp] theorem bd_Grant (M : Nat) (x : Grant) : bd M x = (bd M x.Actions) := rfl
instance : Rw Grant := ⟨fun x => [D.int x.Id, D.int x.From, D.int x.To, D.rows (x.Actions.map row), D.int x.Until, D.int x.Parent, D.bool x.Taken]⟩
@[simp] theorem row_Grant (x : Grant) : row x = [D.int x.Id, D.int x.From, D.int x.To, D.rows (x.Actions.map row), D.int x.Until, D.int x.Parent, D.bool x.Taken] := rfl
structure Plan where
  Persons : List Int
  Objects : List Int
  Span : Int
  deriving DecidableEq, Inhabited
@[simp] theorem Plan.eta_ (x : Plan) : (⟨x.Persons, x.Objects, x.Span⟩ : Plan) = x := rfl
instance : Bd Plan := ⟨fun M x => bd M x.Persons ∧ bd M x.Objects⟩
@[simp] theorem bd_Plan (M : Nat) (x : Plan) : bd M x = (bd M x.Persons ∧ bd M x.Objects) := rfl
instance : Rw Plan := ⟨fun x => [D.rows (x.Persons.map row), D.rows (x.Objects.map row), D.int x.Span]⟩
@[simp] theorem row_Plan (x : Plan) : row x = [D.rows (x.Persons.map row), D.rows (x.Objects.map row), D.int x.Span] := rfl
structure Saved where
  Ask : Request
  Outcome : Int
  Until : Int
  deriving DecidableEq, Inhabited
@[simp] theorem Saved.eta_ (x : Saved) : (⟨x.Ask, x.Outcome, x.Until⟩ : Saved) = x := rfl
instance : Bd Saved := ⟨fun M x => True⟩
@[simp] theorem bd_Saved (M : Nat) (x : Saved) : bd M x = (True) := rfl
instance : Rw Saved := ⟨fun x => [D.int x.Ask.Person, D.int x.Ask.Device, D.int x.Ask.Program, D.int x.Ask.Action, D.int x.Ask.Object, D.int x.Ask.Now, D.int x.Outcome, D.int x.Until]⟩
@[simp] theorem row_Saved (x : Saved) : row x = [D.int x.Ask.Person, D.int x.Ask.Device, D.int x.Ask.Program, D.int x.Ask.Action, D.int x.Ask.Object, D.int x.Ask.Now, D.int x.Outcome, D.int x.Until] := rfl
structure Point where
  Id : Int
  Epoch : Epoch
  Store : List Fact
  Revoked : List Revoked
  SyncedAt : Int
  Saved : List Saved
  deriving DecidableEq, Inhabited
@[simp] theorem Point.eta_ (x : Point) : (⟨x.Id, x.Epoch, x.Store, x.Revoked, x.SyncedAt, x.Saved⟩ : Point) = x := rfl
instance : Bd Point := ⟨fun M x => bd M x.Epoch ∧ bd M x.Store ∧ bd M x.Revoked ∧ bd M x.Saved⟩
@[simp] theorem bd_Point (M : Nat) (x : Point) : bd M x = (bd M x.Epoch ∧ bd M x.Store ∧ bd M x.Revoked ∧ bd M x.Saved) := rfl
instance : Rw Point := ⟨fun x => [D.int x.Id, D.int x.Epoch.Number, D.int x.Epoch.At, D.rows (x.Epoch.Pairs.map row), D.int x.Epoch.Policy.Version, D.rows (x.Epoch.Policy.Rules.map row), D.rows (x.Store.map row), D.rows (x.Revoked.map row), D.int x.SyncedAt, D.rows (x.Saved.map row)]⟩
@[simp] theorem row_Point (x : Point) : row x = [D.int x.Id, D.int x.Epoch.Number, D.int x.Epoch.At, D.rows (x.Epoch.Pairs.map row), D.int x.Epoch.Policy.Version, D.rows (x.Epoch.Policy.Rules.map row), D.rows (x.Store.map row), D.rows (x.Revoked.map row), D.int x.SyncedAt, D.rows (x.Saved.map row)] := rfl
structure Session where
  Id : Int
  Point : Int
  Serial : Int
  Ask : Request
  Open : Bool
  deriving DecidableEq, Inhabited
@[simp] theorem Session.eta_ (x : Session) : (⟨x.Id, x.Point, x.Serial, x.Ask, x.Open⟩ : Session) = x := rfl
instance : Bd Session := ⟨fun M x => True⟩
@[simp] theorem bd_Session (M : Nat) (x : Session) : bd M x = (True) := rfl
instance : Rw Session := ⟨fun x => [D.int x.Id, D.int x.Point, D.int x.Serial, D.int x.Ask.Person, D.int x.Ask.Device, D.int x.Ask.Program, D.int x.Ask.Action, D.int x.Ask.Object, D.int x.Ask.Now, D.bool x.Open]⟩
@[simp] theorem row_Session (x : Session) : row x = [D.int x.Id, D.int x.Point, D.int x.Serial, D.int x.Ask.Person, D.int x.Ask.Device, D.int x.Ask.Program, D.int x.Ask.Action, D.int x.Ask.Object, D.int x.Ask.Now, D.bool x.Open] := rfl
structure Share where
  Point : Int
  Left : Int
  deriving DecidableEq, Inhabited
@[simp] theorem Share.eta_ (x : Share) : (⟨x.Point, x.Left⟩ : Share) = x := rfl
instance : Bd Share := ⟨fun M x => True⟩
@[simp] theorem bd_Share (M : Nat) (x : Share) : bd M x = (True) := rfl
instance : Rw Share := ⟨fun x => [D.int x.Point, D.int x.Left]⟩
@[simp] theorem row_Share (x : Share) : row x = [D.int x.Point, D.int x.Left] := rfl
structure Stated where
  Fact : Fact
  Mark : Int
  deriving DecidableEq, Inhabited
@[simp] theorem Stated.eta_ (x : Stated) : (⟨x.Fact, x.Mark⟩ : Stated) = x := rfl
instance : Bd Stated := ⟨fun M x => True⟩
@[simp] theorem bd_Stated (M : Nat) (x : Stated) : bd M x = (True) := rfl
instance : Rw Stated := ⟨fun x => [D.int x.Fact.Kind, D.int x.Fact.Subject, D.int x.Fact.Value, D.int x.Fact.Issuer, D.int x.Fact.At, D.int x.Fact.Until, D.int x.Mark]⟩
@[simp] theorem row_Stated (x : Stated) : row x = [D.int x.Fact.Kind, D.int x.Fact.Subject, D.int x.Fact.Value, D.int x.Fact.Issuer, D.int x.Fact.At, D.int x.Fact.Until, D.int x.Mark] := rfl
structure Use where
  Person : Int
  Action : Int
  Object : Int
  At : Int
  deriving DecidableEq, Inhabited
@[simp] theorem Use.eta_ (x : Use) : (⟨x.Person, x.Action, x.Object, x.At⟩ : Use) = x := rfl
instance : Bd Use := ⟨fun M x => True⟩
@[simp] theorem bd_Use (M : Nat) (x : Use) : bd M x = (True) := rfl
instance : Rw Use := ⟨fun x => [D.int x.Person, D.int x.Action, D.int x.Object, D.int x.At]⟩
@[simp] theorem row_Use (x : Use) : row x = [D.int x.Person, D.int x.Action, D.int x.Object, D.int x.At] := rfl
structure World where
  Now : Int
  Center : Center
  Points : List Point
  Down : List Bool
  Trails : List (List Entry)
  Quota : Int
  Shares : List Share
  Grants : List Grant
  Apart : List Apart
  Uses : List Use
  Plan : Plan
  Cases : List Emergency
  Sessions : List Session
  deriving DecidableEq, Inhabited
@[simp] theorem World.eta_ (x : World) : (⟨x.Now, x.Center, x.Points, x.Down, x.Trails, x.Quota, x.Shares, x.Grants, x.Apart, x.Uses, x.Plan, x.Cases, x.Sessions⟩ : World) = x := rfl
instance : Bd World := ⟨fun M x => bd M x.Center ∧ bd M x.Points ∧ bd M x.Down ∧ bd M x.Trails ∧ bd M x.Shares ∧ bd M x.Grants ∧ bd M x.Apart ∧ bd M x.Uses ∧ bd M x.Plan ∧ bd M x.Cases ∧ bd M x.Sessions⟩
@[simp] theorem bd_World (M : Nat) (x : World) : bd M x = (bd M x.Center ∧ bd M x.Points ∧ bd M x.Down ∧ bd M x.Trails ∧ bd M x.Shares ∧ bd M x.Grants ∧ bd M x.Apart ∧ bd M x.Uses ∧ bd M x.Plan ∧ bd M x.Cases ∧ bd M x.Sessions) := rfl
instance : Rw World := ⟨fun x => [D.int x.Now, D.rows (x.Center.Issuers.map row), D.rows (x.Center.Epochs.map row), D.rows (x.Center.Store.map row), D.rows (x.Center.Revoked.map row), D.int x.Center.Secret, D.rows (x.Center.Certs.map row), D.rows (x.Points.map row), D.rows (x.Down.map row), D.rows (x.Trails.map row), D.int x.Quota, D.rows (x.Shares.map row), D.rows (x.Grants.map row), D.rows (x.Apart.map row), D.rows (x.Uses.map row), D.rows (x.Plan.Persons.map row), D.rows (x.Plan.Objects.map row), D.int x.Plan.Span, D.rows (x.Cases.map row), D.rows (x.Sessions.map row)]⟩
@[simp] theorem row_World (x : World) : row x = [D.int x.Now, D.rows (x.Center.Issuers.map row), D.rows (x.Center.Epochs.map row), D.rows (x.Center.Store.map row), D.rows (x.Center.Revoked.map row), D.int x.Center.Secret, D.rows (x.Center.Certs.map row), D.rows (x.Points.map row), D.rows (x.Down.map row), D.rows (x.Trails.map row), D.int x.Quota, D.rows (x.Shares.map row), D.rows (x.Grants.map row), D.rows (x.Apart.map row), D.rows (x.Uses.map row), D.rows (x.Plan.Persons.map row), D.rows (x.Plan.Objects.map row), D.int x.Plan.Span, D.rows (x.Cases.map row), D.rows (x.Sessions.map row)] := rfl

end Acc
end
section
/- Integers, times, names, hashes, certificates. -/
namespace Acc
open Go Go.Ev
def InRange (n a b : Int) : Bool := leI a n && leI n b
theorem InRange_iff {n a b : Int} : InRange n a b = true ↔ a ≤ n ∧ n ≤ b := by simp [InRange, leI]
@[simp] theorem iInRange_ok (n : Int) (a : Int) (b : Int) : iInRange.t [D.int n, D.int a, D.int b] = some [D.bool (InRange n a b)] := by
  simp [iInRange.t, iInRange.b, InRange]
@[simp] theorem sl1In_ok (n : Int) (a : Int) (b : Int) : sl1In.t [D.int n, D.int a, D.int b] = some [D.bool (InRange n a b)] := by
  simp [sl1In.t, sl1In.b, InRange]
def IsTime (t : Int) : Bool := InRange t 0 10000
@[simp] theorem iIsTime_ok (t : Int) : iIsTime.t [D.int t] = some [D.bool (IsTime t)] := by
  simp [iIsTime.t, iIsTime.b, IsTime]
@[simp] theorem sIsTime_ok (t : Int) : sIsTime.t [D.int t] = some [D.bool (IsTime t)] := by
  simp [sIsTime.t, sIsTime.b, IsTime]
def IsName (n : Int) : Bool := InRange n 10 49
@[simp] theorem iIsName_ok (n : Int) : iIsName.t [D.int n] = some [D.bool (IsName n)] := by
  simp [iIsName.t, iIsName.b, IsName]
@[simp] theorem sIsName_ok (n : Int) : sIsName.t [D.int n] = some [D.bool (IsName n)] := by
  simp [sIsName.t, sIsName.b, IsName]
def KindOf (n : Int) : Int := bif IsName n then w64 (n.tdiv 10) else 0
@[simp] theorem iKindOf_ok (n : Int) : iKindOf.t [D.int n] = some [D.int (KindOf n)] := by
  simp [iKindOf.t, iKindOf.b, KindOf]
def HasKind (n k : Int) : Bool := IsName n && (KindOf n == k)
@[simp] theorem iHasKind_ok (n : Int) (k : Int) : iHasKind.t [D.int n, D.int k] = some [D.bool (HasKind n k)] := by
  simp [iHasKind.t, iHasKind.b, HasKind]
@[simp] theorem sHasKind_ok (n : Int) (k : Int) : sHasKind.t [D.int n, D.int k] = some [D.bool (HasKind n k)] := by
  simp [sHasKind.t, sHasKind.b, HasKind, KindOf]
  cases IsName n <;> simp
def IsRequest (q : Request) : Bool := HasKind q.Person 1 && (HasKind q.Device 2 && (HasKind q.Program 3 && (HasKind q.Object 4 && (InRange q.Action 0 5 && IsTime q.Now))))
theorem iIsRequest_ok (q : Request) : iIsRequest.t [D.st (row q)] = some [D.bool (IsRequest q)] := by
  simp [iIsRequest.t, iIsRequest.b, IsRequest]
@[simp] theorem iIsRequest_ok' (q_Person : Int) (q_Device : Int) (q_Program : Int) (q_Action : Int) (q_Object : Int) (q_Now : Int) : iIsRequest.t [D.st [D.int q_Person, D.int q_Device, D.int q_Program, D.int q_Action, D.int q_Object, D.int q_Now]] = some [D.bool (IsRequest (⟨q_Person, q_Device, q_Program, q_Action, q_Object, q_Now⟩ : Request))] := iIsRequest_ok (⟨q_Person, q_Device, q_Program, q_Action, q_Object, q_Now⟩ : Request)
theorem sIsRequest_ok (q : Request) : sIsRequest.t [D.st (row q)] = some [D.bool (IsRequest q)] := by
  simp [sIsRequest.t, sIsRequest.b, IsRequest]
@[simp] theorem sIsRequest_ok' (q_Person : Int) (q_Device : Int) (q_Program : Int) (q_Action : Int) (q_Object : Int) (q_Now : Int) : sIsRequest.t [D.st [D.int q_Person, D.int q_Device, D.int q_Program, D.int q_Action, D.int q_Object, D.int q_Now]] = some [D.bool (IsRequest (⟨q_Person, q_Device, q_Program, q_Action, q_Object, q_Now⟩ : Request))] := sIsRequest_ok (⟨q_Person, q_Device, q_Program, q_Action, q_Object, q_Now⟩ : Request)
def IsValidKey (k : Int) : Bool := InRange k 1 2147483646
@[simp] theorem iIsValidKey_ok (k : Int) : iIsValidKey.t [D.int k] = some [D.bool (IsValidKey k)] := by
  simp [iIsValidKey.t, iIsValidKey.b, IsValidKey]
@[simp] theorem sIsValidKey_ok (k : Int) : sIsValidKey.t [D.int k] = some [D.bool (IsValidKey k)] := by
  simp [sIsValidKey.t, sIsValidKey.b, IsValidKey]
def IsCert (x : Cert) : Bool := InRange x.Serial 1 9999 && (IsName x.Subject && (IsValidKey x.Key && (IsTime x.From && (IsTime x.Until && InRange (w64 (x.Until - x.From)) 0 50))))
theorem iIsCert_ok (x : Cert) : iIsCert.t [D.st (row x)] = some [D.bool (IsCert x)] := by
  simp [iIsCert.t, iIsCert.b, IsCert]
@[simp] theorem iIsCert_ok' (x_Serial : Int) (x_Subject : Int) (x_Key : Int) (x_From : Int) (x_Until : Int) (x_Mark : Int) : iIsCert.t [D.st [D.int x_Serial, D.int x_Subject, D.int x_Key, D.int x_From, D.int x_Until, D.int x_Mark]] = some [D.bool (IsCert (⟨x_Serial, x_Subject, x_Key, x_From, x_Until, x_Mark⟩ : Cert))] := iIsCert_ok (⟨x_Serial, x_Subject, x_Key, x_From, x_Until, x_Mark⟩ : Cert)
theorem sIsCert_ok (x : Cert) : sIsCert.t [D.st (row x)] = some [D.bool (IsCert x)] := by
  simp [sIsCert.t, sIsCert.b, IsCert]
  cases h1 : IsTime x.From <;> cases h2 : IsTime x.Until <;> simp
  simp only [IsTime, InRange_iff] at h1 h2
  rw [w64_in (by omega)]
  have : leI x.From x.Until = leI 0 (x.Until - x.From) := by
    rw [Bool.eq_iff_iff, leI_iff, leI_iff]; omega
  simp [InRange, this]
@[simp] theorem sIsCert_ok' (x_Serial : Int) (x_Subject : Int) (x_Key : Int) (x_From : Int) (x_Until : Int) (x_Mark : Int) : sIsCert.t [D.st [D.int x_Serial, D.int x_Subject, D.int x_Key, D.int x_From, D.int x_Until, D.int x_Mark]] = some [D.bool (IsCert (⟨x_Serial, x_Subject, x_Key, x_From, x_Until, x_Mark⟩ : Cert))] := sIsCert_ok (⟨x_Serial, x_Subject, x_Key, x_From, x_Until, x_Mark⟩ : Cert)
def IsWithin (a b n : Int) : Bool := IsTime a && (IsTime b && (IsTime n && InRange n a b))
@[simp] theorem iIsWithin_ok (a : Int) (b : Int) (n : Int) : iIsWithin.t [D.int a, D.int b, D.int n] = some [D.bool (IsWithin a b n)] := by
  simp [iIsWithin.t, iIsWithin.b, IsWithin]
@[simp] theorem sIsWithin_ok (a : Int) (b : Int) (n : Int) : sIsWithin.t [D.int a, D.int b, D.int n] = some [D.bool (IsWithin a b n)] := by
  simp [sIsWithin.t, sIsWithin.b, IsWithin, InRange]
end Acc
end
section
/- Hashes, certificates, revocation. -/
namespace Acc
open Go Go.Ev
def Mod (p q : Int) : Int := bif InRange q 1 1000000000000 then (w64 (p.tmod q + q)).tmod q else 0
@[simp] theorem iMod_ok (p : Int) (q : Int) : iMod.t [D.int p, D.int q] = some [D.int (Mod p q)] := by
  simp [iMod.t, iMod.b, Mod]
  cases h : InRange q 1 1000000000000 <;> simp
  rw [InRange_iff] at h
  have : eqI q 0 = false := by simp [eqI]; omega
  simp [this]
@[simp] theorem sMod_ok (p : Int) (q : Int) : sMod.t [D.int p, D.int q] = some [D.int (Mod p q)] := by
  simp [sMod.t, sMod.b, Mod]
  cases h : InRange q 1 1000000000000 <;> simp
  rw [InRange_iff] at h
  have : eqI q 0 = false := by simp [eqI]; omega
  simp [this]
def hashStep (d v : Int) : Int := (w64 (w64 (w64 (d * 1000003) + Mod v 2147483647) + 13)).tmod 2147483647
def Hash (l : List Int) : Int := l.foldl hashStep 11
@[simp] theorem sHash_ok (l : List Int) (h_l : l.length ≤ 4294967296 ∧ True) : sHash.t [D.rows (List.map row l)] = some [D.int (Hash l)] := by
  have key := iter_list (f := sHash.l1) l (fun k (d : Int) => [D.int d, D.int (k : Int), D.rows (List.map row l)]) (fun k (d : Int) => True) (fun k x (d : Int) => .inl (hashStep d x)) (fun (d : Int) => .inl [D.int d])
    (fun k x d hx hI => by
      have hk : k < l.length := (List.getElem?_eq_some_iff.1 hx).1
      have hxl := List.mem_of_getElem? hx
      refine ⟨?_, fun _ _ => trivial⟩
      simp [sHash.l1, cell_map hx, lt_k hk, w64_k hk (by have := h_l.1; omega), row_int, hashStep])
    (fun d hI => by simp [sHash.l1]) 11 trivial
  simp only [sHash.t, sHash.b, res_zero, res_succ, r_rows, i_int, b_bool, s_str, f_st, List.length_map]
  refine (loop_some key).trans ?_
  rw [goList_fold]; rfl
@[simp] theorem iHash_ok (l : List Int) (h_l : l.length ≤ 4294967296 ∧ True) : iHash.t [D.rows (List.map row l)] = some [D.int (Hash l)] := by
  have key := iter_list (f := iHash.l1) l (fun k (d : Int) => [D.int d, D.int (l.length : Int), D.int (k : Int), D.rows (List.map row l)]) (fun k (d : Int) => True) (fun k x (d : Int) => .inl (hashStep d x)) (fun (d : Int) => .inl [D.int d])
    (fun k x d hx hI => by
      have hk : k < l.length := (List.getElem?_eq_some_iff.1 hx).1
      have hxl := List.mem_of_getElem? hx
      refine ⟨?_, fun _ _ => trivial⟩
      simp [iHash.l1, cell_map hx, lt_k hk, w64_k hk (by have := h_l.1; omega), row_int, hashStep])
    (fun d hI => by simp [iHash.l1]) 11 trivial
  simp only [iHash.t, iHash.b, res_zero, res_succ, r_rows, i_int, b_bool, s_str, f_st, List.length_map]
  refine (loop_some key).trans ?_
  rw [goList_fold]; rfl
/-- the library's Concat at three lists -/
theorem Grow_ok (n : Int) (h0 : 0 ≤ n) (h1 : n ≤ 4294967296) : Grow_int.t [D.rows [], D.int n] = some [D.rows []] := by
  have h : ltI n 0 = false := by simp [ltI]; omega
  have hw : w64 (n - 0) = n := by rw [w64_in (by omega)]; omega
  simp [Grow_int.t, Grow_int.b, h]
  rw [show w64 n = n from w64_in (by omega)]
  have h2 : leI 0 n = true := by simp [leI, h0]
  have h3 : leI n 4294967296 = true := by simp [leI, h1]
  have h4 : leI 0 (max n 0) = true := by simp [leI]; omega
  simp [h2, h3, h4]
theorem Concat_ok (a b c : List (List D)) (h : a.length + b.length + c.length ≤ 4294967296) : Concat_int.t [D.rows [[D.rows a], [D.rows b], [D.rows c]]] = some [D.rows (a ++ b ++ c)] := by
  have w : ∀ n : Nat, n ≤ 4294967296 → w64 (n : Int) = n := fun n hn => w64_in (by omega)
  have nn : ∀ n : Nat, ltI (n : Int) 0 = false := fun n => by simp [ltI]
  have k1 : iter Concat_int.l1 [D.int 0, D.int 3, D.int 0, D.rows [[D.rows a], [D.rows b], [D.rows c]]] = some (.inl [D.int ((a.length + b.length + c.length : Nat) : Int), D.rows [[D.rows a], [D.rows b], [D.rows c]]]) := by
    rw [iter_step (s' := [D.int (a.length : Int), D.int 3, D.int 1, D.rows [[D.rows a], [D.rows b], [D.rows c]]])]
    rw [iter_step (s' := [D.int ((a.length + b.length : Nat) : Int), D.int 3, D.int 2, D.rows [[D.rows a], [D.rows b], [D.rows c]]])]
    rw [iter_step (s' := [D.int ((a.length + b.length + c.length : Nat) : Int), D.int 3, D.int 3, D.rows [[D.rows a], [D.rows b], [D.rows c]]])]
    · exact iter_inr (by simp [Concat_int.l1])
    · have := w (a.length + b.length + c.length) h
      have := nn (a.length + b.length + c.length)
      simp [Concat_int.l1, cell, show ltI 2 3 = true from rfl, show w64 (2 + 1) = 3 from rfl] at *
      simp [*]; rfl
    · have := w (a.length + b.length) (by omega)
      have := nn (a.length + b.length)
      simp [Concat_int.l1, cell, show ltI 1 3 = true from rfl, show w64 (1 + 1) = 2 from rfl] at *
      simp [*]; rfl
    · have := w a.length (by omega)
      have := nn a.length
      simp [Concat_int.l1, cell, show ltI 0 3 = true from rfl, show w64 1 = 1 from rfl] at *
      simp [*]
  have k2 : iter Concat_int.l2 [D.int 3, D.int 0, D.rows [], D.rows [[D.rows a], [D.rows b], [D.rows c]]] = some (.inl [D.rows (a ++ b ++ c)]) := by
    rw [iter_step (s' := [D.int 3, D.int 1, D.rows a, D.rows [[D.rows a], [D.rows b], [D.rows c]]])]
    rw [iter_step (s' := [D.int 3, D.int 2, D.rows (a ++ b), D.rows [[D.rows a], [D.rows b], [D.rows c]]])]
    rw [iter_step (s' := [D.int 3, D.int 3, D.rows (a ++ b ++ c), D.rows [[D.rows a], [D.rows b], [D.rows c]]])]
    · exact iter_inr (by simp [Concat_int.l2])
    · have : leN (a.length + (b.length + c.length)) 4294967296 = true := by simp [leN]; omega
      have : leN (a.length + b.length + c.length) 4294967296 = true := by simp [leN]; omega
      simp [Concat_int.l2, cell, show ltI 2 3 = true from rfl, show w64 (2 + 1) = 3 from rfl, *]; rfl
    · have : leN (a.length + b.length) 4294967296 = true := by simp [leN]; omega
      simp [Concat_int.l2, cell, show ltI 1 3 = true from rfl, show w64 (1 + 1) = 2 from rfl, *]; rfl
    · have : leN a.length 4294967296 = true := by simp [leN]; omega
      simp [Concat_int.l2, cell, show ltI 0 3 = true from rfl, show w64 1 = 1 from rfl, *]
  simp only [Concat_int.t, Concat_int.b, res_zero, r_rows]
  refine (loop_some k1).trans ?_
  simp only [Sum.elim_inl, arg_zero, arg_succ, i_int, r_rows]
  rw [Grow_ok _ (by omega) (by omega)]
  simp only [bind_some, res_zero, r_rows]
  exact (loop_some k2).trans rfl
def KeyedHash (k : Int) (l : List Int) : Int := Hash (k :: l ++ [k])
@[simp] theorem sKeyedHash_ok (k : Int) (l : List Int) (h_l : ok l) : sKeyedHash.t [D.int k, D.rows (List.map row l)] = some [D.int (KeyedHash k l)] := by
  have hl : l.length ≤ 16777216 := h_l.1
  have h1 : leN (1 + l.length) 4294967296 = true := by simp [leN]; omega
  have h3 : leN (1 + l.length + 1) 4294967296 = true := by simp [leN]; omega
  have h4 : leN (l.length + 1 + 1) 4294967296 = true := by simp [leN]; omega
  have e : ([[D.int k]] ++ List.map row l) ++ [[D.int k]] = List.map row (k :: l ++ [k]) := by simp [row_int]
  simp only [sKeyedHash.t, sKeyedHash.b, res_zero, res_succ, r_rows, i_int, e]
  rw [sHash_ok _ ⟨by simp; omega, trivial⟩]
  simp [h1, h3, h4, KeyedHash]
@[simp] theorem iKeyedHash_ok (k : Int) (l : List Int) (h_l : ok l) : iKeyedHash.t [D.int k, D.rows (List.map row l)] = some [D.int (KeyedHash k l)] := by
  have hl : l.length ≤ 16777216 := h_l.1
  have e : ([[D.int k]] ++ List.map row l) ++ [[D.int k]] = List.map row (k :: l ++ [k]) := by simp [row_int]
  simp only [iKeyedHash.t, iKeyedHash.b, res_zero, res_succ, r_rows, i_int]
  rw [Concat_ok _ _ _ (by simp; omega), e]
  simp only [bind_some, res_zero, r_rows]
  rw [iHash_ok _ ⟨by simp; omega, trivial⟩]
  simp [KeyedHash]
def MarkCert (s : Int) (x : Cert) : Cert := { x with Mark := KeyedHash s [x.Serial, x.Subject, x.Key, x.From, x.Until] }
theorem iMarkCert_ok (s : Int) (x : Cert) : iMarkCert.t [D.int s, D.st (row x)] = some [D.st (row (MarkCert s x))] := by
  have h := iKeyedHash_ok s [x.Serial, x.Subject, x.Key, x.From, x.Until] (by simp [bd_list])
  simp [row_int] at h
  simp [iMarkCert.t, iMarkCert.b, MarkCert, h]
@[simp] theorem iMarkCert_ok' (s : Int) (x_Serial : Int) (x_Subject : Int) (x_Key : Int) (x_From : Int) (x_Until : Int) (x_Mark : Int) : iMarkCert.t [D.int s, D.st [D.int x_Serial, D.int x_Subject, D.int x_Key, D.int x_From, D.int x_Until, D.int x_Mark]] = some [D.st (row (MarkCert s (⟨x_Serial, x_Subject, x_Key, x_From, x_Until, x_Mark⟩ : Cert)))] := iMarkCert_ok s (⟨x_Serial, x_Subject, x_Key, x_From, x_Until, x_Mark⟩ : Cert)
theorem sMarkCert_ok (s : Int) (x : Cert) : sMarkCert.t [D.int s, D.st (row x)] = some [D.st (row (MarkCert s x))] := by
  have h := sKeyedHash_ok s [x.Serial, x.Subject, x.Key, x.From, x.Until] (by simp [bd_list])
  simp [row_int] at h
  simp [sMarkCert.t, sMarkCert.b, MarkCert, h]
@[simp] theorem sMarkCert_ok' (s : Int) (x_Serial : Int) (x_Subject : Int) (x_Key : Int) (x_From : Int) (x_Until : Int) (x_Mark : Int) : sMarkCert.t [D.int s, D.st [D.int x_Serial, D.int x_Subject, D.int x_Key, D.int x_From, D.int x_Until, D.int x_Mark]] = some [D.st (row (MarkCert s (⟨x_Serial, x_Subject, x_Key, x_From, x_Until, x_Mark⟩ : Cert)))] := sMarkCert_ok s (⟨x_Serial, x_Subject, x_Key, x_From, x_Until, x_Mark⟩ : Cert)
def CheckCert (s : Int) (x : Cert) (now : Int) : Bool := IsCert x && (IsWithin x.From x.Until now && decide (MarkCert s x = x))
theorem cert_eq (x y : Cert) : ((x.Serial == y.Serial) && ((x.Subject == y.Subject) && ((x.Key == y.Key) && ((x.From == y.From) && ((x.Until == y.Until) && ((x.Mark == y.Mark) && true)))))) = decide (x = y) := by
  rw [Bool.eq_iff_iff]; cases x; cases y; simp
theorem iCheckCert_ok (s : Int) (x : Cert) (now : Int) : iCheckCert.t [D.int s, D.st (row x), D.int now] = some [D.bool (CheckCert s x now)] := by
  have := cert_eq (MarkCert s x) x
  simp at this
  simp [iCheckCert.t, iCheckCert.b, CheckCert, ← this]
@[simp] theorem iCheckCert_ok' (s : Int) (x_Serial : Int) (x_Subject : Int) (x_Key : Int) (x_From : Int) (x_Until : Int) (x_Mark : Int) (now : Int) : iCheckCert.t [D.int s, D.st [D.int x_Serial, D.int x_Subject, D.int x_Key, D.int x_From, D.int x_Until, D.int x_Mark], D.int now] = some [D.bool (CheckCert s (⟨x_Serial, x_Subject, x_Key, x_From, x_Until, x_Mark⟩ : Cert) now)] := iCheckCert_ok s (⟨x_Serial, x_Subject, x_Key, x_From, x_Until, x_Mark⟩ : Cert) now
theorem sCheckCert_ok (s : Int) (x : Cert) (now : Int) : sCheckCert.t [D.int s, D.st (row x), D.int now] = some [D.bool (CheckCert s x now)] := by
  have := cert_eq (MarkCert s x) x
  simp at this
  simp [sCheckCert.t, sCheckCert.b, CheckCert, ← this]
@[simp] theorem sCheckCert_ok' (s : Int) (x_Serial : Int) (x_Subject : Int) (x_Key : Int) (x_From : Int) (x_Until : Int) (x_Mark : Int) (now : Int) : sCheckCert.t [D.int s, D.st [D.int x_Serial, D.int x_Subject, D.int x_Key, D.int x_From, D.int x_Until, D.int x_Mark], D.int now] = some [D.bool (CheckCert s (⟨x_Serial, x_Subject, x_Key, x_From, x_Until, x_Mark⟩ : Cert) now)] := sCheckCert_ok s (⟨x_Serial, x_Subject, x_Key, x_From, x_Until, x_Mark⟩ : Cert) now
def AgeOf (a n : Int) : Int := bif IsTime a && (IsTime n && !ltI n a) then w64 (n - a) else -1
@[simp] theorem iAgeOf_ok (a : Int) (n : Int) : iAgeOf.t [D.int a, D.int n] = some [D.int (AgeOf a n)] := by
  simp [iAgeOf.t, iAgeOf.b, AgeOf]
  cases IsTime a <;> cases IsTime n <;> cases ltI n a <;> rfl
@[simp] theorem sAgeOf_ok (a : Int) (n : Int) : sAgeOf.t [D.int a, D.int n] = some [D.int (AgeOf a n)] := by
  simp [sAgeOf.t, sAgeOf.b, AgeOf]
  cases IsTime a <;> cases IsTime n <;> cases ltI n a <;> rfl
theorem AgeOf_cases (a n : Int) : AgeOf a n = -1 ∨ 0 ≤ AgeOf a n ∧ AgeOf a n = n - a ∧ IsTime a = true ∧ IsTime n = true := by
  unfold AgeOf
  cases h1 : IsTime a <;> cases h2 : IsTime n <;> simp
  cases h3 : ltI n a <;> simp
  simp only [IsTime, InRange_iff] at h1 h2
  have h3 : ¬ n < a := by intro h; rw [← ltI_iff] at h; rw [h] at h3; cases h3
  rw [w64_in (by omega)]
  right; omega
def IsFresh (a n m : Int) : Bool := !(AgeOf a n == -1) && leI (AgeOf a n) m
@[simp] theorem iIsFresh_ok (a : Int) (n : Int) (m : Int) : iIsFresh.t [D.int a, D.int n, D.int m] = some [D.bool (IsFresh a n m)] := by
  simp [iIsFresh.t, iIsFresh.b, IsFresh, bne]
@[simp] theorem sIsFresh_ok (a : Int) (n : Int) (m : Int) : sIsFresh.t [D.int a, D.int n, D.int m] = some [D.bool (IsFresh a n m)] := by
  simp [sIsFresh.t, sIsFresh.b, IsFresh]
  rcases AgeOf_cases a n with h | ⟨h, _⟩
  · simp [h, show leI 0 (-1) = false from rfl]
  · have h1 : leI 0 (AgeOf a n) = true := by simp [leI, h]
    have h2 : (AgeOf a n == -1) = false := by simp; omega
    simp [h1, h2]
def IsCurrent (p : Point) (now : Int) : Bool := IsFresh p.SyncedAt now 10
theorem iIsCurrent_ok (p : Point) (now : Int) : iIsCurrent.t [D.st (row p), D.int now] = some [D.bool (IsCurrent p now)] := by
  simp [iIsCurrent.t, iIsCurrent.b, IsCurrent]
@[simp] theorem iIsCurrent_ok' (p_Id : Int) (p_EpochNumber : Int) (p_EpochAt : Int) (p_EpochPairs : List Includes) (p_EpochPolicyVersion : Int) (p_EpochPolicyRules : List Rule) (p_Store : List Fact) (p_Revoked : List Revoked) (p_SyncedAt : Int) (p_Saved : List Saved) (now : Int) : iIsCurrent.t [D.st [D.int p_Id, D.int p_EpochNumber, D.int p_EpochAt, D.rows (List.map row p_EpochPairs), D.int p_EpochPolicyVersion, D.rows (List.map row p_EpochPolicyRules), D.rows (List.map row p_Store), D.rows (List.map row p_Revoked), D.int p_SyncedAt, D.rows (List.map row p_Saved)], D.int now] = some [D.bool (IsCurrent (⟨p_Id, ⟨p_EpochNumber, p_EpochAt, p_EpochPairs, ⟨p_EpochPolicyVersion, p_EpochPolicyRules⟩⟩, p_Store, p_Revoked, p_SyncedAt, p_Saved⟩ : Point) now)] := iIsCurrent_ok (⟨p_Id, ⟨p_EpochNumber, p_EpochAt, p_EpochPairs, ⟨p_EpochPolicyVersion, p_EpochPolicyRules⟩⟩, p_Store, p_Revoked, p_SyncedAt, p_Saved⟩ : Point) now
theorem sIsCurrent_ok (p : Point) (now : Int) : sIsCurrent.t [D.st (row p), D.int now] = some [D.bool (IsCurrent p now)] := by
  simp [sIsCurrent.t, sIsCurrent.b, IsCurrent]
@[simp] theorem sIsCurrent_ok' (p_Id : Int) (p_EpochNumber : Int) (p_EpochAt : Int) (p_EpochPairs : List Includes) (p_EpochPolicyVersion : Int) (p_EpochPolicyRules : List Rule) (p_Store : List Fact) (p_Revoked : List Revoked) (p_SyncedAt : Int) (p_Saved : List Saved) (now : Int) : sIsCurrent.t [D.st [D.int p_Id, D.int p_EpochNumber, D.int p_EpochAt, D.rows (List.map row p_EpochPairs), D.int p_EpochPolicyVersion, D.rows (List.map row p_EpochPolicyRules), D.rows (List.map row p_Store), D.rows (List.map row p_Revoked), D.int p_SyncedAt, D.rows (List.map row p_Saved)], D.int now] = some [D.bool (IsCurrent (⟨p_Id, ⟨p_EpochNumber, p_EpochAt, p_EpochPairs, ⟨p_EpochPolicyVersion, p_EpochPolicyRules⟩⟩, p_Store, p_Revoked, p_SyncedAt, p_Saved⟩ : Point) now)] := sIsCurrent_ok (⟨p_Id, ⟨p_EpochNumber, p_EpochAt, p_EpochPairs, ⟨p_EpochPolicyVersion, p_EpochPolicyRules⟩⟩, p_Store, p_Revoked, p_SyncedAt, p_Saved⟩ : Point) now
def AtTime (q : Request) (now : Int) : Request := { q with Now := now }
theorem iAtTime_ok (q : Request) (now : Int) : iAtTime.t [D.st (row q), D.int now] = some [D.st (row (AtTime q now))] := by
  simp [iAtTime.t, iAtTime.b, AtTime]
@[simp] theorem iAtTime_ok' (q_Person : Int) (q_Device : Int) (q_Program : Int) (q_Action : Int) (q_Object : Int) (q_Now : Int) (now : Int) : iAtTime.t [D.st [D.int q_Person, D.int q_Device, D.int q_Program, D.int q_Action, D.int q_Object, D.int q_Now], D.int now] = some [D.st (row (AtTime (⟨q_Person, q_Device, q_Program, q_Action, q_Object, q_Now⟩ : Request) now))] := iAtTime_ok (⟨q_Person, q_Device, q_Program, q_Action, q_Object, q_Now⟩ : Request) now
theorem sAtTime_ok (q : Request) (now : Int) : sAtTime.t [D.st (row q), D.int now] = some [D.st (row (AtTime q now))] := by
  simp [sAtTime.t, sAtTime.b, AtTime]
@[simp] theorem sAtTime_ok' (q_Person : Int) (q_Device : Int) (q_Program : Int) (q_Action : Int) (q_Object : Int) (q_Now : Int) (now : Int) : sAtTime.t [D.st [D.int q_Person, D.int q_Device, D.int q_Program, D.int q_Action, D.int q_Object, D.int q_Now], D.int now] = some [D.st (row (AtTime (⟨q_Person, q_Device, q_Program, q_Action, q_Object, q_Now⟩ : Request) now))] := sAtTime_ok (⟨q_Person, q_Device, q_Program, q_Action, q_Object, q_Now⟩ : Request) now
def SameQuestion (a b : Request) : Bool := a.Person == b.Person && (a.Device == b.Device && (a.Program == b.Program && (a.Action == b.Action && a.Object == b.Object)))
theorem req_eq (x y : Request) : ((x.Person == y.Person) && ((x.Device == y.Device) && ((x.Program == y.Program) && ((x.Action == y.Action) && ((x.Object == y.Object) && ((x.Now == y.Now) && true)))))) = decide (x = y) := by
  rw [Bool.eq_iff_iff]; cases x; cases y; simp
theorem iSameQuestion_ok (a : Request) (b : Request) : iSameQuestion.t [D.st (row a), D.st (row b)] = some [D.bool (SameQuestion a b)] := by
  simp [iSameQuestion.t, iSameQuestion.b, SameQuestion, AtTime]
@[simp] theorem iSameQuestion_ok' (a_Person : Int) (a_Device : Int) (a_Program : Int) (a_Action : Int) (a_Object : Int) (a_Now : Int) (b_Person : Int) (b_Device : Int) (b_Program : Int) (b_Action : Int) (b_Object : Int) (b_Now : Int) : iSameQuestion.t [D.st [D.int a_Person, D.int a_Device, D.int a_Program, D.int a_Action, D.int a_Object, D.int a_Now], D.st [D.int b_Person, D.int b_Device, D.int b_Program, D.int b_Action, D.int b_Object, D.int b_Now]] = some [D.bool (SameQuestion (⟨a_Person, a_Device, a_Program, a_Action, a_Object, a_Now⟩ : Request) (⟨b_Person, b_Device, b_Program, b_Action, b_Object, b_Now⟩ : Request))] := iSameQuestion_ok (⟨a_Person, a_Device, a_Program, a_Action, a_Object, a_Now⟩ : Request) (⟨b_Person, b_Device, b_Program, b_Action, b_Object, b_Now⟩ : Request)
theorem sSameQuestion_ok (a : Request) (b : Request) : sSameQuestion.t [D.st (row a), D.st (row b)] = some [D.bool (SameQuestion a b)] := by
  simp [sSameQuestion.t, sSameQuestion.b, SameQuestion, AtTime]
@[simp] theorem sSameQuestion_ok' (a_Person : Int) (a_Device : Int) (a_Program : Int) (a_Action : Int) (a_Object : Int) (a_Now : Int) (b_Person : Int) (b_Device : Int) (b_Program : Int) (b_Action : Int) (b_Object : Int) (b_Now : Int) : sSameQuestion.t [D.st [D.int a_Person, D.int a_Device, D.int a_Program, D.int a_Action, D.int a_Object, D.int a_Now], D.st [D.int b_Person, D.int b_Device, D.int b_Program, D.int b_Action, D.int b_Object, D.int b_Now]] = some [D.bool (SameQuestion (⟨a_Person, a_Device, a_Program, a_Action, a_Object, a_Now⟩ : Request) (⟨b_Person, b_Device, b_Program, b_Action, b_Object, b_Now⟩ : Request))] := sSameQuestion_ok (⟨a_Person, a_Device, a_Program, a_Action, a_Object, a_Now⟩ : Request) (⟨b_Person, b_Device, b_Program, b_Action, b_Object, b_Now⟩ : Request)
/-! revocation -/
def RevokedAt (l : List Revoked) (s : Int) : Int := match l.find? (fun x => x.Serial == s) with | some x => x.At | none => -1
theorem at_inb {α : Type} {l : List α} {i : Nat} {x : α} (h : l[i]? = some x) : ltI (i : Int) (l.length : Int) = true := lt_k (List.getElem?_eq_some_iff.1 h).1
@[simp] theorem lt_neg (n : Nat) : ltI (n : Int) 0 = false := by simp [ltI]
@[simp] theorem lt_m1 : ltI (-1) 0 = true := rfl
theorem IndexFunc_Revoked_ok (G : GF) (f : D) (p : Revoked → Bool) (l : List Revoked) (hl : l.length ≤ 16777216) (hp : ∀ x ∈ l, G f.i ([D.st (row x)] ++ f.r.map D.st) = some [D.bool (p x)]) :
    IndexFunc_Revoked.t G [D.rows (List.map row l), f] = some [D.int (idxOf p l)] := by
  have key := iter_list (f := IndexFunc_Revoked.l1 G) l (fun k (_ : Unit) => [f, D.int (l.length : Int), D.int (k : Int), D.rows (List.map row l)]) (fun _ _ => True)
    (fun k x _ => bif p x then .inr (.inr [D.int (k : Int)]) else .inl ()) (fun _ => .inl [])
    (fun k x s hx _ => by
      have hk : k < l.length := (List.getElem?_eq_some_iff.1 hx).1
      have hpx := hp x (List.mem_of_getElem? hx)
      simp at hpx
      refine ⟨?_, fun _ _ => trivial⟩
      simp [IndexFunc_Revoked.l1, cell_map hx, lt_k hk, w64_k hk (by omega), hpx]
      cases p x <;> rfl)
    (fun s _ => by simp [IndexFunc_Revoked.l1]) () trivial
  simp only [IndexFunc_Revoked.t, IndexFunc_Revoked.b, res_zero, res_succ, r_rows, List.length_map]
  refine (loop_some key).trans ?_
  rw [idx_go]
  rcases idxOf_cases p l with ⟨h1, h2, _⟩ | ⟨i, x, h1, h2, _⟩
  · simp [h1, h2]
  · simp only [h1, cond_true, Sum.elim_inr]; rfl
@[simp] theorem sRevokedAt_ok (l : List Revoked) (s : Int) (h_l : ok l) : sRevokedAt.t [D.rows (List.map row l), D.int s] = some [D.int (RevokedAt l s)] := by
  have key := iter_list (f := sRevokedAt.l1) l (fun k (_u : Unit) => [D.int s, D.int (k : Int), D.rows (List.map row l)]) (fun k (_u : Unit) => True) (fun k x (_u : Unit) => bif x.Serial == s then .inr (.inr [D.int x.At]) else .inl ()) (fun (_u : Unit) => .inl [])
    (fun k x _u hx hI => by
      have hk : k < l.length := (List.getElem?_eq_some_iff.1 hx).1
      have hxl := List.mem_of_getElem? hx
      refine ⟨?_, fun _ _ => trivial⟩
      simp [sRevokedAt.l1, cell_map hx, lt_k hk, w64_k hk (by have := h_l.1; omega)]
      cases x.Serial == s <;> rfl)
    (fun _u hI => by simp [sRevokedAt.l1]) () trivial
  simp only [sRevokedAt.t, sRevokedAt.b, res_zero, res_succ, r_rows, i_int, b_bool, s_str, f_st, List.length_map]
  refine (loop_some key).trans ?_
  rw [find_go]
  unfold RevokedAt
  cases l.find? (fun x => x.Serial == s) <;> rfl
@[simp] theorem iRevokedAt_ok (l : List Revoked) (s : Int) (h_l : ok l) : iRevokedAt.t [D.rows (List.map row l), D.int s] = some [D.int (RevokedAt l s)] := by
  have key := IndexFunc_Revoked_ok (gf [(iRevokedAt_c1.n, iRevokedAt_c1.t)]) (D.mk (iRevokedAt_c1.n : Int) false ⟨#[]⟩ [[D.int s]]) (fun x => x.Serial == s) l h_l.1 (by
    intro x _
    show gf _ (iRevokedAt_c1.n : Int) _ = _
    rw [gf_one]; simp [iRevokedAt_c1.t, iRevokedAt_c1.b, D.r])
  simp only [iRevokedAt.t, iRevokedAt.b, res_zero, res_succ, r_rows, i_int, key, bind_some]
  unfold RevokedAt
  rcases idxOf_cases (fun x : Revoked => x.Serial == s) l with ⟨_, h1, h2⟩ | ⟨i, x, _, h1, h2, _, h3⟩
  · simp [h1, h2]
  · simp [h1, h3, at_inb h2, cell_map h2]
def IsRevoked (l : List Revoked) (s now : Int) : Bool := InRange (RevokedAt l s) 0 now
@[simp] theorem iIsRevoked_ok (l : List Revoked) (s : Int) (now : Int) (h_l : ok l) : iIsRevoked.t [D.rows (List.map row l), D.int s, D.int now] = some [D.bool (IsRevoked l s now)] := by
  simp [iIsRevoked.t, iIsRevoked.b, IsRevoked, h_l]
@[simp] theorem sIsRevoked_ok (l : List Revoked) (s : Int) (now : Int) (h_l : ok l) : sIsRevoked.t [D.rows (List.map row l), D.int s, D.int now] = some [D.bool (IsRevoked l s now)] := by
  simp [sIsRevoked.t, sIsRevoked.b, IsRevoked, InRange, h_l]
end Acc
end
section
/- Facts, saved decisions. -/
namespace Acc
open Go Go.Ev
def savedFits (q : Request) (x : Saved) : Bool := SameQuestion x.Ask q && (leI x.Ask.Now q.Now && leI q.Now x.Until)
def FindSaved (l : List Saved) (q : Request) : Int := idxOf (savedFits q) l
theorem IndexFunc_Saved_ok (G : GF) (f : D) (p : Saved → Bool) (l : List Saved) (hl : l.length ≤ 16777216) (hp : ∀ x ∈ l, G f.i ([D.st (row x)] ++ f.r.map D.st) = some [D.bool (p x)]) :
    IndexFunc_Saved.t G [D.rows (List.map row l), f] = some [D.int (idxOf p l)] := by
  have key := iter_list (f := IndexFunc_Saved.l1 G) l (fun k (_ : Unit) => [f, D.int (l.length : Int), D.int (k : Int), D.rows (List.map row l)]) (fun _ _ => True)
    (fun k x _ => bif p x then .inr (.inr [D.int (k : Int)]) else .inl ()) (fun _ => .inl [])
    (fun k x s hx _ => by
      have hk : k < l.length := (List.getElem?_eq_some_iff.1 hx).1
      have hpx := hp x (List.mem_of_getElem? hx)
      simp at hpx
      refine ⟨?_, fun _ _ => trivial⟩
      simp [IndexFunc_Saved.l1, cell_map hx, lt_k hk, w64_k hk (by omega), hpx]
      cases p x <;> rfl)
    (fun s _ => by simp [IndexFunc_Saved.l1]) () trivial
  simp only [IndexFunc_Saved.t, IndexFunc_Saved.b, res_zero, res_succ, r_rows, List.length_map]
  refine (loop_some key).trans ?_
  rw [idx_go]
  rcases idxOf_cases p l with ⟨h1, h2, _⟩ | ⟨i, x, h1, h2, _⟩
  · simp [h1, h2]
  · simp only [h1, cond_true, Sum.elim_inr]; rfl
theorem sFindSaved_ok (l : List Saved) (q : Request) (h_l : ok l) : sFindSaved.t [D.rows (List.map row l), D.st (row q)] = some [D.int (FindSaved l q)] := by
  have key := iter_list (f := sFindSaved.l1) l (fun k (_u : Unit) => [D.int (k : Int), D.rows (List.map row l), D.int q.Person, D.int q.Device, D.int q.Program, D.int q.Action, D.int q.Object, D.int q.Now]) (fun k (_u : Unit) => True) (fun k x (_u : Unit) => bif savedFits q x then .inr (.inr [D.int (k : Int)]) else .inl ()) (fun (_u : Unit) => .inl [])
    (fun k x _u hx hI => by
      have hk : k < l.length := (List.getElem?_eq_some_iff.1 hx).1
      have hxl := List.mem_of_getElem? hx
      refine ⟨?_, fun _ _ => trivial⟩
      simp [sFindSaved.l1, cell_map hx, lt_k hk, w64_k hk (by have := h_l.1; omega), savedFits]
      cases SameQuestion x.Ask q <;> cases leI x.Ask.Now q.Now <;> cases leI q.Now x.Until <;> rfl)
    (fun _u hI => by simp [sFindSaved.l1]) () trivial
  simp only [sFindSaved.t, sFindSaved.b, res_zero, res_succ, r_rows, i_int, b_bool, s_str, f_st, List.length_map, row_Request]
  refine (loop_some key).trans ?_
  rw [idx_go]
  unfold FindSaved
  rcases idxOf_cases (savedFits q) l with ⟨h1, h2, _⟩ | ⟨i, x, h1, h2, _⟩
  · simp [h1, h2]
  · simp only [h1, cond_true, Sum.elim_inr]; rfl
@[simp] theorem sFindSaved_ok' (l : List Saved) (q_Person : Int) (q_Device : Int) (q_Program : Int) (q_Action : Int) (q_Object : Int) (q_Now : Int) (h_l : ok l) : sFindSaved.t [D.rows (List.map row l), D.st [D.int q_Person, D.int q_Device, D.int q_Program, D.int q_Action, D.int q_Object, D.int q_Now]] = some [D.int (FindSaved l (⟨q_Person, q_Device, q_Program, q_Action, q_Object, q_Now⟩ : Request))] := sFindSaved_ok l (⟨q_Person, q_Device, q_Program, q_Action, q_Object, q_Now⟩ : Request) h_l
theorem iFindSaved_ok (l : List Saved) (q : Request) (h_l : ok l) : iFindSaved.t [D.rows (List.map row l), D.st (row q)] = some [D.int (FindSaved l q)] := by
  have key := IndexFunc_Saved_ok (gf [(iFindSaved_c1.n, iFindSaved_c1.t)]) (D.mk (iFindSaved_c1.n : Int) false ⟨#[]⟩ [row q]) (savedFits q) l h_l.1 (by
    intro x _
    show gf _ (iFindSaved_c1.n : Int) _ = _
    rw [gf_one]; simp [iFindSaved_c1.t, iFindSaved_c1.b, D.r, savedFits])
  simp at key
  simp [iFindSaved.t, iFindSaved.b, key, FindSaved]
@[simp] theorem iFindSaved_ok' (l : List Saved) (q_Person : Int) (q_Device : Int) (q_Program : Int) (q_Action : Int) (q_Object : Int) (q_Now : Int) (h_l : ok l) : iFindSaved.t [D.rows (List.map row l), D.st [D.int q_Person, D.int q_Device, D.int q_Program, D.int q_Action, D.int q_Object, D.int q_Now]] = some [D.int (FindSaved l (⟨q_Person, q_Device, q_Program, q_Action, q_Object, q_Now⟩ : Request))] := iFindSaved_ok l (⟨q_Person, q_Device, q_Program, q_Action, q_Object, q_Now⟩ : Request) h_l
def isClaim (f : Fact) : Bool :=
  bif f.Kind == 1 then HasKind f.Subject 1 && InRange f.Value 0 5 else bif f.Kind == 2 then HasKind f.Subject 1 && HasKind f.Value 2 else
  bif f.Kind == 3 then HasKind f.Subject 2 && InRange f.Value 0 3 else bif f.Kind == 4 then HasKind f.Subject 3 && InRange f.Value 0 3 else false
theorem iisClaim_ok (f : Fact) : iisClaim.t [D.st (row f)] = some [D.bool (isClaim f)] := by
  simp [iisClaim.t, iisClaim.b, isClaim]
@[simp] theorem iisClaim_ok' (f_Kind : Int) (f_Subject : Int) (f_Value : Int) (f_Issuer : Int) (f_At : Int) (f_Until : Int) : iisClaim.t [D.st [D.int f_Kind, D.int f_Subject, D.int f_Value, D.int f_Issuer, D.int f_At, D.int f_Until]] = some [D.bool (isClaim (⟨f_Kind, f_Subject, f_Value, f_Issuer, f_At, f_Until⟩ : Fact))] := iisClaim_ok (⟨f_Kind, f_Subject, f_Value, f_Issuer, f_At, f_Until⟩ : Fact)
def IsFact (f : Fact) : Bool := isClaim f && (InRange f.Issuer 0 9 && (IsTime f.At && (IsTime f.Until && leI f.At f.Until)))
theorem iIsFact_ok (f : Fact) : iIsFact.t [D.st (row f)] = some [D.bool (IsFact f)] := by
  simp [iIsFact.t, iIsFact.b, IsFact]
@[simp] theorem iIsFact_ok' (f_Kind : Int) (f_Subject : Int) (f_Value : Int) (f_Issuer : Int) (f_At : Int) (f_Until : Int) : iIsFact.t [D.st [D.int f_Kind, D.int f_Subject, D.int f_Value, D.int f_Issuer, D.int f_At, D.int f_Until]] = some [D.bool (IsFact (⟨f_Kind, f_Subject, f_Value, f_Issuer, f_At, f_Until⟩ : Fact))] := iIsFact_ok (⟨f_Kind, f_Subject, f_Value, f_Issuer, f_At, f_Until⟩ : Fact)
theorem sIsFact_ok (f : Fact) : sIsFact.t [D.st (row f)] = some [D.bool (IsFact f)] := by
  simp [sIsFact.t, sIsFact.b, IsFact, isClaim]
  cases f.Kind == 1 <;> cases f.Kind == 2 <;> cases f.Kind == 3 <;> cases f.Kind == 4 <;> simp [Bool.and_assoc]
@[simp] theorem sIsFact_ok' (f_Kind : Int) (f_Subject : Int) (f_Value : Int) (f_Issuer : Int) (f_At : Int) (f_Until : Int) : sIsFact.t [D.st [D.int f_Kind, D.int f_Subject, D.int f_Value, D.int f_Issuer, D.int f_At, D.int f_Until]] = some [D.bool (IsFact (⟨f_Kind, f_Subject, f_Value, f_Issuer, f_At, f_Until⟩ : Fact))] := sIsFact_ok (⟨f_Kind, f_Subject, f_Value, f_Issuer, f_At, f_Until⟩ : Fact)
def HoldsAt (f : Fact) (now age : Int) : Bool := IsFact f && (IsWithin f.At f.Until now && leI (AgeOf f.At now) age)
theorem iHoldsAt_ok (f : Fact) (now : Int) (age : Int) : iHoldsAt.t [D.st (row f), D.int now, D.int age] = some [D.bool (HoldsAt f now age)] := by
  simp [iHoldsAt.t, iHoldsAt.b, HoldsAt]
@[simp] theorem iHoldsAt_ok' (f_Kind : Int) (f_Subject : Int) (f_Value : Int) (f_Issuer : Int) (f_At : Int) (f_Until : Int) (now : Int) (age : Int) : iHoldsAt.t [D.st [D.int f_Kind, D.int f_Subject, D.int f_Value, D.int f_Issuer, D.int f_At, D.int f_Until], D.int now, D.int age] = some [D.bool (HoldsAt (⟨f_Kind, f_Subject, f_Value, f_Issuer, f_At, f_Until⟩ : Fact) now age)] := iHoldsAt_ok (⟨f_Kind, f_Subject, f_Value, f_Issuer, f_At, f_Until⟩ : Fact) now age
theorem sHoldsAt_ok (f : Fact) (now : Int) (age : Int) : sHoldsAt.t [D.st (row f), D.int now, D.int age] = some [D.bool (HoldsAt f now age)] := by
  simp [sHoldsAt.t, sHoldsAt.b, HoldsAt]
  cases IsFact f <;> simp
  cases h : IsWithin f.At f.Until now <;> simp
  simp only [IsWithin, Bool.and_eq_true, InRange_iff, IsTime] at h
  rcases AgeOf_cases f.At now with h1 | ⟨h1, _⟩
  · exfalso
    unfold AgeOf at h1
    have e1 : IsTime f.At = true := by simp [IsTime, InRange_iff]; omega
    have e2 : IsTime now = true := by simp [IsTime, InRange_iff]; omega
    have e3 : ltI now f.At = false := by simp [ltI]; omega
    simp only [e1, e2, e3, Bool.not_false, Bool.and_self, cond_true] at h1
    rw [w64_in (by omega)] at h1; omega
  · have : (AgeOf f.At now == -1) = false := by simp; omega
    simp [IsFresh, this]
@[simp] theorem sHoldsAt_ok' (f_Kind : Int) (f_Subject : Int) (f_Value : Int) (f_Issuer : Int) (f_At : Int) (f_Until : Int) (now : Int) (age : Int) : sHoldsAt.t [D.st [D.int f_Kind, D.int f_Subject, D.int f_Value, D.int f_Issuer, D.int f_At, D.int f_Until], D.int now, D.int age] = some [D.bool (HoldsAt (⟨f_Kind, f_Subject, f_Value, f_Issuer, f_At, f_Until⟩ : Fact) now age)] := sHoldsAt_ok (⟨f_Kind, f_Subject, f_Value, f_Issuer, f_At, f_Until⟩ : Fact) now age
def factFits (kind subject value now age : Int) (f : Fact) : Bool := f.Kind == kind && (f.Subject == subject && (f.Value == value && HoldsAt f now age))
def FindFact (s : List Fact) (kind subject value now age : Int) : Int := idxOf (factFits kind subject value now age) s
theorem IndexFunc_Fact_ok (G : GF) (f : D) (p : Fact → Bool) (l : List Fact) (hl : l.length ≤ 16777216) (hp : ∀ x ∈ l, G f.i ([D.st (row x)] ++ f.r.map D.st) = some [D.bool (p x)]) :
    IndexFunc_Fact.t G [D.rows (List.map row l), f] = some [D.int (idxOf p l)] := by
  have key := iter_list (f := IndexFunc_Fact.l1 G) l (fun k (_ : Unit) => [f, D.int (l.length : Int), D.int (k : Int), D.rows (List.map row l)]) (fun _ _ => True)
    (fun k x _ => bif p x then .inr (.inr [D.int (k : Int)]) else .inl ()) (fun _ => .inl [])
    (fun k x s hx _ => by
      have hk : k < l.length := (List.getElem?_eq_some_iff.1 hx).1
      have hpx := hp x (List.mem_of_getElem? hx)
      simp at hpx
      refine ⟨?_, fun _ _ => trivial⟩
      simp [IndexFunc_Fact.l1, cell_map hx, lt_k hk, w64_k hk (by omega), hpx]
      cases p x <;> rfl)
    (fun s _ => by simp [IndexFunc_Fact.l1]) () trivial
  simp only [IndexFunc_Fact.t, IndexFunc_Fact.b, res_zero, res_succ, r_rows, List.length_map]
  refine (loop_some key).trans ?_
  rw [idx_go]
  rcases idxOf_cases p l with ⟨h1, h2, _⟩ | ⟨i, x, h1, h2, _⟩
  · simp [h1, h2]
  · simp only [h1, cond_true, Sum.elim_inr]; rfl
@[simp] theorem sFindFact_ok (s : List Fact) (kind : Int) (subject : Int) (value : Int) (now : Int) (age : Int) (h_s : ok s) : sFindFact.t [D.rows (List.map row s), D.int kind, D.int subject, D.int value, D.int now, D.int age] = some [D.int (FindFact s kind subject value now age)] := by
  have key := iter_list (f := sFindFact.l1) s (fun k (_u : Unit) => [D.int kind, D.int subject, D.int value, D.int now, D.int age, D.int (k : Int), D.rows (List.map row s)]) (fun k (_u : Unit) => True) (fun k x (_u : Unit) => bif factFits kind subject value now age x then .inr (.inr [D.int (k : Int)]) else .inl ()) (fun (_u : Unit) => .inl [])
    (fun k x _u hx hI => by
      have hk : k < s.length := (List.getElem?_eq_some_iff.1 hx).1
      have hxl := List.mem_of_getElem? hx
      refine ⟨?_, fun _ _ => trivial⟩
      simp [sFindFact.l1, cell_map hx, lt_k hk, w64_k hk (by have := h_s.1; omega), factFits]
      cases x.Kind == kind <;> cases x.Subject == subject <;> cases x.Value == value <;> cases HoldsAt x now age <;> rfl)
    (fun _u hI => by simp [sFindFact.l1]) () trivial
  simp only [sFindFact.t, sFindFact.b, res_zero, res_succ, r_rows, i_int, b_bool, s_str, f_st, List.length_map]
  refine (loop_some key).trans ?_
  rw [idx_go]
  unfold FindFact
  rcases idxOf_cases (factFits kind subject value now age) s with ⟨h1, h2, _⟩ | ⟨i, x, h1, h2, _⟩
  · simp [h1, h2]
  · simp only [h1, cond_true, Sum.elim_inr]; rfl
@[simp] theorem iFindFact_ok (s : List Fact) (kind : Int) (subject : Int) (value : Int) (now : Int) (age : Int) (h_s : ok s) : iFindFact.t [D.rows (List.map row s), D.int kind, D.int subject, D.int value, D.int now, D.int age] = some [D.int (FindFact s kind subject value now age)] := by
  have key := IndexFunc_Fact_ok (gf [(iFindFact_c1.n, iFindFact_c1.t)]) (D.mk (iFindFact_c1.n : Int) false ⟨#[]⟩ [[D.int kind], [D.int subject], [D.int value], [D.int now], [D.int age]]) (factFits kind subject value now age) s h_s.1 (by
    intro x _
    show gf _ (iFindFact_c1.n : Int) _ = _
    rw [gf_one]; simp [iFindFact_c1.t, iFindFact_c1.b, D.r, factFits])
  simp [iFindFact.t, iFindFact.b, key, FindFact]
def bestStep (kind subject now age : Int) (b : Int) (f : Fact) : Int := bif f.Kind == kind && (f.Subject == subject && HoldsAt f now age) then maxI b f.Value else b
def BestValue (s : List Fact) (kind subject now age : Int) : Int := s.foldl (bestStep kind subject now age) (-1)
@[simp] theorem iBestValue_ok (s : List Fact) (kind : Int) (subject : Int) (now : Int) (age : Int) (h_s : ok s) : iBestValue.t [D.rows (List.map row s), D.int kind, D.int subject, D.int now, D.int age] = some [D.int (BestValue s kind subject now age)] := by
  have key := iter_list (f := iBestValue.l1) s (fun k (b : Int) => [D.int kind, D.int subject, D.int now, D.int age, D.int b, D.int (s.length : Int), D.int (k : Int), D.rows (List.map row s)]) (fun k (b : Int) => True) (fun k x (b : Int) => .inl (bestStep kind subject now age b x)) (fun (b : Int) => .inl [D.int b])
    (fun k x b hx hI => by
      have hk : k < s.length := (List.getElem?_eq_some_iff.1 hx).1
      have hxl := List.mem_of_getElem? hx
      refine ⟨?_, fun _ _ => trivial⟩
      simp [iBestValue.l1, cell_map hx, lt_k hk, w64_k hk (by have := h_s.1; omega), bestStep]
      cases x.Kind == kind <;> cases x.Subject == subject <;> cases HoldsAt x now age <;> rfl)
    (fun b hI => by simp [iBestValue.l1]) (-1) trivial
  simp only [iBestValue.t, iBestValue.b, res_zero, res_succ, r_rows, i_int, b_bool, s_str, f_st, List.length_map]
  refine (loop_some key).trans ?_
  rw [goList_fold]; rfl
@[simp] theorem sMax_ok (a : Int) (b : Int) : sMax.t [D.int a, D.int b] = some [D.int (maxI a b)] := by
  by_cases h : a < b <;> simp [sMax.t, sMax.b, maxI, ltI, h]
@[simp] theorem sBestValue_ok (s : List Fact) (kind : Int) (subject : Int) (now : Int) (age : Int) (h_s : ok s) : sBestValue.t [D.rows (List.map row s), D.int kind, D.int subject, D.int now, D.int age] = some [D.int (BestValue s kind subject now age)] := by
  have key := iter_list (f := sBestValue.l1) s (fun k (b : Int) => [D.int kind, D.int subject, D.int now, D.int age, D.int b, D.int (k : Int), D.rows (List.map row s)]) (fun k (b : Int) => True) (fun k x (b : Int) => .inl (bestStep kind subject now age b x)) (fun (b : Int) => .inl [D.int b])
    (fun k x b hx hI => by
      have hk : k < s.length := (List.getElem?_eq_some_iff.1 hx).1
      have hxl := List.mem_of_getElem? hx
      refine ⟨?_, fun _ _ => trivial⟩
      simp [sBestValue.l1, cell_map hx, lt_k hk, w64_k hk (by have := h_s.1; omega), bestStep]
      cases x.Kind == kind <;> cases x.Subject == subject <;> cases HoldsAt x now age <;> rfl)
    (fun b hI => by simp [sBestValue.l1]) (-1) trivial
  simp only [sBestValue.t, sBestValue.b, res_zero, res_succ, r_rows, i_int, b_bool, s_str, f_st, List.length_map]
  refine (loop_some key).trans ?_
  rw [goList_fold]; rfl
end Acc
end
section
/- Conditions. -/
namespace Acc
open Go Go.Ev
def ArityOf (op : Int) : Int := bif op == 7 then 1 else bif op == 8 || op == 9 then 2 else bif InRange op 1 6 then 0 else -1
theorem arity_in (op : Int) : InRange op 1 6 = (op == 1 || op == 2 || op == 3 || op == 4 || op == 5 || op == 6) := by
  rw [Bool.eq_iff_iff]; simp [InRange_iff]; omega
@[simp] theorem iArityOf_ok (op : Int) : iArityOf.t [D.int op] = some [D.int (ArityOf op)] := by
  simp [iArityOf.t, iArityOf.b, ArityOf]
  cases op == 7 <;> cases op == 8 <;> cases op == 9 <;> simp
@[simp] theorem sArityOf_ok (op : Int) : sArityOf.t [D.int op] = some [D.int (ArityOf op)] := by
  simp [sArityOf.t, sArityOf.b, ArityOf, arity_in]
  by_cases h7 : op = 7
  · subst h7; rfl
  by_cases h8 : op = 8
  · subst h8; rfl
  by_cases h9 : op = 9
  · subst h9; rfl
  have e7 := beq_eq_false_iff_ne.2 h7
  have e8 := beq_eq_false_iff_ne.2 h8
  have e9 := beq_eq_false_iff_ne.2 h9
  simp only [e7, e8, e9]
  cases op == 1 <;> cases op == 2 <;> cases op == 3 <;> cases op == 4 <;> cases op == 5 <;> cases op == 6 <;> rfl
def aTop (op : Int) : Int := bif op == 2 then 5 else bif op == 4 then 3 else bif op == 5 then 3 else bif op == 6 then 10000 else 0
def bTop (op : Int) : Int := bif InRange op 2 5 then 10000 else 0
def isNode (x : Cond) : Bool := InRange x.A 0 (aTop x.Op) && (InRange x.B 0 (bTop x.Op) && (x.Args.length : Int) == ArityOf x.Op)
theorem iisNode_ok (x : Cond) : iisNode.t [D.st (row x)] = some [D.bool (isNode x)] := by
  simp [iisNode.t, iisNode.b, isNode, aTop, bTop]
  cases x.Op == 2 <;> cases x.Op == 4 <;> cases x.Op == 5 <;> cases x.Op == 6 <;> cases InRange x.Op 2 5 <;> cases (x.Args.length : Int) == ArityOf x.Op <;> simp
@[simp] theorem iisNode_ok' (x_Op : Int) (x_A : Int) (x_B : Int) (x_Args : List Cond) : iisNode.t [D.st [D.int x_Op, D.int x_A, D.int x_B, D.rows (List.map row x_Args)]] = some [D.bool (isNode ((.mk x_Op x_A x_B x_Args) : Cond))] := by have h := iisNode_ok (.mk x_Op x_A x_B x_Args); simp only [row_Cond, Cond.Op_mk, Cond.A_mk, Cond.B_mk, Cond.Args_mk] at h ⊢; exact h
theorem zero_in (x : Int) : (x == 0) = InRange x 0 0 := by rw [Bool.eq_iff_iff]; simp [InRange_iff]; omega
theorem sl15Node_ok (x : Cond) : sl15Node.t [D.st (row x)] = some [D.bool (isNode x)] := by
  simp [sl15Node.t, sl15Node.b, isNode, aTop, bTop, IsTime, zero_in]
  cases x.Op == 2 <;> cases x.Op == 4 <;> cases x.Op == 5 <;> cases x.Op == 6 <;> cases InRange x.Op 2 5 <;> simp
@[simp] theorem sl15Node_ok' (x_Op : Int) (x_A : Int) (x_B : Int) (x_Args : List Cond) : sl15Node.t [D.st [D.int x_Op, D.int x_A, D.int x_B, D.rows (List.map row x_Args)]] = some [D.bool (isNode ((.mk x_Op x_A x_B x_Args) : Cond))] := by have h := sl15Node_ok (.mk x_Op x_A x_B x_Args); simp only [row_Cond, Cond.Op_mk, Cond.A_mk, Cond.B_mk, Cond.Args_mk] at h ⊢; exact h
theorem size_fold : ∀ (l : List Cond) (b : Int), 0 ≤ b → b + Cond.csizes l ≤ 1099511627776 → l.foldl (fun b y => w64 (b + y.csize)) b = b + Cond.csizes l
  | [], b, _, _ => by simp [Cond.csizes]
  | y :: l, b, h0, h => by
    simp only [Cond.csizes, Int.natCast_add] at h ⊢
    rw [List.foldl_cons, w64_in (by omega), size_fold l (b + y.csize) (by omega) (by omega)]; omega
theorem iSizeOf_F : ∀ (m : Nat) (x : Cond), ok x → x.csize ≤ m → iSizeOf.F m iSizeOf.n [D.st (row x)] = some [D.int x.csize]
  | 0, x, _, h => by rw [x.csize_eq] at h; omega
  | m + 1, x, hok, h => by
    have ih := iSizeOf_F m
    have h_l : x.Args.length ≤ 16777216 ∧ True := ⟨ok_args hok, trivial⟩
    have hmem := fun y (hy : y ∈ x.Args) => And.intro (ok_arg hok hy) (Cond.csize_mem hy)
    have hs := x.csize_eq
    have hx' : x.csize ≤ 16777216 := hok
    rcases x with ⟨o, a, b, l⟩
    simp only [Cond.Args_mk] at *
    simp only [iSizeOf.F, look_self]
    have key := iter_list (f := iSizeOf.l1 (iSizeOf.F m)) l (fun k (b : Int) => [D.int b, D.int (l.length : Int), D.int (k : Int), D.rows (List.map row l)]) (fun k (b : Int) => True) (fun k x (b : Int) => .inl (w64 (b + x.csize))) (fun (b : Int) => .inl [D.int b])
      (fun k x b hx hI => by
        have hk : k < l.length := (List.getElem?_eq_some_iff.1 hx).1
        have hxl := List.mem_of_getElem? hx
        have hih := ih x (hmem x hxl).1 (by have := (hmem x hxl).2; omega)
        simp only [row_Cond] at hih
        refine ⟨?_, fun _ _ => trivial⟩
        simp [iSizeOf.l1, cell_map hx, lt_k hk, w64_k hk (by have := h_l.1; omega), hih])
      (fun b hI => by simp [iSizeOf.l1]) 1 trivial
    simp only [iSizeOf.b, row_Cond, res_zero, res_succ, r_rows, i_int, f_st, List.length_map, Cond.Args_mk]
    refine (loop_some key).trans ?_
    rw [goList_fold, size_fold l 1 (by omega) (by omega), hs]
    simp
theorem iSizeOf_ok (x : Cond) (h_x : ok x) : iSizeOf.t [D.st (row x)] = some [D.int (x.csize : Int)] := by
  exact lim_eq x.csize fun m hm => iSizeOf_F m x h_x hm
@[simp] theorem iSizeOf_ok' (x_Op : Int) (x_A : Int) (x_B : Int) (x_Args : List Cond) (h_x0 : ok (Cond.mk x_Op x_A x_B x_Args)) : iSizeOf.t [D.st [D.int x_Op, D.int x_A, D.int x_B, D.rows (List.map row x_Args)]] = some [D.int (((.mk x_Op x_A x_B x_Args) : Cond).csize : Int)] := by have h := iSizeOf_ok (.mk x_Op x_A x_B x_Args) h_x0; simp only [row_Cond, Cond.Op_mk, Cond.A_mk, Cond.B_mk, Cond.Args_mk] at h ⊢; exact h
mutual
def left : Cond → Int → Int
  | .mk _ _ _ l, n => lefts l (n - 1)
def lefts : List Cond → Int → Int
  | [], n => n
  | y :: l, n => bif leI 0 n then lefts l (left y n) else n
end
mutual
theorem left_le : ∀ (x : Cond) (n : Int), left x n ≤ n - 1 ∧ (0 ≤ left x n → left x n = n - x.csize) ∧ (x.csize ≤ n → 0 ≤ left x n) ∧ (0 ≤ n → -1 ≤ left x n)
  | .mk o a b l, n => by
    have h := lefts_le l (n - 1)
    simp only [left, Cond.csize, Int.natCast_add]
    refine ⟨h.1, fun h1 => ?_, fun h1 => h.2.2.1 (by omega) (by omega), fun h1 => h.2.2.2 (by omega)⟩
    rw [h.2.1 h1]; simp; omega
theorem lefts_le : ∀ (l : List Cond) (n : Int), lefts l n ≤ n ∧ (0 ≤ lefts l n → lefts l n = n - Cond.csizes l) ∧ (0 ≤ n → Cond.csizes l ≤ n → 0 ≤ lefts l n) ∧ (-1 ≤ n → -1 ≤ lefts l n)
  | [], n => by simp [lefts, Cond.csizes]
  | y :: l, n => by
    simp only [lefts, Cond.csizes, Int.natCast_add]
    by_cases h : 0 ≤ n
    · have hy := left_le y n
      have hl := lefts_le l (left y n)
      rw [leI_iff.2 h]; simp only [cond_true]
      refine ⟨by omega, fun h1 => ?_, fun _ h1 => ?_, fun _ => hl.2.2.2 (hy.2.2.2 h)⟩
      · rw [hl.2.1 h1]; have := hy.2.1 (by omega); omega
      · have := hy.2.1 (hy.2.2.1 (by omega)); exact hl.2.2.1 (by omega) (by omega)
    · have : leI 0 n = false := by simp [leI, h]
      rw [this]; simp only [cond_false]
      exact ⟨by omega, by omega, by omega, by omega⟩
end
theorem left_go : ∀ (l : List Cond) (k : Nat) (c : Int), goList (fun _ x c => bif leI 0 c then .inl (left x c) else .inr (.inl [D.int c])) (fun c => .inl [D.int c]) l k c = (.inl [D.int (lefts l c)] : List D ⊕ List D)
  | [], k, c => rfl
  | y :: l, k, c => by
    simp only [goList, lefts]
    cases leI 0 c
    · rfl
    · exact left_go l (k + 1) (left y c)
theorem sl15Left_F : ∀ (m : Nat) (x : Cond) (n : Int), ok x → x.csize ≤ m → 0 ≤ n → n ≤ 16777216 → sl15Left.F m sl15Left.n [D.st (row x), D.int n] = some [D.int (left x n)]
  | 0, x, _, _, h, _, _ => by rw [x.csize_eq] at h; omega
  | m + 1, x, n, hok, h, h0, h1 => by
    have ih := sl15Left_F m
    have h_l : x.Args.length ≤ 16777216 ∧ True := ⟨ok_args hok, trivial⟩
    have hmem := fun y (hy : y ∈ x.Args) => And.intro (ok_arg hok hy) (Cond.csize_mem hy)
    rcases x with ⟨o, a, b, l⟩
    simp only [Cond.Args_mk] at *
    simp only [sl15Left.F, look_self]
    have key := iter_list (f := sl15Left.l1 (sl15Left.F m)) l (fun k (c : Int) => [D.int c, D.int (k : Int), D.int o, D.int a, D.int b, D.rows (List.map row l)]) (fun k (c : Int) => c ≤ 16777216) (fun k x (c : Int) => bif leI 0 c then .inl (left x c) else .inr (.inl [D.int c])) (fun (c : Int) => .inl [D.int c])
      (fun k x c hx hI => by
        have hk : k < l.length := (List.getElem?_eq_some_iff.1 hx).1
        have hxl := List.mem_of_getElem? hx
        have hih := fun n => ih x n (hmem x hxl).1 (by have := (hmem x hxl).2; omega)
        simp only [row_Cond] at hih
        refine ⟨?_, ?_⟩
        · simp [sl15Left.l1, cell_map hx, lt_k hk, w64_k hk (by have := h_l.1; omega), hih]
          cases hc : leI 0 c
          · rfl
          · simp [hih c (leI_iff.1 hc) hI]
        cases hc : leI 0 c
        · simp
        · have := (left_le x c).1; simp; omega)
      (fun c hI => by simp [sl15Left.l1]) (n - 1) (by first | (simp; done) | (simp; omega) | omega)
    simp only [sl15Left.b, row_Cond, res_zero, res_succ, r_rows, i_int, f_st, List.length_map, Cond.Args_mk, Cond.Op_mk, Cond.A_mk, Cond.B_mk, w64_in (x := n - 1) (by omega)]
    refine (loop_some key).trans ?_
    rw [left_go]; rfl
theorem sl15Left_ok (x : Cond) (n : Int) (h_x : ok x) (h0 : 0 ≤ n) (h1 : n ≤ 16777216) : sl15Left.t [D.st (row x), D.int n] = some [D.int (left x n)] := by
  exact lim_eq x.csize fun m hm => sl15Left_F m x n h_x hm h0 h1
@[simp] theorem sl15Left_ok' (x_Op : Int) (x_A : Int) (x_B : Int) (x_Args : List Cond) (n : Int) (h_x0 : ok (Cond.mk x_Op x_A x_B x_Args)) (h0 : 0 ≤ n) (h1 : n ≤ 16777216) : sl15Left.t [D.st [D.int x_Op, D.int x_A, D.int x_B, D.rows (List.map row x_Args)], D.int n] = some [D.int (left ((.mk x_Op x_A x_B x_Args) : Cond) n)] := by have h := sl15Left_ok (.mk x_Op x_A x_B x_Args) n h_x0 h0 h1; simp only [row_Cond, Cond.Op_mk, Cond.A_mk, Cond.B_mk, Cond.Args_mk] at h ⊢; exact h
mutual
def nodes : Cond → Bool
  | .mk o a b l => isNode (.mk o a b l) && nodess l
def nodess : List Cond → Bool
  | [] => true
  | y :: l => nodes y && nodess l
end
theorem nodess_all : ∀ l : List Cond, nodess l = l.all nodes
  | [] => rfl
  | y :: l => by simp [nodess, nodess_all l]
theorem nodes_eq (x : Cond) : nodes x = (isNode x && x.Args.all nodes) := by
  rcases x with ⟨o, a, b, l⟩; simp only [nodes, nodess_all, Cond.Args_mk]
theorem all_go {α B : Type} {p : α → Bool} {b : B} {e : Unit → B} : ∀ (l : List α) (k : Nat), goList (fun _ x (_ : Unit) => bif p x then .inl () else .inr b) e l k () = bif l.all p then e () else b
  | [], _ => rfl
  | x :: l, k => by
    cases hx : p x with
    | false => simp [goList, hx]
    | true => simp [goList, hx, all_go l (k + 1)]
theorem sl15Valid_F : ∀ (m : Nat) (x : Cond), ok x → x.csize ≤ m → sl15Valid.F m sl15Valid.n [D.st (row x)] = some [D.bool (nodes x)]
  | 0, x, _, h => by rw [x.csize_eq] at h; omega
  | m + 1, x, hok, h => by
    have ih := sl15Valid_F m
    have h_l : x.Args.length ≤ 16777216 ∧ True := ⟨ok_args hok, trivial⟩
    have hmem := fun y (hy : y ∈ x.Args) => And.intro (ok_arg hok hy) (Cond.csize_mem hy)
    rcases x with ⟨o, a, b, l⟩
    simp only [Cond.Args_mk] at *
    simp only [sl15Valid.F, look_self]
    have key := iter_list (f := sl15Valid.l1 (sl15Valid.F m)) l (fun k (_u : Unit) => [D.int (k : Int), D.int o, D.int a, D.int b, D.rows (List.map row l)]) (fun k (_u : Unit) => True) (fun k x (_u : Unit) => bif nodes x then .inl () else .inr (.inr [D.bool false])) (fun (_u : Unit) => .inl [])
      (fun k x _u hx hI => by
        have hk : k < l.length := (List.getElem?_eq_some_iff.1 hx).1
        have hxl := List.mem_of_getElem? hx
        have hih := ih x (hmem x hxl).1 (by have := (hmem x hxl).2; omega)
        simp only [row_Cond] at hih
        refine ⟨?_, fun _ _ => trivial⟩
        simp [sl15Valid.l1, cell_map hx, lt_k hk, w64_k hk (by have := h_l.1; omega), hih]
        cases nodes x <;> rfl)
      (fun _u hI => by simp [sl15Valid.l1]) () trivial
    simp only [sl15Valid.b, row_Cond, res_zero, res_succ, r_rows, i_int, f_st, List.length_map, Cond.Args_mk, Cond.Op_mk, Cond.A_mk, Cond.B_mk, sl15Node_ok', bind_some, b_bool]
    simp only [nodes, nodess_all]
    cases hn : isNode (Cond.mk o a b l)
    · rfl
    · simp only [Bool.not_true, cond_false, Bool.true_and]
      refine (loop_some key).trans ?_
      rw [all_go]
      cases l.all nodes <;> rfl
theorem sl15Valid_ok (x : Cond) (h_x : ok x) : sl15Valid.t [D.st (row x)] = some [D.bool (nodes x)] := by
  exact lim_eq x.csize fun m hm => sl15Valid_F m x h_x hm
@[simp] theorem sl15Valid_ok' (x_Op : Int) (x_A : Int) (x_B : Int) (x_Args : List Cond) (h_x0 : ok (Cond.mk x_Op x_A x_B x_Args)) : sl15Valid.t [D.st [D.int x_Op, D.int x_A, D.int x_B, D.rows (List.map row x_Args)]] = some [D.bool (nodes ((.mk x_Op x_A x_B x_Args) : Cond))] := by have h := sl15Valid_ok (.mk x_Op x_A x_B x_Args) h_x0; simp only [row_Cond, Cond.Op_mk, Cond.A_mk, Cond.B_mk, Cond.Args_mk] at h ⊢; exact h
theorem IndexFunc_Cond_ok (G : GF) (f : D) (p : Cond → Bool) (l : List Cond) (hl : l.length ≤ 16777216) (hp : ∀ x ∈ l, G f.i ([D.st (row x)] ++ f.r.map D.st) = some [D.bool (p x)]) :
    IndexFunc_Cond.t G [D.rows (List.map row l), f] = some [D.int (idxOf p l)] := by
  have key := iter_list (f := IndexFunc_Cond.l1 G) l (fun k (_ : Unit) => [f, D.int (l.length : Int), D.int (k : Int), D.rows (List.map row l)]) (fun _ _ => True)
    (fun k x _ => bif p x then .inr (.inr [D.int (k : Int)]) else .inl ()) (fun _ => .inl [])
    (fun k x s hx _ => by
      have hk : k < l.length := (List.getElem?_eq_some_iff.1 hx).1
      have hpx := hp x (List.mem_of_getElem? hx)
      simp at hpx
      refine ⟨?_, fun _ _ => trivial⟩
      simp [IndexFunc_Cond.l1, cell_map hx, lt_k hk, w64_k hk (by omega), hpx]
      cases p x <;> rfl)
    (fun s _ => by simp [IndexFunc_Cond.l1]) () trivial
  simp only [IndexFunc_Cond.t, IndexFunc_Cond.b, res_zero, res_succ, r_rows, List.length_map]
  refine (loop_some key).trans ?_
  rw [idx_go]
  rcases idxOf_cases p l with ⟨h1, h2, _⟩ | ⟨i, x, h1, h2, _⟩
  · simp [h1, h2]
  · simp only [h1, cond_true, Sum.elim_inr]; rfl
theorem ContainsFunc_Cond_ok (G : GF) (f : D) (p : Cond → Bool) (l : List Cond) (hl : l.length ≤ 16777216) (hp : ∀ x ∈ l, G f.i ([D.st (row x)] ++ f.r.map D.st) = some [D.bool (p x)]) :
    ContainsFunc_Cond.t G [D.rows (List.map row l), f] = some [D.bool (l.any p)] := by
  simp only [ContainsFunc_Cond.t, ContainsFunc_Cond.b, res_zero, res_succ, r_rows, IndexFunc_Cond_ok G f p l hl hp, bind_some, i_int]
  rcases idxOf_cases p l with ⟨h1, h2, _⟩ | ⟨i, x, h1, h2, _⟩
  · simp [h1, h2, leI]
  · simp [h1, h2]
theorem iareNodes_F : ∀ (m : Nat) (x : Cond), ok x → x.csize + x.csize ≤ m → iareNodes_c1.F m iareNodes.n [D.st (row x)] = some [D.bool (nodes x)]
  | 0, x, _, h => by rw [x.csize_eq] at h; omega
  | 1, x, _, h => by rw [x.csize_eq] at h; omega
  | m + 2, x, hok, h => by
    have h_l := ok_args hok
    have hp : ∀ y ∈ x.Args, gf [(iareNodes_c1.n, iareNodes_c1.F (m + 1) iareNodes_c1.n)] (iareNodes_c1.n : Int) ([D.st (row y)] ++ [].map D.st) = some [D.bool (!nodes y)] := by
      intro y hy
      have ih := iareNodes_F m y (ok_arg hok hy) (by have := Cond.csize_mem hy; omega)
      rw [gf_one]
      simp only [row_Cond] at ih
      simp only [iareNodes_c1.F, look_self]
      simp [iareNodes_c1.b, ih]
    have key := ContainsFunc_Cond_ok (gf [(iareNodes_c1.n, iareNodes_c1.F (m + 1) iareNodes_c1.n)]) (D.mk (iareNodes_c1.n : Int) false ⟨#[]⟩ []) (fun y => !nodes y) x.Args h_l hp
    have e : iareNodes_c1.F (m + 2) iareNodes.n = fun a => iareNodes.b (iareNodes_c1.F (m + 1)) (res a 0) := rfl
    rw [e]
    rw [nodes_eq x, List.all_eq_not_any_not]
    simp [iareNodes.b, key]
theorem iareNodes_ok (x : Cond) (h_x : ok x) : iareNodes.t [D.st (row x)] = some [D.bool (nodes x)] := by
  exact lim_eq (x.csize + x.csize) fun m hm => iareNodes_F m x h_x hm
@[simp] theorem iareNodes_ok' (x_Op : Int) (x_A : Int) (x_B : Int) (x_Args : List Cond) (h_x0 : ok (Cond.mk x_Op x_A x_B x_Args)) : iareNodes.t [D.st [D.int x_Op, D.int x_A, D.int x_B, D.rows (List.map row x_Args)]] = some [D.bool (nodes ((.mk x_Op x_A x_B x_Args) : Cond))] := by have h := iareNodes_ok (.mk x_Op x_A x_B x_Args) h_x0; simp only [row_Cond, Cond.Op_mk, Cond.A_mk, Cond.B_mk, Cond.Args_mk] at h ⊢; exact h
def IsCond (x : Cond) : Bool := leN x.csize 15 && nodes x
theorem iIsCond_ok (x : Cond) (h_x : ok x) : iIsCond.t [D.st (row x)] = some [D.bool (IsCond x)] := by
  have : leI (x.csize : Int) 15 = leN x.csize 15 := by simp [leI, leN]; omega
  simp [iIsCond.t, iIsCond.b, IsCond, h_x, this]
@[simp] theorem iIsCond_ok' (x_Op : Int) (x_A : Int) (x_B : Int) (x_Args : List Cond) (h_x0 : ok (Cond.mk x_Op x_A x_B x_Args)) : iIsCond.t [D.st [D.int x_Op, D.int x_A, D.int x_B, D.rows (List.map row x_Args)]] = some [D.bool (IsCond ((.mk x_Op x_A x_B x_Args) : Cond))] := by have h := iIsCond_ok (.mk x_Op x_A x_B x_Args) h_x0; simp only [row_Cond, Cond.Op_mk, Cond.A_mk, Cond.B_mk, Cond.Args_mk] at h ⊢; exact h
theorem sIsCond_ok (x : Cond) (h_x : ok x) : sIsCond.t [D.st (row x)] = some [D.bool (IsCond x)] := by
  have : leI 0 (left x 15) = leN x.csize 15 := by
    have := left_le x 15
    simp only [leI, leN, decide_eq_decide]; omega
  simp [sIsCond.t, sIsCond.b, IsCond, h_x, this]
@[simp] theorem sIsCond_ok' (x_Op : Int) (x_A : Int) (x_B : Int) (x_Args : List Cond) (h_x0 : ok (Cond.mk x_Op x_A x_B x_Args)) : sIsCond.t [D.st [D.int x_Op, D.int x_A, D.int x_B, D.rows (List.map row x_Args)]] = some [D.bool (IsCond ((.mk x_Op x_A x_B x_Args) : Cond))] := by have h := sIsCond_ok (.mk x_Op x_A x_B x_Args) h_x0; simp only [row_Cond, Cond.Op_mk, Cond.A_mk, Cond.B_mk, Cond.Args_mk] at h ⊢; exact h
end Acc
end
section
/- Rules and policies. -/
namespace Acc
open Go Go.Ev
def IsRule (r : Rule) : Bool := InRange r.Effect 0 1 && (InRange r.Action (-1) 5 && ((r.Object == -1 || HasKind r.Object 4) && IsCond r.Cond))
theorem iIsRule_ok (r : Rule) (h_r : ok r) : iIsRule.t [D.st (row r)] = some [D.bool (IsRule r)] := by
  simp [iIsRule.t, iIsRule.b, IsRule, (show ok r.Cond from h_r)]
  cases InRange r.Effect 0 1 <;> cases InRange r.Action (-1) 5 <;> cases r.Object == -1 <;> cases HasKind r.Object 4 <;> rfl
@[simp] theorem iIsRule_ok' (r_Effect : Int) (r_Action : Int) (r_Object : Int) (r_CondOp : Int) (r_CondA : Int) (r_CondB : Int) (r_CondArgs : List Cond) (h_r0 : ok (Cond.mk r_CondOp r_CondA r_CondB r_CondArgs)) : iIsRule.t [D.st [D.int r_Effect, D.int r_Action, D.int r_Object, D.int r_CondOp, D.int r_CondA, D.int r_CondB, D.rows (List.map row r_CondArgs)]] = some [D.bool (IsRule (⟨r_Effect, r_Action, r_Object, (.mk r_CondOp r_CondA r_CondB r_CondArgs)⟩ : Rule))] := iIsRule_ok (⟨r_Effect, r_Action, r_Object, (.mk r_CondOp r_CondA r_CondB r_CondArgs)⟩ : Rule) h_r0
theorem sIsRule_ok (r : Rule) (h_r : ok r) : sIsRule.t [D.st (row r)] = some [D.bool (IsRule r)] := by
  simp [sIsRule.t, sIsRule.b, IsRule, (show ok r.Cond from h_r)]
  cases InRange r.Effect 0 1 <;> cases InRange r.Action (-1) 5 <;> cases r.Object == -1 <;> cases HasKind r.Object 4 <;> rfl
@[simp] theorem sIsRule_ok' (r_Effect : Int) (r_Action : Int) (r_Object : Int) (r_CondOp : Int) (r_CondA : Int) (r_CondB : Int) (r_CondArgs : List Cond) (h_r0 : ok (Cond.mk r_CondOp r_CondA r_CondB r_CondArgs)) : sIsRule.t [D.st [D.int r_Effect, D.int r_Action, D.int r_Object, D.int r_CondOp, D.int r_CondA, D.int r_CondB, D.rows (List.map row r_CondArgs)]] = some [D.bool (IsRule (⟨r_Effect, r_Action, r_Object, (.mk r_CondOp r_CondA r_CondB r_CondArgs)⟩ : Rule))] := sIsRule_ok (⟨r_Effect, r_Action, r_Object, (.mk r_CondOp r_CondA r_CondB r_CondArgs)⟩ : Rule) h_r0
def IsPolicy (p : Policy) : Bool := InRange p.Version 0 999 && (leI (p.Rules.length : Int) 8 && p.Rules.all IsRule)
theorem IndexFunc_Rule_ok (G : GF) (f : D) (p : Rule → Bool) (l : List Rule) (hl : l.length ≤ 16777216) (hp : ∀ x ∈ l, G f.i ([D.st (row x)] ++ f.r.map D.st) = some [D.bool (p x)]) :
    IndexFunc_Rule.t G [D.rows (List.map row l), f] = some [D.int (idxOf p l)] := by
  have key := iter_list (f := IndexFunc_Rule.l1 G) l (fun k (_ : Unit) => [f, D.int (l.length : Int), D.int (k : Int), D.rows (List.map row l)]) (fun _ _ => True)
    (fun k x _ => bif p x then .inr (.inr [D.int (k : Int)]) else .inl ()) (fun _ => .inl [])
    (fun k x s hx _ => by
      have hk : k < l.length := (List.getElem?_eq_some_iff.1 hx).1
      have hpx := hp x (List.mem_of_getElem? hx)
      simp at hpx
      refine ⟨?_, fun _ _ => trivial⟩
      simp [IndexFunc_Rule.l1, cell_map hx, lt_k hk, w64_k hk (by omega), hpx]
      cases p x <;> rfl)
    (fun s _ => by simp [IndexFunc_Rule.l1]) () trivial
  simp only [IndexFunc_Rule.t, IndexFunc_Rule.b, res_zero, res_succ, r_rows, List.length_map]
  refine (loop_some key).trans ?_
  rw [idx_go]
  rcases idxOf_cases p l with ⟨h1, h2, _⟩ | ⟨i, x, h1, h2, _⟩
  · simp [h1, h2]
  · simp only [h1, cond_true, Sum.elim_inr]; rfl
theorem ContainsFunc_Rule_ok (G : GF) (f : D) (p : Rule → Bool) (l : List Rule) (hl : l.length ≤ 16777216) (hp : ∀ x ∈ l, G f.i ([D.st (row x)] ++ f.r.map D.st) = some [D.bool (p x)]) :
    ContainsFunc_Rule.t G [D.rows (List.map row l), f] = some [D.bool (l.any p)] := by
  simp only [ContainsFunc_Rule.t, ContainsFunc_Rule.b, res_zero, res_succ, r_rows, IndexFunc_Rule_ok G f p l hl hp, bind_some, i_int]
  rcases idxOf_cases p l with ⟨h1, h2, _⟩ | ⟨i, x, h1, h2, _⟩
  · simp [h1, h2, leI]
  · simp [h1, h2]
theorem iIsPolicy_ok (p : Policy) (h_p : ok p) : iIsPolicy.t [D.st (row p)] = some [D.bool (IsPolicy p)] := by
  have hp : ∀ y ∈ p.Rules, gf [(iIsPolicy_c1.n, iIsPolicy_c1.t)] (iIsPolicy_c1.n : Int) ([D.st (row y)] ++ [].map D.st) = some [D.bool (!IsRule y)] := by
    intro y hy
    have := h_p.2 y hy
    rw [gf_one]; simp [iIsPolicy_c1.t, iIsPolicy_c1.b, (show ok y.Cond from this)]
  have key := ContainsFunc_Rule_ok (gf [(iIsPolicy_c1.n, iIsPolicy_c1.t)]) (D.mk (iIsPolicy_c1.n : Int) false ⟨#[]⟩ []) (fun y => !IsRule y) p.Rules h_p.1 hp
  unfold IsPolicy
  rw [List.all_eq_not_any_not]
  simp [iIsPolicy.t, iIsPolicy.b, key]
@[simp] theorem iIsPolicy_ok' (p_Version : Int) (p_Rules : List Rule) (h_p0 : ok p_Rules) : iIsPolicy.t [D.st [D.int p_Version, D.rows (List.map row p_Rules)]] = some [D.bool (IsPolicy (⟨p_Version, p_Rules⟩ : Policy))] := iIsPolicy_ok (⟨p_Version, p_Rules⟩ : Policy) h_p0
theorem sIsPolicy_ok (p : Policy) (h_p : ok p) : sIsPolicy.t [D.st (row p)] = some [D.bool (IsPolicy p)] := by
  rcases p with ⟨v, l⟩
  have h_l : ok l := h_p
  have key := iter_list (f := sIsPolicy.l1) l (fun k (_u : Unit) => [D.int (k : Int), D.int v, D.rows (List.map row l)]) (fun k (_u : Unit) => True) (fun k x (_u : Unit) => bif IsRule x then .inl () else .inr (.inr [D.bool false])) (fun (_u : Unit) => .inl [D.int v, D.rows (List.map row l)])
    (fun k x _u hx hI => by
      have hk : k < l.length := (List.getElem?_eq_some_iff.1 hx).1
      have hxl := List.mem_of_getElem? hx
      have hih : ok x.Cond := h_l.2 x hxl
      refine ⟨?_, fun _ _ => trivial⟩
      simp [sIsPolicy.l1, cell_map hx, lt_k hk, w64_k hk (by have := h_l.1; omega), hih]
      cases IsRule x <;> rfl)
    (fun _u hI => by simp [sIsPolicy.l1]) () trivial
  simp only [sIsPolicy.t, sIsPolicy.b, row_Policy, res_zero, res_succ, r_rows, i_int, f_st, List.length_map]
  refine (loop_some key).trans ?_
  rw [all_go]
  simp [IsPolicy]
  cases l.all IsRule <;> cases h : InRange v 0 999 <;> simp [h]
@[simp] theorem sIsPolicy_ok' (p_Version : Int) (p_Rules : List Rule) (h_p0 : ok p_Rules) : sIsPolicy.t [D.st [D.int p_Version, D.rows (List.map row p_Rules)]] = some [D.bool (IsPolicy (⟨p_Version, p_Rules⟩ : Policy))] := sIsPolicy_ok (⟨p_Version, p_Rules⟩ : Policy) h_p0
def IsFor (r : Rule) (action object : Int) : Bool := (r.Action == -1 || r.Action == action) && (r.Object == -1 || r.Object == object)
theorem iIsFor_ok (r : Rule) (action : Int) (object : Int) : iIsFor.t [D.st (row r), D.int action, D.int object] = some [D.bool (IsFor r action object)] := by
  simp [iIsFor.t, iIsFor.b, IsFor]
  cases r.Action == -1 <;> cases r.Action == action <;> cases r.Object == -1 <;> cases r.Object == object <;> rfl
@[simp] theorem iIsFor_ok' (r_Effect : Int) (r_Action : Int) (r_Object : Int) (r_CondOp : Int) (r_CondA : Int) (r_CondB : Int) (r_CondArgs : List Cond) (action : Int) (object : Int) : iIsFor.t [D.st [D.int r_Effect, D.int r_Action, D.int r_Object, D.int r_CondOp, D.int r_CondA, D.int r_CondB, D.rows (List.map row r_CondArgs)], D.int action, D.int object] = some [D.bool (IsFor (⟨r_Effect, r_Action, r_Object, (.mk r_CondOp r_CondA r_CondB r_CondArgs)⟩ : Rule) action object)] := iIsFor_ok (⟨r_Effect, r_Action, r_Object, (.mk r_CondOp r_CondA r_CondB r_CondArgs)⟩ : Rule) action object
theorem sIsFor_ok (r : Rule) (action : Int) (object : Int) : sIsFor.t [D.st (row r), D.int action, D.int object] = some [D.bool (IsFor r action object)] := by
  simp [sIsFor.t, sIsFor.b, IsFor]
  cases r.Action == -1 <;> cases r.Action == action <;> cases r.Object == -1 <;> cases r.Object == object <;> rfl
@[simp] theorem sIsFor_ok' (r_Effect : Int) (r_Action : Int) (r_Object : Int) (r_CondOp : Int) (r_CondA : Int) (r_CondB : Int) (r_CondArgs : List Cond) (action : Int) (object : Int) : sIsFor.t [D.st [D.int r_Effect, D.int r_Action, D.int r_Object, D.int r_CondOp, D.int r_CondA, D.int r_CondB, D.rows (List.map row r_CondArgs)], D.int action, D.int object] = some [D.bool (IsFor (⟨r_Effect, r_Action, r_Object, (.mk r_CondOp r_CondA r_CondB r_CondArgs)⟩ : Rule) action object)] := sIsFor_ok (⟨r_Effect, r_Action, r_Object, (.mk r_CondOp r_CondA r_CondB r_CondArgs)⟩ : Rule) action object
end Acc
end
section
/- Roles: sets of roles, reach. -/
namespace Acc
open Go Go.Ev
theorem sorted_ext : ∀ {l m : List Int}, l.Pairwise (· < ·) → m.Pairwise (· < ·) → (∀ x, x ∈ l ↔ x ∈ m) → l = m
  | [], [], _, _, _ => rfl
  | [], y :: m, _, _, h => by have := (h y).2 (by simp); simp at this
  | x :: l, [], _, _, h => by have := (h x).1 (by simp); simp at this
  | x :: l, y :: m, hl, hm, h => by
    rw [List.pairwise_cons] at hl hm
    have hxy : x = y := by
      rcases List.mem_cons.1 ((h x).1 (by simp)) with e | h1
      · exact e
      · rcases List.mem_cons.1 ((h y).2 (by simp)) with e | h2
        · exact e.symm
        · have a := hm.1 x h1; have b := hl.1 y h2; omega
    subst hxy
    rw [sorted_ext hl.2 hm.2 fun z => ⟨fun hz => ?_, fun hz => ?_⟩]
    · have := hl.1 z hz
      rcases List.mem_cons.1 ((h z).1 (by simp [hz])) with e | h1
      · omega
      · exact h1
    · have := hm.1 z hz
      rcases List.mem_cons.1 ((h z).2 (by simp [hz])) with e | h1
      · omega
      · exact h1
theorem compact_lt {zs : List Int} (h : zs.Pairwise (· ≤ ·)) : (Lib.compact zs).Pairwise (· < ·) := by
  unfold Lib.compact Lib.compactUpTo
  rw [List.pairwise_map]
  have h1 : ((List.range zs.length).filter (Lib.keeps zs.toArray)).Pairwise (fun i j => i < j) := List.Pairwise.filter _ List.pairwise_lt_range
  rw [List.pairwise_iff_getElem] at h
  refine List.Pairwise.imp_of_mem (fun {i j} hi hj hij => ?_) h1
  simp only [List.mem_filter, List.mem_range] at hi hj
  have hk := hj.2
  simp only [Lib.keeps] at hk
  have hj0 : j - 1 < zs.length := by omega
  have hle1 : zs[j - 1] ≤ zs[j] := h (j - 1) j hj0 hj.1 (by omega)
  have hle2 : zs[i] ≤ zs[j - 1] := by
    by_cases e : i = j - 1
    · subst e; exact Int.le_refl _
    · exact h i (j - 1) hi.1 hj0 (by omega)
  have hne : zs[j]! ≠ zs[j - 1]! := by
    intro e; simp [e] at hk; omega
  rw [getElem!_pos zs j hj.1, getElem!_pos zs (j - 1) hj0] at hne
  rw [getElem!_pos zs.toArray i (by simpa using hi.1), getElem!_pos zs.toArray j (by simpa using hj.1)]
  simp only [List.getElem_toArray]
  omega
theorem compact_mem {zs : List Int} (x : Int) : x ∈ Lib.compact zs ↔ x ∈ zs := by
  unfold Lib.compact Lib.compactUpTo
  simp only [List.mem_map, List.mem_filter, List.mem_range]
  constructor
  · rintro ⟨i, ⟨hi, _⟩, rfl⟩
    rw [getElem!_pos _ _ (by simpa using hi)]; simp
  · intro hx
    obtain ⟨i, hi, rfl⟩ := List.getElem_of_mem hx
    clear hx
    induction i with
    | zero => exact ⟨0, ⟨hi, by simp [Lib.keeps]⟩, by rw [getElem!_pos _ _ (by simpa using hi)]; simp⟩
    | succ i ih =>
      by_cases e : zs[i + 1] = zs[i]
      · obtain ⟨j, hj, h⟩ := ih (by omega)
        exact ⟨j, hj, by rw [h, e]⟩
      · refine ⟨i + 1, ⟨hi, ?_⟩, by rw [getElem!_pos _ _ (by simpa using hi)]; simp⟩
        have hi' : i < zs.length := by omega
        simp [Lib.keeps, getElem!_pos, hi, hi', e]
/-- the roles of a set, in order -/
def those (f : Nat → Bool) : List Int := [0, 1, 2, 3, 4, 5].filter fun r => f r.toNat
theorem those_lt (f : Nat → Bool) : (those f).Pairwise (· < ·) := List.Pairwise.filter _ (by decide)
theorem those_mem (f : Nat → Bool) (x : Int) : x ∈ those f ↔ 0 ≤ x ∧ x ≤ 5 ∧ f x.toNat = true := by
  unfold those
  rw [List.mem_filter]
  simp only [List.mem_cons, List.not_mem_nil, or_false]
  constructor
  · rintro ⟨h, h1⟩; exact ⟨by omega, by omega, h1⟩
  · rintro ⟨h, h1, h2⟩; exact ⟨by omega, h2⟩
theorem those_len (f : Nat → Bool) : (those f).length ≤ 6 := by have := List.length_filter_le (fun r : Int => f r.toNat) [0, 1, 2, 3, 4, 5]; exact this
theorem those_congr {f g : Nat → Bool} (h : ∀ r, r ≤ 5 → f r = g r) : those f = those g := by
  refine sorted_ext (those_lt f) (those_lt g) fun x => ?_
  rw [those_mem, those_mem]
  constructor
  · rintro ⟨h1, h2, h3⟩; exact ⟨h1, h2, by rw [← h _ (by omega)]; exact h3⟩
  · rintro ⟨h1, h2, h3⟩; exact ⟨h1, h2, by rw [h _ (by omega)]; exact h3⟩
theorem sort_compact {zs : List Int} {f : Nat → Bool} (h : ∀ x, x ∈ zs ↔ 0 ≤ x ∧ x ≤ 5 ∧ f x.toNat = true) : Lib.compact (zs.mergeSort fun x y => decide (x ≤ y)) = those f := by
  refine sorted_ext (compact_lt ?_) (those_lt f) fun x => ?_
  · have := List.pairwise_mergeSort (le := fun x y : Int => decide (x ≤ y)) (by intro a b c; simp; omega) (by intro a b; simp; omega) zs
    exact this.imp (by simp)
  · rw [compact_mem, those_mem, List.mem_mergeSort, h]
def put (M : Nat → Bool) (i : Nat) : Nat → Bool := fun j => bif Nat.beq i j then true else M j
theorem put_true {M : Nat → Bool} {i j : Nat} : put M i j = true ↔ i = j ∨ M j = true := by
  unfold put
  cases h : Nat.beq i j
  · have := Nat.ne_of_beq_eq_false h; simp [this]
  · have := Nat.eq_of_beq_eq_true h; simp [this]
def isEdge (l : List Includes) (g s : Nat) : Prop := ∃ x ∈ l, x.Greater = g ∧ x.Lesser = s
inductive Reach (l : List Includes) (a : Nat) : Nat → Prop where
  | refl : Reach l a a
  | step {b c : Nat} : Reach l a b → isEdge l b c → c ≤ 5 → Reach l a c
def passStep (M : Nat → Bool) (x : Includes) : Nat → Bool :=
  bif InRange x.Greater 0 5 && (InRange x.Lesser 0 5 && M x.Greater.toNat) then put M x.Lesser.toNat else M
def pass (l : List Includes) (M : Nat → Bool) : Nat → Bool := l.foldl passStep M
def passes (l : List Includes) : Nat → (Nat → Bool) → (Nat → Bool)
  | 0, M => M
  | n + 1, M => passes l n (pass l M)
def marks (l : List Includes) (a : Nat) : Nat → Bool := passes l 6 (put (fun _ => false) a)
theorem passStep_le (M : Nat → Bool) (x : Includes) (r : Nat) (h : M r = true) : passStep M x r = true := by
  unfold passStep
  cases InRange x.Greater 0 5 && (InRange x.Lesser 0 5 && M x.Greater.toNat)
  · exact h
  · exact put_true.2 (.inr h)
theorem pass_le : ∀ (l : List Includes) (M : Nat → Bool) (r : Nat), M r = true → pass l M r = true
  | [], _, _, h => h
  | x :: l, M, r, h => pass_le l (passStep M x) r (passStep_le M x r h)
theorem pass_new : ∀ (l : List Includes) (M : Nat → Bool) (x : Includes), x ∈ l → 0 ≤ x.Greater ∧ x.Greater ≤ 5 → 0 ≤ x.Lesser ∧ x.Lesser ≤ 5 → M x.Greater.toNat = true → pass l M x.Lesser.toNat = true
  | y :: l, M, x, hx, h1, h2, h3 => by
    rcases List.mem_cons.1 hx with rfl | hx
    · refine pass_le l _ _ ?_
      unfold passStep
      rw [InRange_iff.2 h1, InRange_iff.2 h2, h3]
      exact put_true.2 (.inl rfl)
    · exact pass_new l (passStep M y) x hx h1 h2 (passStep_le M y _ h3)
theorem pass_sound : ∀ (l : List Includes) (P : Nat → Prop) (M : Nat → Bool) (l' : List Includes), (∀ x ∈ l, x ∈ l') → (∀ b c, b ≤ 5 → P b → isEdge l' b c → c ≤ 5 → P c) → (∀ r, M r = true → P r) → ∀ r, pass l M r = true → P r
  | [], _, _, _, _, _, h, r, hr => h r hr
  | x :: l, P, M, l', hl, hP, h, r, hr => by
    refine pass_sound l P (passStep M x) l' (fun y hy => hl y (by simp [hy])) hP (fun s hs => ?_) r hr
    unfold passStep at hs
    cases hc : InRange x.Greater 0 5 && (InRange x.Lesser 0 5 && M x.Greater.toNat)
    · rw [hc] at hs; exact h s hs
    · rw [hc] at hs
      simp only [Bool.and_eq_true, InRange_iff] at hc
      rcases put_true.1 hs with rfl | hs
      · exact hP _ _ (by omega) (h _ hc.2.2) ⟨x, hl x (by simp), by omega, by omega⟩ (by omega)
      · exact h s hs
theorem passes_sound (l : List Includes) (P : Nat → Prop) (hP : ∀ b c, b ≤ 5 → P b → isEdge l b c → c ≤ 5 → P c) : ∀ (n : Nat) (M : Nat → Bool), (∀ r, M r = true → P r) → ∀ r, passes l n M r = true → P r
  | 0, _, h => h
  | n + 1, M, h => passes_sound l P hP n (pass l M) (pass_sound l P M l (fun _ h => h) hP h)
def cnt (M : Nat → Bool) : Nat := (M 0).toNat + (M 1).toNat + (M 2).toNat + (M 3).toNat + (M 4).toNat + (M 5).toNat
theorem toNat_le_of {a b : Bool} (h : a = true → b = true) : a.toNat ≤ b.toNat := by cases a <;> cases b <;> simp_all
theorem cnt_le {M : Nat → Bool} : cnt M ≤ 6 := by
  have h := fun i => Bool.toNat_le (M i)
  have := h 0; have := h 1; have := h 2; have := h 3; have := h 4; have := h 5
  unfold cnt; omega
theorem cnt_mono {M N : Nat → Bool} (h : ∀ r, M r = true → N r = true) : cnt M ≤ cnt N := by
  have h := fun i => toNat_le_of (h i)
  have := h 0; have := h 1; have := h 2; have := h 3; have := h 4; have := h 5
  unfold cnt; omega
theorem cnt_lt {M N : Nat → Bool} (h : ∀ r, M r = true → N r = true) {s : Nat} (hs : s ≤ 5) (h0 : M s = false) (h1 : N s = true) : cnt M < cnt N := by
  have h := fun i => toNat_le_of (h i)
  have a0 := h 0; have a1 := h 1; have a2 := h 2; have a3 := h 3; have a4 := h 4; have a5 := h 5
  have e0 : (M s).toNat = 0 := by rw [h0]; rfl
  have e1 : (N s).toNat = 1 := by rw [h1]; rfl
  unfold cnt
  have : s = 0 ∨ s = 1 ∨ s = 2 ∨ s = 3 ∨ s = 4 ∨ s = 5 := by omega
  rcases this with rfl | rfl | rfl | rfl | rfl | rfl <;> omega
def Closed (l : List Includes) (M : Nat → Bool) : Prop := ∀ b c, b ≤ 5 → c ≤ 5 → M b = true → isEdge l b c → M c = true
theorem pass_closed {l : List Includes} {M : Nat → Bool} (h : Closed l M) : ∀ r, r ≤ 5 → pass l M r = true → M r = true := by
  intro r hr h1
  exact pass_sound l (fun r => r ≤ 5 → M r = true) M l (fun _ h => h) (fun b c hb hP he hc _ => h b c hb hc (hP hb) he) (fun r h _ => h) r h1 hr
theorem pass_closed' {l : List Includes} {M : Nat → Bool} (h : Closed l M) : Closed l (pass l M) := fun b c hb hc h1 he =>
  pass_le l M c (h b c hb hc (pass_closed h b hb h1) he)
theorem pass_more {l : List Includes} {M : Nat → Bool} (h : ¬ Closed l M) : cnt M < cnt (pass l M) := by
  apply Classical.byContradiction
  intro hc
  refine h fun b c hb hc' h1 he => ?_
  obtain ⟨x, hx, e1, e2⟩ := he
  have hn := pass_new l M x hx (by omega) (by omega) (by rw [show x.Greater.toNat = b by omega]; exact h1)
  rw [show x.Lesser.toNat = c by omega] at hn
  cases hm : M c with
  | true => rfl
  | false => exact absurd (cnt_lt (pass_le l M) hc' hm hn) hc
theorem passes_closed (l : List Includes) : ∀ (n : Nat) (M : Nat → Bool), (Closed l M ∨ 7 ≤ n + cnt M) → Closed l (passes l n M)
  | 0, M, h => by
    rcases h with h | h
    · exact h
    · have := cnt_le (M := M); omega
  | n + 1, M, h => by
    refine passes_closed l n (pass l M) ?_
    by_cases hc : Closed l M
    · exact .inl (pass_closed' hc)
    · have := pass_more hc
      rcases h with h | h
      · exact absurd h hc
      · exact .inr (by omega)
theorem passes_le (l : List Includes) : ∀ (n : Nat) (M : Nat → Bool) (r : Nat), M r = true → passes l n M r = true
  | 0, _, _, h => h
  | n + 1, M, r, h => passes_le l n _ r (pass_le l M r h)
theorem marks_iff {l : List Includes} {a r : Nat} (ha : a ≤ 5) (hr : r ≤ 5) : marks l a r = true ↔ Reach l a r := by
  constructor
  · intro h
    refine passes_sound l (Reach l a) (fun b c _ h he hc => h.step he hc) 6 _ (fun s hs => ?_) r h
    rcases put_true.1 hs with rfl | h
    · exact .refl
    · simp at h
  · intro h
    have hcl : Closed l (marks l a) := passes_closed l 6 _ (.inr (by
      have : a = 0 ∨ a = 1 ∨ a = 2 ∨ a = 3 ∨ a = 4 ∨ a = 5 := by omega
      rcases this with rfl | rfl | rfl | rfl | rfl | rfl <;> decide))
    have key : ∀ r, Reach l a r → r ≤ 5 ∧ marks l a r = true := by
      intro r h
      induction h with
      | refl => exact ⟨ha, passes_le l 6 _ a (put_true.2 (.inl rfl))⟩
      | step _ he hc ih => exact ⟨hc, hcl _ _ ih.1 hc ih.2 he⟩
    exact (key r h).2
def Under (l : List Includes) (role : Int) : List Int := bif InRange role 0 5 then those (marks l role.toNat) else []
theorem Under_mem {l : List Includes} {role x : Int} : x ∈ Under l role ↔ 0 ≤ role ∧ role ≤ 5 ∧ 0 ≤ x ∧ x ≤ 5 ∧ marks l role.toNat x.toNat = true := by
  unfold Under
  cases h : InRange role 0 5
  · simp only [cond_false, List.not_mem_nil, false_iff]
    intro ⟨h1, h2, _⟩
    rw [InRange_iff.2 ⟨h1, h2⟩] at h; cases h
  · rw [InRange_iff] at h
    simp only [cond_true, those_mem, h.1, h.2, true_and]
end Acc
end
section
/- Roles: the printed functions. -/
namespace Acc
open Go Go.Ev
def markRow (M : Nat → Bool) : List (List D) := [[D.bool (M 0)], [D.bool (M 1)], [D.bool (M 2)], [D.bool (M 3)], [D.bool (M 4)], [D.bool (M 5)]]
theorem le5 {P : Nat → Prop} (h0 : P 0) (h1 : P 1) (h2 : P 2) (h3 : P 3) (h4 : P 4) (h5 : P 5) : ∀ r, r ≤ 5 → P r
  | 0, _ => h0 | 1, _ => h1 | 2, _ => h2 | 3, _ => h3 | 4, _ => h4 | 5, _ => h5
  | n + 6, h => by omega
theorem cell_mark (M : Nat → Bool) : ∀ r, r ≤ 5 → cell (markRow M) r 0 = D.bool (M r) := le5 rfl rfl rfl rfl rfl rfl
theorem set_mark (M : Nat → Bool) : ∀ r, r ≤ 5 → setCells (markRow M) r 0 [D.bool true] = markRow (put M r) := le5 rfl rfl rfl rfl rfl rfl
theorem mark_len (M : Nat → Bool) : (markRow M).length = 6 := rfl
theorem collect_go {B : Type} (M : Nat → Bool) (e : List Int → B) : goList (fun k (_ : Int) (o : List Int) => bif M k then .inl (o ++ [(k : Int)]) else .inl o) e [0, 1, 2, 3, 4, 5] 0 [] = e (those M) := by
  simp only [goList, those]
  cases h0 : M 0 <;> cases h1 : M 1 <;> cases h2 : M 2 <;> cases h3 : M 3 <;> cases h4 : M 4 <;> cases h5 : M 5 <;> simp [h0, h1, h2, h3, h4, h5]
theorem map_one (l : List Int) (x : Int) : List.map row l ++ [[D.int x]] = List.map row (l ++ [x]) := by simp
theorem leN_of {a b : Nat} (h : a ≤ b) : leN a b = true := leN_iff.2 h
@[simp] theorem sRolesUnder_ok (l : List Includes) (role : Int) (h_l : ok l) : sRolesUnder.t [D.rows (List.map row l), D.int role] = some [D.rows (List.map row (Under l role))] := by
  unfold Under
  cases hr : InRange role 0 5
  · simp [sRolesUnder.t, sRolesUnder.b, hr]
  rw [InRange_iff] at hr
  obtain ⟨a, ha, rfl⟩ : ∃ a : Nat, a ≤ 5 ∧ role = (a : Int) := ⟨role.toNat, by omega, by omega⟩
  have h2 : ∀ (n : Int) (M : Nat → Bool), iter sRolesUnder.l2 [D.int n, D.int 0, D.rows (List.map row l), D.rows [], D.rows (markRow M)] = some (.inl [D.int n, D.rows (List.map row l), D.rows [], D.rows (markRow (pass l M))]) := by
    intro n M
    have key := iter_list (f := sRolesUnder.l2) l (fun k (M : Nat → Bool) => [D.int n, D.int (k : Int), D.rows (List.map row l), D.rows [], D.rows (markRow M)]) (fun k (M : Nat → Bool) => True) (fun k x (M : Nat → Bool) => .inl (passStep M x)) (fun (M : Nat → Bool) => .inl [D.int n, D.rows (List.map row l), D.rows [], D.rows (markRow M)])
      (fun k x M hx hI => by
        have hk : k < l.length := (List.getElem?_eq_some_iff.1 hx).1
        have hxl := List.mem_of_getElem? hx
        refine ⟨?_, fun _ _ => trivial⟩
        simp [sRolesUnder.l2, cell_map hx, lt_k hk, w64_k hk (by have := h_l.1; omega), passStep]
        cases hg : InRange x.Greater 0 5
        · rfl
        cases hs : InRange x.Lesser 0 5
        · rfl
        rw [InRange_iff] at hg hs
        have e1 : cell (markRow M) x.Greater.toNat 0 = D.bool (M x.Greater.toNat) := cell_mark M _ (by omega)
        have e2 : leI 0 x.Greater = true := leI_iff.2 hg.1
        have e3 : ltI x.Greater 6 = true := ltI_iff.2 (by omega)
        have e4 : leI 0 x.Lesser = true := leI_iff.2 hs.1
        have e5 : ltI x.Lesser 6 = true := ltI_iff.2 (by omega)
        simp [e1, e2, e3, e4, e5, mark_len, set_mark M x.Lesser.toNat (by omega)]
        cases M x.Greater.toNat <;> rfl)
      (fun M hI => by simp [sRolesUnder.l2]) M trivial
    rw [goList_fold] at key
    exact key
  have h1 := iter_list (f := sRolesUnder.l1) ([0, 1, 2, 3, 4, 5] : List Int) (fun k (M : Nat → Bool) => [D.int (k : Int), D.rows (List.map row l), D.rows [], D.rows (markRow M)]) (fun _ _ => True) (fun _ _ M => .inl (pass l M)) (fun M => .inl [D.rows [], D.rows (markRow M)])
    (fun k x M hx _ => by
      have hk : k < 6 := (List.getElem?_eq_some_iff.1 hx).1
      refine ⟨?_, fun _ _ => trivial⟩
      have e : leI (k : Int) 5 = true := leI_iff.2 (by omega)
      simp only [sRolesUnder.l1, arg_zero, arg_succ, i_int, r_rows, e, cond_true]
      rw [loop_some (h2 (k : Int) M)]
      simp [w64_k hk])
    (fun M _ => by simp [sRolesUnder.l1]; rfl) (put (fun _ => false) a) trivial
  rw [goList_fold] at h1
  have h3 := iter_list (f := sRolesUnder.l3) ([0, 1, 2, 3, 4, 5] : List Int) (fun k (o : List Int) => [D.int (k : Int), D.rows (List.map row o), D.rows (markRow (marks l a))]) (fun k o => o.length ≤ k) (fun k _ o => bif marks l a k then .inl (o ++ [(k : Int)]) else .inl o) (fun o => .inl [D.rows (List.map row o)])
    (fun k x o hx hI => by
      have hk : k < 6 := (List.getElem?_eq_some_iff.1 hx).1
      have e : leI (k : Int) 5 = true := leI_iff.2 (by omega)
      have e1 : ltI (k : Int) 6 = true := ltI_iff.2 (by omega)
      refine ⟨?_, ?_⟩
      · simp [sRolesUnder.l3, e, e1, mark_len, cell_mark (marks l a) k (by omega), w64_k hk, leN_of (show o.length + 1 ≤ 4294967296 by omega)]
        cases marks l a k <;> simp
      · cases marks l a k <;> simp <;> omega)
    (fun o _ => by simp [sRolesUnder.l3]; rfl) [] (by simp)
  rw [collect_go] at h3
  have e0 : leI 0 (a : Int) = true := le_0 a
  have e1 : ltI (a : Int) ((6 : Nat) : Int) = true := ltI_iff.2 (by omega)
  have e2 : InRange (a : Int) 0 5 = true := InRange_iff.2 (by omega)
  simp only [sRolesUnder.t, sRolesUnder.b, res_zero, res_succ, i_int, r_rows, sl1In_ok, bind_some, b_bool, e2, Bool.not_true, cond_false, cond_true, List.length_replicate, e0, e1, Bool.and_self, Int.toNat_natCast]
  have e3 : setCells (List.replicate 6 [D.z]) a 0 [D.bool true] = markRow (put (fun _ => false) a) := set_mark (fun _ => false) a ha
  rw [e3]
  refine (loop_some h1).trans ?_
  simp only [Sum.elim_inl, arg_zero, arg_succ, r_rows]
  exact loop_some h3
end Acc
end
section
/- Roles: the breadth first search. -/
namespace Acc
open Go Go.Ev
structure Bf where
  O : Nat → Bool
  off : Nat
  len : Nat
  bl : List Int
def Bf.win (s : Bf) : List Int := (s.bl.drop s.off).take s.len
def bfStep (n : Int) (s : Bf) (x : Includes) : Bf :=
  bif x.Greater == n && (InRange x.Lesser 0 5 && !s.O x.Lesser.toNat) then ⟨put s.O x.Lesser.toNat, 0, (s.win ++ [x.Lesser]).length, s.win ++ [x.Lesser]⟩ else s
theorem win_put (M : Nat → Bool) (w : List Int) : Bf.win ⟨M, 0, w.length, w⟩ = w := by simp [Bf.win]
theorem cnt_put {M : Nat → Bool} : ∀ r, r ≤ 5 → M r = false → cnt (put M r) = cnt M + 1 := by
  refine le5 ?_ ?_ ?_ ?_ ?_ ?_ <;> (intro h; simp [cnt, put, h, Nat.beq] <;> omega)
theorem bf_fold (n : Int) : ∀ (l l' : List Includes) (s : Bf), (∀ x ∈ l, x ∈ l') → s.len = s.win.length →
    (∀ r, s.O r = true → (l.foldl (bfStep n) s).O r = true) ∧
    (∀ x ∈ l, x.Greater = n → 0 ≤ x.Lesser ∧ x.Lesser ≤ 5 → (l.foldl (bfStep n) s).O x.Lesser.toNat = true) ∧
    (∀ r, (l.foldl (bfStep n) s).O r = true → s.O r = true ∨ (r ≤ 5 ∧ (r : Int) ∈ (l.foldl (bfStep n) s).win ∧ ∃ x ∈ l', x.Greater = n ∧ x.Lesser = r)) ∧
    (∀ t ∈ (l.foldl (bfStep n) s).win, t ∈ s.win ∨ (0 ≤ t ∧ t ≤ 5 ∧ ∃ x ∈ l', x.Greater = n ∧ x.Lesser = t)) ∧
    (∀ t ∈ s.win, t ∈ (l.foldl (bfStep n) s).win) ∧
    (l.foldl (bfStep n) s).win.length + cnt s.O = s.win.length + cnt (l.foldl (bfStep n) s).O ∧
    (l.foldl (bfStep n) s).len = (l.foldl (bfStep n) s).win.length
  | [], l', s, _, h => ⟨fun _ h => h, fun _ h => by simp at h, fun _ h => .inl h, fun _ h => .inl h, fun _ h => h, rfl, h⟩
  | x :: l, l', s, hl, h => by
    rw [List.foldl_cons]
    cases hc : x.Greater == n && (InRange x.Lesser 0 5 && !s.O x.Lesser.toNat) with
    | false =>
      have e : bfStep n s x = s := by unfold bfStep; rw [hc]; rfl
      rw [e]
      obtain ⟨h1, h2, h3, h4, h5, h6, h7⟩ := bf_fold n l l' s (fun y hy => hl y (by simp [hy])) h
      refine ⟨h1, fun y hy hg hs => ?_, h3, h4, h5, h6, h7⟩
      rcases List.mem_cons.1 hy with rfl | hy
      · have e1 : (y.Greater == n) = true := by simp [hg]
        rw [e1, InRange_iff.2 hs] at hc
        exact h1 _ (by simpa using hc)
      · exact h2 y hy hg hs
    | true =>
      have e : bfStep n s x = ⟨put s.O x.Lesser.toNat, 0, (s.win ++ [x.Lesser]).length, s.win ++ [x.Lesser]⟩ := by unfold bfStep; rw [hc]; rfl
      simp only [Bool.and_eq_true, InRange_iff, beq_iff_eq, Bool.not_eq_true'] at hc
      rw [e]
      have ew : Bf.win ⟨put s.O x.Lesser.toNat, 0, (s.win ++ [x.Lesser]).length, s.win ++ [x.Lesser]⟩ = s.win ++ [x.Lesser] := win_put _ _
      obtain ⟨h1, h2, h3, h4, h5, h6, h7⟩ := bf_fold n l l' ⟨put s.O x.Lesser.toNat, 0, (s.win ++ [x.Lesser]).length, s.win ++ [x.Lesser]⟩ (fun y hy => hl y (by simp [hy])) (by rw [ew])
      rw [ew] at h4 h5 h6
      have hx : x ∈ l' := hl x (by simp)
      refine ⟨fun r hr => h1 r (put_true.2 (.inr hr)), fun y hy hg hs => ?_, fun r hr => ?_, fun t ht => ?_, fun t ht => h5 t (by simp [ht]), ?_, h7⟩
      · rcases List.mem_cons.1 hy with rfl | hy
        · exact h1 _ (put_true.2 (.inl rfl))
        · exact h2 y hy hg hs
      · rcases h3 r hr with h | h
        · rcases put_true.1 h with rfl | h
          · refine .inr ⟨by omega, h5 _ ?_, x, hx, hc.1, by omega⟩
            simp; omega
          · exact .inl h
        · exact .inr h
      · rcases h4 t ht with h | h
        · rcases List.mem_append.1 h with h | h
          · exact .inl h
          · simp at h; subst h; exact .inr ⟨hc.2.1.1, hc.2.1.2, x, hx, hc.1, rfl⟩
        · exact .inr h
      · have := cnt_put x.Lesser.toNat (by omega) hc.2.2
        have e6 : (s.win ++ [x.Lesser]).length = s.win.length + 1 := by simp
        simp only [this] at h6
        generalize (s.win ++ [x.Lesser]).length = z at *
        omega
def bfTail (s : Bf) : List D := [D.bool false, D.bool false, D.bool false, D.bool false, D.bool false, D.bool false, D.bool (s.O 0), D.bool (s.O 1), D.bool (s.O 2), D.bool (s.O 3), D.bool (s.O 4), D.bool (s.O 5), D.rows (List.map row s.bl)]
theorem nth_marks (M : Nat → Bool) : ∀ r, r ≤ 5 → nth D.z [D.bool (M 0), D.bool (M 1), D.bool (M 2), D.bool (M 3), D.bool (M 4), D.bool (M 5)] r = D.bool (M r) := le5 rfl rfl rfl rfl rfl rfl
theorem bf_in (l : List Includes) (h_l : ok l) (n : Int) (s : Bf) (hs : s.win.length ≤ 7) : iter ibelow.l2 ([D.int s.off, D.int s.len, D.int n, D.int (l.length : Int), D.int 0, D.rows (List.map row l)] ++ bfTail s) =
    some (.inl ([D.int (l.foldl (bfStep n) s).off, D.int (l.foldl (bfStep n) s).len, D.rows (List.map row l)] ++ bfTail (l.foldl (bfStep n) s))) := by
  have key := iter_list (f := ibelow.l2) l (fun k (s : Bf) => [D.int s.off, D.int s.len, D.int n, D.int (l.length : Int), D.int (k : Int), D.rows (List.map row l), D.bool false, D.bool false, D.bool false, D.bool false, D.bool false, D.bool false, D.bool (s.O 0), D.bool (s.O 1), D.bool (s.O 2), D.bool (s.O 3), D.bool (s.O 4), D.bool (s.O 5), D.rows (List.map row s.bl)]) (fun k (s : Bf) => s.win.length ≤ 7 + k) (fun k x (s : Bf) => .inl (bfStep n s x)) (fun (s : Bf) => .inl [D.int s.off, D.int s.len, D.rows (List.map row l), D.bool false, D.bool false, D.bool false, D.bool false, D.bool false, D.bool false, D.bool (s.O 0), D.bool (s.O 1), D.bool (s.O 2), D.bool (s.O 3), D.bool (s.O 4), D.bool (s.O 5), D.rows (List.map row s.bl)])
    (fun k x s hx hI => by
      have hk : k < l.length := (List.getElem?_eq_some_iff.1 hx).1
      have hxl := List.mem_of_getElem? hx
      refine ⟨?_, ?_⟩
      · simp [ibelow.l2, cell_map hx, lt_k hk, w64_k hk (by have := h_l.1; omega), bfStep, iisRole.t, iisRole.b]
        cases hn : x.Greater == n
        · simp [bfStep, hn]
        cases hs : InRange x.Lesser 0 5
        · simp [bfStep, hn, hs]
        rw [InRange_iff] at hs
        have e4 : leI 0 x.Lesser = true := leI_iff.2 hs.1
        have e5 : ltI x.Lesser 6 = true := ltI_iff.2 (by omega)
        have e6 : min s.len (s.bl.length - s.off) = s.win.length := by simp [Bf.win]
        have e7 : leN (min s.len (s.bl.length - s.off) + 1) 4294967296 = true := leN_of (by rw [e6]; have := h_l.1; omega)
        rw [nth_marks s.O _ (by omega)]
        cases hO : s.O x.Lesser.toNat
        · simp [bfStep, hn, InRange_iff.2 hs, hO, e4, e5, e7, put, Bf.win]
        · simp [bfStep, hn, InRange_iff.2 hs, hO, e4, e5]
      unfold bfStep
      cases x.Greater == n && (InRange x.Lesser 0 5 && !s.O x.Lesser.toNat)
      · simp; omega
      · simp only [cond_true, Sum.inl.injEq]; rintro s' rfl; rw [win_put]; simp; omega)
    (fun s hI => by simp [ibelow.l2]) s (by first | (simp; done) | (simp; omega) | omega)
  rw [goList_fold] at key
  exact key
structure BfInv (l : List Includes) (a : Nat) (s : Bf) : Prop where
  out : ∀ r, s.O r = true → r ≤ 5 ∧ Reach l a r
  todo : ∀ t ∈ s.win, 0 ≤ t ∧ t ≤ 5 ∧ Reach l a t.toNat
  done : ∀ v : Nat, (v = a ∨ s.O v = true) → (v : Int) ∈ s.win ∨ ∀ c, c ≤ 5 → isEdge l v c → s.O c = true
  len : s.len = s.win.length
  few : s.win.length ≤ 1 + cnt s.O
theorem win_cons {s : Bf} {t : Int} {w : List Int} (h : s.win = t :: w) (hl : s.len = s.win.length) : s.bl[s.off]? = some t ∧ Bf.win ⟨s.O, s.off + 1, s.len - 1, s.bl⟩ = w := by
  unfold Bf.win at *
  have e := congrArg (fun z => z[0]?) h
  have h2 := congrArg (List.drop 1) h
  simp at e h2
  have hn : 0 < s.len := by rw [hl, h]; simp
  rw [List.getElem?_take_of_lt hn] at e
  simp at e
  refine ⟨e, ?_⟩
  rw [← h2, ← List.drop_one, List.drop_take, List.drop_drop]
theorem bf_step {l : List Includes} {a : Nat} {s : Bf} (h : BfInv l a s) {t : Int} {w : List Int} (hw : s.win = t :: w) :
    BfInv l a (l.foldl (bfStep t) ⟨s.O, s.off + 1, s.len - 1, s.bl⟩) ∧ (l.foldl (bfStep t) ⟨s.O, s.off + 1, s.len - 1, s.bl⟩).win.length + cnt s.O = w.length + cnt (l.foldl (bfStep t) ⟨s.O, s.off + 1, s.len - 1, s.bl⟩).O := by
  have hc := win_cons hw h.len
  have ht := h.todo t (by rw [hw]; simp)
  obtain ⟨h1, h2, h3, h4, h5, h6, h7⟩ := bf_fold t l l ⟨s.O, s.off + 1, s.len - 1, s.bl⟩ (fun _ h => h) (by rw [hc.2]; show s.len - 1 = _; rw [h.len, hw]; simp)
  rw [hc.2] at h4 h5 h6
  have edge : ∀ (r : Nat), (∃ x ∈ l, x.Greater = t ∧ x.Lesser = (r : Int)) → isEdge l t.toNat r := fun r ⟨x, hx, e1, e2⟩ => ⟨x, hx, by omega, e2⟩
  refine ⟨⟨fun r hr => ?_, fun u hu => ?_, fun v hv => ?_, h7, ?_⟩, h6⟩
  · rcases h3 r hr with h' | ⟨hr5, _, h'⟩
    · exact h.out r h'
    · exact ⟨hr5, ht.2.2.step (edge r h') hr5⟩
  · rcases h4 u hu with h' | ⟨hu0, hu5, x, hx, e1, e2⟩
    · exact h.todo u (by rw [hw]; simp [h'])
    · exact ⟨hu0, hu5, ht.2.2.step (edge u.toNat ⟨x, hx, e1, by omega⟩) (by omega)⟩
  · have old : (v = a ∨ s.O v = true) → (v : Int) ∈ (l.foldl (bfStep t) ⟨s.O, s.off + 1, s.len - 1, s.bl⟩).win ∨ ∀ c, c ≤ 5 → isEdge l v c → (l.foldl (bfStep t) ⟨s.O, s.off + 1, s.len - 1, s.bl⟩).O c = true := by
      intro hv
      rcases h.done v hv with h' | h'
      · rw [hw] at h'
        rcases List.mem_cons.1 h' with e | h'
        · refine .inr fun c hc5 ⟨x, hx, e1, e2⟩ => ?_
          have := h2 x hx (by omega) (by omega)
          rw [show x.Lesser.toNat = c by omega] at this; exact this
        · exact .inl (h5 _ h')
      · exact .inr fun c hc5 he => h1 c (h' c hc5 he)
    rcases hv with hv | hv
    · exact old (.inl hv)
    · rcases h3 v hv with h' | ⟨_, h', _⟩
      · exact old (.inr h')
      · exact .inl h'
  · have := h.few; rw [hw] at this; simp at this
    have h6 : _ + cnt s.O = _ := h6
    omega
theorem below_iter (l : List Includes) (h_l : ok l) (a : Nat) : ∀ (n : Nat) (s : Bf), s.win.length + 6 ≤ n + cnt s.O → BfInv l a s →
    ∃ O : Nat → Bool, iter ibelow.l1 ([D.int s.off, D.int s.len, D.rows (List.map row l)] ++ bfTail s) = some (.inl [D.bool false, D.bool false, D.bool false, D.bool false, D.bool false, D.bool false, D.bool (O 0), D.bool (O 1), D.bool (O 2), D.bool (O 3), D.bool (O 4), D.bool (O 5)]) ∧
      ∀ r, (O r = true → r ≤ 5 ∧ Reach l a r) ∧ (Reach l a r → r = a ∨ O r = true) := by
  intro n
  have nil : ∀ s : Bf, BfInv l a s → s.win = [] → ∃ O : Nat → Bool, iter ibelow.l1 ([D.int s.off, D.int s.len, D.rows (List.map row l)] ++ bfTail s) = some (.inl [D.bool false, D.bool false, D.bool false, D.bool false, D.bool false, D.bool false, D.bool (O 0), D.bool (O 1), D.bool (O 2), D.bool (O 3), D.bool (O 4), D.bool (O 5)]) ∧
      ∀ r, (O r = true → r ≤ 5 ∧ Reach l a r) ∧ (Reach l a r → r = a ∨ O r = true) := by
    intro s h hw
    refine ⟨s.O, iter_inr ?_, fun r => ⟨h.out r, fun hr => ?_⟩⟩
    · have : s.len = 0 := by rw [h.len, hw]; rfl
      simp [ibelow.l1, bfTail, this]
    · induction hr with
      | refl => exact .inl rfl
      | step _ he hc ih =>
        rcases h.done _ ih with h' | h'
        · rw [hw] at h'; simp at h'
        · exact .inr (h' _ hc he)
  induction n with
  | zero =>
    intro s hn h
    have : s.win = [] := by have := cnt_le (M := s.O); exact List.eq_nil_of_length_eq_zero (by omega)
    exact nil s h this
  | succ n ih =>
    intro s hn h
    cases hw : s.win with
    | nil => exact nil s h hw
    | cons t w =>
      have hc := win_cons hw h.len
      obtain ⟨hi, h6⟩ := bf_step h hw
      obtain ⟨O, hO, hr⟩ := ih _ (by rw [hw] at hn; simp at hn; omega) hi
      refine ⟨O, ?_, hr⟩
      rw [← hO]
      refine iter_step ?_
      have hlen : s.len = w.length + 1 := by rw [h.len, hw]; rfl
      have hin := bf_in l h_l t ⟨s.O, s.off + 1, s.len - 1, s.bl⟩ (by rw [hc.2]; have h8 := cnt_le (M := s.O); have h9 := h.few; rw [hw] at h9; simp at h9; omega)
      have e0 : ltI 0 (s.len : Int) = true := ltI_iff.2 (by omega)
      have e1 : leI 1 (s.len : Int) = true := leI_iff.2 (by omega)
      have e2 : cell (List.map row s.bl) s.off 0 = D.int t := by rw [cell_map hc.1]; rfl
      simp only [bfTail, List.cons_append, List.nil_append] at hin ⊢
      simp only [ibelow.l1, arg_zero, arg_succ, i_int, r_rows, b_bool, Int.toNat_natCast, gtI_eq, e0, e1, le_self, Bool.and_self, cond_true, List.length_map, Nat.zero_add, e2, Nat.add_comm 1 s.off]
      rw [loop_some hin]
      rfl
theorem ibelow_ok (l : List Includes) (a : Nat) (ha : a ≤ 5) (h_l : ok l) : ∃ O : Nat → Bool, ibelow.t [D.rows (List.map row l), D.int a] = some [D.st [D.bool (O 0), D.bool (O 1), D.bool (O 2), D.bool (O 3), D.bool (O 4), D.bool (O 5)]] ∧
      ∀ r, r ≤ 5 → (O r || Nat.beq r a) = marks l a r := by
  obtain ⟨O, hO, hr⟩ := below_iter l h_l a 7 ⟨fun _ => false, 0, 1, [(a : Int)]⟩ (by simp [Bf.win, cnt]) ⟨fun r h => by simp at h, fun t ht => by simp [Bf.win] at ht; subst ht; exact ⟨by omega, by omega, .refl⟩, fun v hv => by simp at hv; subst hv; simp [Bf.win], by simp [Bf.win], by simp [Bf.win, cnt]⟩
  refine ⟨O, ?_, fun r hr5 => ?_⟩
  · simp only [ibelow.t, ibelow.b, res_zero, res_succ, r_rows, i_int]
    refine (loop_some hO).trans ?_
    rfl
  · rw [Bool.eq_iff_iff, marks_iff ha hr5]
    constructor
    · intro h
      cases hO : O r with
      | true => exact ((hr r).1 hO).2
      | false => rw [hO] at h; have := Nat.eq_of_beq_eq_true (by simpa using h); subst this; exact .refl
    · intro h
      rcases (hr r).2 h with rfl | h
      · simp
      · simp [h]
@[simp] theorem iRolesUnder_ok (l : List Includes) (role : Int) (h_l : ok l) : iRolesUnder.t [D.rows (List.map row l), D.int role] = some [D.rows (List.map row (Under l role))] := by
  unfold Under
  cases hr : InRange role 0 5
  · simp [iRolesUnder.t, iRolesUnder.b, iisRole.t, iisRole.b, hr]
  rw [InRange_iff] at hr
  obtain ⟨a, ha, rfl⟩ : ∃ a : Nat, a ≤ 5 ∧ role = (a : Int) := ⟨role.toNat, by omega, by omega⟩
  obtain ⟨O, hO, hm⟩ := ibelow_ok l a ha h_l
  have h3 := iter_list (f := iRolesUnder.l1) ([0, 1, 2, 3, 4, 5] : List Int) (fun k (o : List Int) => [D.int (a : Int), D.bool (O 0), D.bool (O 1), D.bool (O 2), D.bool (O 3), D.bool (O 4), D.bool (O 5), D.int (k : Int), D.rows (List.map row o)]) (fun k o => o.length ≤ k) (fun k _ o => bif marks l a k then .inl (o ++ [(k : Int)]) else .inl o) (fun o => .inl [D.rows (List.map row o)])
    (fun k x o hx hI => by
      have hk : k < 6 := (List.getElem?_eq_some_iff.1 hx).1
      have e1 : ltI (k : Int) 6 = true := ltI_iff.2 (by omega)
      refine ⟨?_, ?_⟩
      · simp only [iRolesUnder.l1, arg_zero, arg_succ, i_int, r_rows, b_bool, e1, le_0, Bool.and_self, cond_true, Int.toNat_natCast, nth_marks O k (by omega)]
        rw [← hm k (by omega)]
        have e2 : ((k : Int) == (a : Int)) = Nat.beq k a := by rw [Bool.eq_iff_iff]; simp; omega
        rw [e2]
        simp [w64_k hk, leN_of (show o.length + 1 ≤ 4294967296 by omega)]
        cases O k <;> cases Nat.beq k a <;> simp
      · cases marks l a k <;> simp <;> omega)
    (fun o _ => by simp [iRolesUnder.l1]) [] (by simp)
  rw [collect_go] at h3
  have e2 : InRange (a : Int) 0 5 = true := InRange_iff.2 (by omega)
  simp only [iRolesUnder.t, iRolesUnder.b, iisRole.t, iisRole.b, res_zero, res_succ, i_int, r_rows, iInRange_ok, bind_some, b_bool, e2, Bool.not_true, cond_false, cond_true, hO, f_st, Int.toNat_natCast]
  exact loop_some h3
end Acc
end
section
/- Roles held, and leaves. -/
namespace Acc
open Go Go.Ev
def givesRole (person now age : Int) (f : Fact) : Bool := f.Kind == 1 && (f.Subject == person && HoldsAt f now age)
def putAll (U : List Int) (M : Nat → Bool) : Nat → Bool := U.foldl (fun M r => put M r.toNat) M
theorem putAll_true : ∀ {U : List Int} {M : Nat → Bool} {r : Nat}, putAll U M r = true ↔ (∃ u ∈ U, u.toNat = r) ∨ M r = true
  | [], M, r => by simp [putAll]
  | u :: U, M, r => by
    have := @putAll_true U (put M u.toNat) r
    unfold putAll at *
    rw [List.foldl_cons, this, put_true]
    simp only [List.mem_cons, exists_eq_or_imp]
    constructor
    · rintro (h | h | h)
      · exact .inl (.inr h)
      · exact .inl (.inl h)
      · exact .inr h
    · rintro ((h | h) | h)
      · exact .inr (.inl h)
      · exact .inl h
      · exact .inr (.inr h)
def heldStep (l : List Includes) (person now age : Int) (M : Nat → Bool) (f : Fact) : Nat → Bool := bif givesRole person now age f then putAll (Under l f.Value) M else M
def heldMarks (l : List Includes) (s : List Fact) (person now age : Int) : Nat → Bool := s.foldl (heldStep l person now age) fun _ => false
def RolesOf (l : List Includes) (s : List Fact) (person now age : Int) : List Int := those (heldMarks l s person now age)
theorem Under_len (l : List Includes) (r : Int) : (Under l r).length ≤ 6 := by
  unfold Under; cases InRange r 0 5
  · simp
  · exact those_len _
def heldApp (l : List Includes) (person now age : Int) (o : List Int) (f : Fact) : List Int := bif givesRole person now age f then o ++ Under l f.Value else o
theorem heldApp_len (l : List Includes) (person now age : Int) : ∀ (s : List Fact) (o : List Int), (s.foldl (heldApp l person now age) o).length ≤ o.length + 6 * s.length
  | [], o => by simp
  | f :: s, o => by
    have := heldApp_len l person now age s (heldApp l person now age o f)
    have h2 : (heldApp l person now age o f).length ≤ o.length + 6 := by
      unfold heldApp; cases givesRole person now age f
      · simp
      · have := Under_len l f.Value; simp; omega
    simp only [List.foldl_cons, List.length_cons]; omega
theorem held_same (l : List Includes) (person now age : Int) : ∀ (s : List Fact) (o : List Int) (M : Nat → Bool), (∀ x, x ∈ o ↔ 0 ≤ x ∧ x ≤ 5 ∧ M x.toNat = true) →
    ∀ x, x ∈ s.foldl (heldApp l person now age) o ↔ 0 ≤ x ∧ x ≤ 5 ∧ (s.foldl (heldStep l person now age) M) x.toNat = true
  | [], _, _, h => h
  | f :: s, o, M, h => by
    refine held_same l person now age s _ _ fun x => ?_
    unfold heldApp heldStep
    cases givesRole person now age f
    · exact h x
    · simp only [cond_true, List.mem_append, putAll_true, h x]
      constructor
      · rintro (⟨h1, h2, h3⟩ | h1)
        · exact ⟨h1, h2, .inr h3⟩
        · have := Under_mem.1 h1; exact ⟨by omega, by omega, .inl ⟨x, h1, rfl⟩⟩
      · rintro ⟨h1, h2, ⟨u, hu, e⟩ | h3⟩
        · have := Under_mem.1 hu
          have : u = x := by omega
          subst this; exact .inr hu
        · exact .inl ⟨h1, h2, h3⟩
theorem zs_row (zs : List Int) : zsOf (List.map row zs) = zs := by
  unfold zsOf; rw [List.map_map]; exact List.map_id zs
theorem Sort_int_ok (zs : List Int) (h : zs.length ≤ 4294967296) : Sort_int.t [D.rows (List.map row zs)] = some [D.rows (List.map row (zs.mergeSort fun x y => decide (x ≤ y)))] := by
  simp only [Sort_int.t, sortF, nth_zero, r_rows, zs_row, decide_eq_true h, cond_true]; rfl
theorem Compact_int_ok (zs : List Int) (h : zs.length ≤ 4294967296) : Compact_int.t [D.rows (List.map row zs)] = some [D.rows (List.map row (Lib.compact zs))] := by
  simp only [Compact_int.t, compactF, nth_zero, r_rows, zs_row, decide_eq_true h, cond_true]; rfl
@[simp] theorem iRolesOf_ok (l : List Includes) (s : List Fact) (person : Int) (now : Int) (age : Int) (h_l : ok l) (h_s : ok s) : iRolesOf.t [D.rows (List.map row l), D.rows (List.map row s), D.int person, D.int now, D.int age] = some [D.rows (List.map row (RolesOf l s person now age))] := by
  have key := iter_list (f := iRolesOf.l1) s (fun k (o : List Int) => [D.int person, D.int now, D.int age, D.int (s.length : Int), D.int (k : Int), D.rows (List.map row l), D.rows (List.map row o), D.rows (List.map row s)]) (fun k (o : List Int) => o.length ≤ 6 * k) (fun k x (o : List Int) => .inl (heldApp l person now age o x)) (fun (o : List Int) => .inl [D.rows (List.map row o)])
    (fun k x o hx hI => by
      have hk : k < s.length := (List.getElem?_eq_some_iff.1 hx).1
      have hxl := List.mem_of_getElem? hx
      refine ⟨?_, ?_⟩
      · simp [iRolesOf.l1, cell_map hx, lt_k hk, w64_k hk (by have := h_s.1; omega), h_l]
        have hu := Under_len l x.Value
        have hb : leN (o.length + (Under l x.Value).length) 4294967296 = true := leN_of (by have := h_s.1; omega)
        simp [heldApp, givesRole, hb]
        cases x.Kind == 1 <;> cases x.Subject == person <;> cases HoldsAt x now age <;> simp
      have hu := Under_len l x.Value
      unfold heldApp
      cases givesRole person now age x
      · simp; omega
      · simp; omega)
    (fun o hI => by simp [iRolesOf.l1]) [] (by first | (simp; done) | (simp; omega) | omega)
  simp only [iRolesOf.t, iRolesOf.b, res_zero, res_succ, r_rows, i_int, b_bool, s_str, f_st, List.length_map]
  refine (loop_some key).trans ?_
  rw [goList_fold]
  have hlen := heldApp_len l person now age s []
  have hh : (s.foldl (heldApp l person now age) []).length ≤ 4294967296 := by have := h_s.1; simp at hlen; omega
  have hs := held_same l person now age s [] (fun _ => false) (by simp)
  have hc := sort_compact (f := heldMarks l s person now age) hs
  simp only [Sum.elim_inl, arg_zero, r_rows, Sort_int_ok _ hh, bind_some, res_zero, Compact_int_ok _ (show ((s.foldl (heldApp l person now age) []).mergeSort fun x y => decide (x ≤ y)).length ≤ 4294967296 by rw [List.length_mergeSort]; exact hh), hc]
  rfl
@[simp] theorem sRolesOf_ok (l : List Includes) (s : List Fact) (person : Int) (now : Int) (age : Int) (h_l : ok l) (h_s : ok s) : sRolesOf.t [D.rows (List.map row l), D.rows (List.map row s), D.int person, D.int now, D.int age] = some [D.rows (List.map row (RolesOf l s person now age))] := by
  have h2 : ∀ (U : List Int) (hU : ok U) (hr : ∀ u ∈ U, 0 ≤ u ∧ u ≤ 5) (n : Int) (M : Nat → Bool), iter sRolesOf.l2 [D.int person, D.int now, D.int age, D.int n, D.int 0, D.rows (List.map row l), D.rows (List.map row s), D.rows (markRow M), D.rows (List.map row U)] = some (.inl [D.int person, D.int now, D.int age, D.int n, D.rows (List.map row l), D.rows (List.map row s), D.rows (markRow (putAll U M))]) := by
    intro U h_U hr n M
    have key := iter_list (f := sRolesOf.l2) U (fun k (M : Nat → Bool) => [D.int person, D.int now, D.int age, D.int n, D.int (k : Int), D.rows (List.map row l), D.rows (List.map row s), D.rows (markRow M), D.rows (List.map row U)]) (fun k (M : Nat → Bool) => True) (fun k x (M : Nat → Bool) => .inl (put M x.toNat)) (fun (M : Nat → Bool) => .inl [D.int person, D.int now, D.int age, D.int n, D.rows (List.map row l), D.rows (List.map row s), D.rows (markRow M)])
      (fun k x M hx hI => by
        have hk : k < U.length := (List.getElem?_eq_some_iff.1 hx).1
        have hxl := List.mem_of_getElem? hx
        have h5 := hr x hxl
        have e4 : leI 0 x = true := leI_iff.2 h5.1
        have e5 : ltI x 6 = true := ltI_iff.2 (by omega)
        have e6 : x.toNat ≤ 5 := by omega
        refine ⟨?_, fun _ _ => trivial⟩
        simp [sRolesOf.l2, cell_map hx, lt_k hk, w64_k hk (by have := h_U.1; omega), e4, e5, set_mark M x.toNat e6, mark_len])
      (fun M hI => by simp [sRolesOf.l2]) M trivial
    rw [goList_fold] at key
    exact key
  have h1 := iter_list (f := sRolesOf.l1) s (fun k (M : Nat → Bool) => [D.int person, D.int now, D.int age, D.int (k : Int), D.rows (List.map row l), D.rows (List.map row s), D.rows (markRow M)]) (fun _ _ => True) (fun _ x M => .inl (heldStep l person now age M x)) (fun M => .inl [D.rows (markRow M)])
    (fun k x M hx _ => by
      have hk : k < s.length := (List.getElem?_eq_some_iff.1 hx).1
      refine ⟨?_, fun _ _ => trivial⟩
      simp [sRolesOf.l1, cell_map hx, lt_k hk, h_l]
      simp only [bne]
      unfold heldStep givesRole
      cases x.Kind == 1
      · simp [w64_k hk (by have := h_s.1; omega)]
      cases x.Subject == person
      · simp [w64_k hk (by have := h_s.1; omega)]
      cases HoldsAt x now age
      · simp [w64_k hk (by have := h_s.1; omega)]
      have h3 := h2 (Under l x.Value) ⟨by have := Under_len l x.Value; omega, fun _ _ => trivial⟩ (fun u hu => by have := Under_mem.1 hu; omega) (k : Int) M
      simp only [Bool.not_true, cond_false, cond_true, loop_some h3]
      simp [w64_k hk (by have := h_s.1; omega)])
    (fun M _ => by simp [sRolesOf.l1]) (fun _ => false) trivial
  rw [goList_fold] at h1
  have h3 := iter_list (f := sRolesOf.l3) ([0, 1, 2, 3, 4, 5] : List Int) (fun k (o : List Int) => [D.int (k : Int), D.rows (markRow (heldMarks l s person now age)), D.rows (List.map row o)]) (fun k o => o.length ≤ k) (fun k _ o => bif heldMarks l s person now age k then .inl (o ++ [(k : Int)]) else .inl o) (fun o => .inl [D.rows (List.map row o)])
    (fun k x o hx hI => by
      have hk : k < 6 := (List.getElem?_eq_some_iff.1 hx).1
      have e : leI (k : Int) 5 = true := leI_iff.2 (by omega)
      have e1 : ltI (k : Int) 6 = true := ltI_iff.2 (by omega)
      refine ⟨?_, ?_⟩
      · simp [sRolesOf.l3, e, e1, mark_len, cell_mark (heldMarks l s person now age) k (by omega), w64_k hk, leN_of (show o.length + 1 ≤ 4294967296 by omega)]
        cases heldMarks l s person now age k <;> simp
      · cases heldMarks l s person now age k <;> simp <;> omega)
    (fun o _ => by simp [sRolesOf.l3]; rfl) [] (by simp)
  rw [collect_go] at h3
  simp only [sRolesOf.t, sRolesOf.b, res_zero, res_succ, i_int, r_rows]
  refine (loop_some h1).trans ?_
  simp only [Sum.elim_inl, arg_zero, r_rows]
  exact loop_some h3
def HasRole (l : List Includes) (s : List Fact) (person role now age : Int) : Bool := (RolesOf l s person now age).any (· == role)
theorem RolesOf_len (l : List Includes) (s : List Fact) (person now age : Int) : ok (RolesOf l s person now age) := ⟨by have := those_len (heldMarks l s person now age); unfold RolesOf; omega, fun _ _ => trivial⟩
@[simp] theorem sl13Has_ok (l : List Int) (n : Int) (h_l : ok l) : sl13Has.t [D.rows (List.map row l), D.int n] = some [D.bool (l.any (· == n))] := by
  have key := iter_list (f := sl13Has.l1) l (fun k (_u : Unit) => [D.int n, D.int (k : Int), D.rows (List.map row l)]) (fun k (_u : Unit) => True) (fun k x (_u : Unit) => bif x == n then .inr (.inr [D.bool true]) else .inl ()) (fun (_u : Unit) => .inl [])
    (fun k x _u hx hI => by
      have hk : k < l.length := (List.getElem?_eq_some_iff.1 hx).1
      have hxl := List.mem_of_getElem? hx
      refine ⟨?_, fun _ _ => trivial⟩
      simp [sl13Has.l1, cell_map hx, lt_k hk, w64_k hk (by have := h_l.1; omega)]
      cases x == n <;> rfl)
    (fun _u hI => by simp [sl13Has.l1]) () trivial
  simp only [sl13Has.t, sl13Has.b, res_zero, res_succ, r_rows, i_int, b_bool, s_str, f_st, List.length_map]
  refine (loop_some key).trans ?_
  rw [any_go]
  cases l.any (· == n) <;> rfl
@[simp] theorem Contains_int_ok (l : List Int) (n : Int) (h_l : ok l) : Contains_int.t [D.rows (List.map row l), D.int n] = some [D.bool (l.any (· == n))] := by
  have e : ∀ x : Int, (n == x) = (x == n) := fun x => by rw [Bool.eq_iff_iff]; simp only [beq_iff_eq]; exact ⟨Eq.symm, Eq.symm⟩
  have key : Index_int.t [D.rows (List.map row l), D.int n] = some [D.int (idxOf (· == n) l)] := by
    have key := iter_list (f := Index_int.l1) l (fun k (_ : Unit) => [D.int n, D.int (l.length : Int), D.int (k : Int), D.rows (List.map row l)]) (fun _ _ => True) (fun k x _ => bif x == n then .inr (.inr [D.int (k : Int)]) else .inl ()) (fun _ => .inl [])
      (fun k x s hx _ => by
        have hk : k < l.length := (List.getElem?_eq_some_iff.1 hx).1
        refine ⟨?_, fun _ _ => trivial⟩
        simp [Index_int.l1, cell_map hx, lt_k hk, w64_k hk (by have := h_l.1; omega)]; rw [e x]
        cases x == n <;> rfl)
      (fun s _ => by simp [Index_int.l1]) () trivial
    simp only [Index_int.t, Index_int.b, res_zero, res_succ, r_rows, i_int, List.length_map]
    refine (loop_some key).trans ?_
    rw [idx_go]
    rcases idxOf_cases (· == n) l with ⟨h1, h2, _⟩ | ⟨i, x, h1, h2, _⟩
    · simp only [h1, h2]; rfl
    · simp only [h1, cond_true, Sum.elim_inr]; rfl
  simp only [Contains_int.t, Contains_int.b, res_zero, res_succ, r_rows, i_int, key, bind_some]
  rcases idxOf_cases (· == n) l with ⟨h1, h2, _⟩ | ⟨i, x, h1, h2, _⟩
  · rw [h1, h2]; rfl
  · rw [h1, h2]; simp
@[simp] theorem iHasRole_ok (l : List Includes) (s : List Fact) (person : Int) (role : Int) (now : Int) (age : Int) (h_l : ok l) (h_s : ok s) : iHasRole.t [D.rows (List.map row l), D.rows (List.map row s), D.int person, D.int role, D.int now, D.int age] = some [D.bool (HasRole l s person role now age)] := by
  simp [iHasRole.t, iHasRole.b, h_l, h_s, RolesOf_len, HasRole]
@[simp] theorem sHasRole_ok (l : List Includes) (s : List Fact) (person : Int) (role : Int) (now : Int) (age : Int) (h_l : ok l) (h_s : ok s) : sHasRole.t [D.rows (List.map row l), D.rows (List.map row s), D.int person, D.int role, D.int now, D.int age] = some [D.bool (HasRole l s person role now age)] := by
  simp [sHasRole.t, sHasRole.b, h_l, h_s, RolesOf_len, HasRole]
end Acc
end
section
/- Evaluation. -/
namespace Acc
open Go Go.Ev
def LeafHolds (l : List Includes) (s : List Fact) (x : Cond) (q : Request) : Bool :=
  bif x.Op == 1 then true else bif x.Op == 2 then HasRole l s q.Person x.A q.Now x.B else
  bif x.Op == 3 then leI 0 (FindFact s 2 q.Person q.Device q.Now x.B) else
  bif x.Op == 4 then leI x.A (BestValue s 3 q.Device q.Now x.B) else
  bif x.Op == 5 then leI x.A (BestValue s 4 q.Program q.Now x.B) else
  bif x.Op == 6 then leI q.Now x.A else false
theorem idx_ne {α : Type} (p : α → Bool) (l : List α) : (!(idxOf p l == -1)) = leI 0 (idxOf p l) := by
  rcases idxOf_cases p l with ⟨_, h, _⟩ | ⟨i, x, _, h, _⟩
  · rw [h]; rfl
  · rw [h, le_0]; simp
theorem iLeafHolds_ok (l : List Includes) (s : List Fact) (x : Cond) (q : Request) (h_l : ok l) (h_s : ok s) : iLeafHolds.t [D.rows (List.map row l), D.rows (List.map row s), D.st (row x), D.st (row q)] = some [D.bool (LeafHolds l s x q)] := by
  simp [iLeafHolds.t, iLeafHolds.b, LeafHolds, h_l, h_s]
  have e : (FindFact s 2 q.Person q.Device q.Now x.B != -1) = leI 0 (FindFact s 2 q.Person q.Device q.Now x.B) := idx_ne _ _
  rw [e]
@[simp] theorem iLeafHolds_ok' (l : List Includes) (s : List Fact) (x_Op : Int) (x_A : Int) (x_B : Int) (x_Args : List Cond) (q_Person : Int) (q_Device : Int) (q_Program : Int) (q_Action : Int) (q_Object : Int) (q_Now : Int) (h_l : ok l) (h_s : ok s) : iLeafHolds.t [D.rows (List.map row l), D.rows (List.map row s), D.st [D.int x_Op, D.int x_A, D.int x_B, D.rows (List.map row x_Args)], D.st [D.int q_Person, D.int q_Device, D.int q_Program, D.int q_Action, D.int q_Object, D.int q_Now]] = some [D.bool (LeafHolds l s ((.mk x_Op x_A x_B x_Args) : Cond) (⟨q_Person, q_Device, q_Program, q_Action, q_Object, q_Now⟩ : Request))] := by have h := iLeafHolds_ok l s (.mk x_Op x_A x_B x_Args) (⟨q_Person, q_Device, q_Program, q_Action, q_Object, q_Now⟩ : Request) h_l h_s; simp only [row_Cond, Cond.Op_mk, Cond.A_mk, Cond.B_mk, Cond.Args_mk] at h ⊢; exact h
theorem sLeafHolds_ok (l : List Includes) (s : List Fact) (x : Cond) (q : Request) (h_l : ok l) (h_s : ok s) : sLeafHolds.t [D.rows (List.map row l), D.rows (List.map row s), D.st (row x), D.st (row q)] = some [D.bool (LeafHolds l s x q)] := by
  simp [sLeafHolds.t, sLeafHolds.b, LeafHolds, h_l, h_s]
@[simp] theorem sLeafHolds_ok' (l : List Includes) (s : List Fact) (x_Op : Int) (x_A : Int) (x_B : Int) (x_Args : List Cond) (q_Person : Int) (q_Device : Int) (q_Program : Int) (q_Action : Int) (q_Object : Int) (q_Now : Int) (h_l : ok l) (h_s : ok s) : sLeafHolds.t [D.rows (List.map row l), D.rows (List.map row s), D.st [D.int x_Op, D.int x_A, D.int x_B, D.rows (List.map row x_Args)], D.st [D.int q_Person, D.int q_Device, D.int q_Program, D.int q_Action, D.int q_Object, D.int q_Now]] = some [D.bool (LeafHolds l s ((.mk x_Op x_A x_B x_Args) : Cond) (⟨q_Person, q_Device, q_Program, q_Action, q_Object, q_Now⟩ : Request))] := by have h := sLeafHolds_ok l s (.mk x_Op x_A x_B x_Args) (⟨q_Person, q_Device, q_Program, q_Action, q_Object, q_Now⟩ : Request) h_l h_s; simp only [row_Cond, Cond.Op_mk, Cond.A_mk, Cond.B_mk, Cond.Args_mk] at h ⊢; exact h
mutual
def evalC (p : Cond → Bool) : Cond → Bool
  | .mk o a b l => bif o == 7 then !evals p l 0 else bif o == 8 then evals p l 0 && evals p l 1 else bif o == 9 then evals p l 0 || evals p l 1 else p (.mk o a b l)
def evals (p : Cond → Bool) : List Cond → Nat → Bool
  | [], _ => false
  | x :: _, 0 => evalC p x
  | _ :: l, n + 1 => evals p l n
end
theorem evalC_mk (p : Cond → Bool) (x : Cond) : evalC p x = bif x.Op == 7 then !evals p x.Args 0 else bif x.Op == 8 then evals p x.Args 0 && evals p x.Args 1 else bif x.Op == 9 then evals p x.Args 0 || evals p x.Args 1 else p x := by
  cases x; simp only [evalC]; rfl
theorem evals_get (p : Cond → Bool) : ∀ (l : List Cond) (n : Nat) (x : Cond), l[n]? = some x → evals p l n = evalC p x
  | [], n, x, h => by simp at h
  | y :: l, 0, x, h => by simp at h; subst h; rfl
  | y :: l, n + 1, x, h => by simp only [evals]; exact evals_get p l n x (by simpa using h)
theorem node_len {x : Cond} (h : nodes x = true) : (x.Args.length : Int) = ArityOf x.Op := by
  rw [nodes_eq] at h; simp only [isNode, Bool.and_eq_true, beq_iff_eq] at h; exact h.1.2.2
theorem node_arg {x : Cond} (h : nodes x = true) {n : Nat} (hn : n < x.Args.length) : ∃ y, x.Args[n]? = some y ∧ y ∈ x.Args ∧ nodes y = true := by
  rw [nodes_eq] at h; simp only [Bool.and_eq_true, List.all_eq_true] at h
  exact ⟨x.Args[n], List.getElem?_eq_getElem hn, List.getElem_mem hn, h.2 _ (List.getElem_mem hn)⟩
theorem arity7 {o : Int} (h : (o == 7) = true) : ArityOf o = 1 := by have := eq_of_beq h; subst this; rfl
theorem arity8 {o : Int} (h : (o == 8) = true) : ArityOf o = 2 := by have := eq_of_beq h; subst this; rfl
theorem arity9 {o : Int} (h : (o == 9) = true) : ArityOf o = 2 := by have := eq_of_beq h; subst this; rfl
theorem ievalWith_F (G : GF) (f : D) (p : Cond → Bool) (hG : ∀ x, G f.i ([D.st [D.int x.Op, D.int x.A, D.int x.B, D.rows (List.map row x.Args)]] ++ f.r.map D.st) = some [D.bool (p x)]) :
    ∀ (m : Nat) (x : Cond), nodes x = true → x.csize ≤ m → ievalWith.F G m ievalWith.n [D.st (row x), f] = some [D.bool (evalC p x)]
  | 0, x, _, h => by rw [x.csize_eq] at h; omega
  | m + 1, x, hn, h => by
    have ih := fun y (hy : y ∈ x.Args) (hn : nodes y = true) => ievalWith_F G f p hG m y hn (by have := Cond.csize_mem hy; omega)
    simp only [row_Cond] at ih
    have hl := node_len hn
    have e : ievalWith.F G (m + 1) ievalWith.n = fun a => ievalWith.b (ievalWith.F G m) G (res a 0) (res a 1) := rfl
    rw [e, evalC_mk]
    simp only [ievalWith.b, row_Cond, res_zero, res_succ, r_rows, i_int, f_st, List.length_map, hG]
    cases h7 : x.Op == 7 with
    | true =>
      rw [arity7 h7] at hl
      obtain ⟨y, hy, hm, hny⟩ := node_arg hn (n := 0) (by omega)
      simp [cell_map hy, evals_get p _ 0 y hy, ih y hm hny, show ltI 0 (x.Args.length : Int) = true from ltI_iff.2 (by omega)]
    | false =>
      cases h8 : x.Op == 8 with
      | true =>
        rw [arity8 h8] at hl
        obtain ⟨y, hy, hm, hny⟩ := node_arg hn (n := 0) (by omega)
        obtain ⟨z, hz, hmz, hnz⟩ := node_arg hn (n := 1) (by omega)
        simp [cell_map hy, evals_get p _ 0 y hy, ih y hm hny, cell_map hz, evals_get p _ 1 z hz, ih z hmz hnz, show ltI 0 (x.Args.length : Int) = true from ltI_iff.2 (by omega), show ltI 1 (x.Args.length : Int) = true from ltI_iff.2 (by omega)]
      | false =>
        cases h9 : x.Op == 9 with
        | true =>
          rw [arity9 h9] at hl
          obtain ⟨y, hy, hm, hny⟩ := node_arg hn (n := 0) (by omega)
          obtain ⟨z, hz, hmz, hnz⟩ := node_arg hn (n := 1) (by omega)
          simp [cell_map hy, evals_get p _ 0 y hy, ih y hm hny, cell_map hz, evals_get p _ 1 z hz, ih z hmz hnz, show ltI 0 (x.Args.length : Int) = true from ltI_iff.2 (by omega), show ltI 1 (x.Args.length : Int) = true from ltI_iff.2 (by omega)]
        | false => simp
theorem sl18Eval_F (l : List Includes) (s : List Fact) (q : Request) (h_l : ok l) (h_s : ok s) :
    ∀ (m : Nat) (x : Cond), nodes x = true → x.csize ≤ m → sl18Eval.F m sl18Eval.n [D.rows (List.map row l), D.rows (List.map row s), D.st (row x), D.st (row q)] = some [D.bool (evalC (fun x => LeafHolds l s x q) x)]
  | 0, x, _, h => by rw [x.csize_eq] at h; omega
  | m + 1, x, hn, h => by
    have ih := fun y (hy : y ∈ x.Args) (hn : nodes y = true) => sl18Eval_F l s q h_l h_s m y hn (by have := Cond.csize_mem hy; omega)
    simp only [row_Cond, row_Request] at ih
    have hl := node_len hn
    have e : sl18Eval.F (m + 1) sl18Eval.n = fun a => sl18Eval.b (sl18Eval.F m) (res a 0) (res a 1) (res a 2) (res a 3) := rfl
    rw [e, evalC_mk]
    simp only [sl18Eval.b, row_Cond, row_Request, res_zero, res_succ, r_rows, i_int, f_st, List.length_map]
    cases h7 : x.Op == 7 with
    | true =>
      rw [arity7 h7] at hl
      obtain ⟨y, hy, hm, hny⟩ := node_arg hn (n := 0) (by omega)
      simp [cell_map hy, evals_get _ _ 0 y hy, ih y hm hny, show ltI 0 (x.Args.length : Int) = true from ltI_iff.2 (by omega)]
    | false =>
      cases h8 : x.Op == 8 with
      | true =>
        rw [arity8 h8] at hl
        obtain ⟨y, hy, hm, hny⟩ := node_arg hn (n := 0) (by omega)
        obtain ⟨z, hz, hmz, hnz⟩ := node_arg hn (n := 1) (by omega)
        simp [cell_map hy, evals_get _ _ 0 y hy, ih y hm hny, cell_map hz, evals_get _ _ 1 z hz, ih z hmz hnz, show ltI 0 (x.Args.length : Int) = true from ltI_iff.2 (by omega), show ltI 1 (x.Args.length : Int) = true from ltI_iff.2 (by omega)]
      | false =>
        cases h9 : x.Op == 9 with
        | true =>
          rw [arity9 h9] at hl
          obtain ⟨y, hy, hm, hny⟩ := node_arg hn (n := 0) (by omega)
          obtain ⟨z, hz, hmz, hnz⟩ := node_arg hn (n := 1) (by omega)
          simp [cell_map hy, evals_get _ _ 0 y hy, ih y hm hny, cell_map hz, evals_get _ _ 1 z hz, ih z hmz hnz, show ltI 0 (x.Args.length : Int) = true from ltI_iff.2 (by omega), show ltI 1 (x.Args.length : Int) = true from ltI_iff.2 (by omega)]
        | false =>
          have := sLeafHolds_ok l s x q h_l h_s
          simp only [row_Cond, row_Request] at this
          simp [this]
def EvalCond (l : List Includes) (s : List Fact) (x : Cond) (q : Request) : Bool := IsCond x && evalC (fun x => LeafHolds l s x q) x
theorem sEvalCond_ok (l : List Includes) (s : List Fact) (x : Cond) (q : Request) (h_l : ok l) (h_s : ok s) (h_x : ok x) : sEvalCond.t [D.rows (List.map row l), D.rows (List.map row s), D.st (row x), D.st (row q)] = some [D.bool (EvalCond l s x q)] := by
  simp [sEvalCond.t, sEvalCond.b, EvalCond, h_x]
  cases hc : IsCond x
  · rfl
  · have hn : nodes x = true := by simp only [IsCond, Bool.and_eq_true] at hc; exact hc.2
    have key : sl18Eval.t [D.rows (List.map row l), D.rows (List.map row s), D.st (row x), D.st (row q)] = _ := lim_eq x.csize fun m hm => sl18Eval_F l s q h_l h_s m x hn hm
    simp only [row_Cond, row_Request] at key
    simp [key]
@[simp] theorem sEvalCond_ok' (l : List Includes) (s : List Fact) (x_Op : Int) (x_A : Int) (x_B : Int) (x_Args : List Cond) (q_Person : Int) (q_Device : Int) (q_Program : Int) (q_Action : Int) (q_Object : Int) (q_Now : Int) (h_l : ok l) (h_s : ok s) (h_x0 : ok (Cond.mk x_Op x_A x_B x_Args)) : sEvalCond.t [D.rows (List.map row l), D.rows (List.map row s), D.st [D.int x_Op, D.int x_A, D.int x_B, D.rows (List.map row x_Args)], D.st [D.int q_Person, D.int q_Device, D.int q_Program, D.int q_Action, D.int q_Object, D.int q_Now]] = some [D.bool (EvalCond l s ((.mk x_Op x_A x_B x_Args) : Cond) (⟨q_Person, q_Device, q_Program, q_Action, q_Object, q_Now⟩ : Request))] := by have h := sEvalCond_ok l s (.mk x_Op x_A x_B x_Args) (⟨q_Person, q_Device, q_Program, q_Action, q_Object, q_Now⟩ : Request) h_l h_s h_x0; simp only [row_Cond, Cond.Op_mk, Cond.A_mk, Cond.B_mk, Cond.Args_mk] at h ⊢; exact h
theorem iEvalCond_ok (l : List Includes) (s : List Fact) (x : Cond) (q : Request) (h_l : ok l) (h_s : ok s) (h_x : ok x) : iEvalCond.t [D.rows (List.map row l), D.rows (List.map row s), D.st (row x), D.st (row q)] = some [D.bool (EvalCond l s x q)] := by
  simp [iEvalCond.t, iEvalCond.b, EvalCond, h_x]
  cases hc : IsCond x
  · rfl
  · have hn : nodes x = true := by simp only [IsCond, Bool.and_eq_true] at hc; exact hc.2
    have hG : ∀ y : Cond, (gf [(iEvalCond_c1.n, iEvalCond_c1.t)]) (iEvalCond_c1.n : Int) ([D.st [D.int y.Op, D.int y.A, D.int y.B, D.rows (List.map row y.Args)]] ++ [[D.rows (List.map row l)], [D.rows (List.map row s)], row q].map D.st) = some [D.bool (LeafHolds l s y q)] := by
      intro y
      have := iLeafHolds_ok l s y q h_l h_s
      simp only [row_Cond, row_Request] at this
      rw [gf_one]
      simp [iEvalCond_c1.t, iEvalCond_c1.b, this]
    have key : ievalWith.t (gf [(iEvalCond_c1.n, iEvalCond_c1.t)]) [D.st (row x), D.mk (iEvalCond_c1.n : Int) false ⟨#[]⟩ [[D.rows (List.map row l)], [D.rows (List.map row s)], row q]] = _ := lim_eq x.csize fun m hm => ievalWith_F (gf [(iEvalCond_c1.n, iEvalCond_c1.t)]) (D.mk (iEvalCond_c1.n : Int) false ⟨#[]⟩ [[D.rows (List.map row l)], [D.rows (List.map row s)], row q]) (fun y => LeafHolds l s y q) hG m x hn hm
    simp only [row_Cond, row_Request] at key
    simp [key]
@[simp] theorem iEvalCond_ok' (l : List Includes) (s : List Fact) (x_Op : Int) (x_A : Int) (x_B : Int) (x_Args : List Cond) (q_Person : Int) (q_Device : Int) (q_Program : Int) (q_Action : Int) (q_Object : Int) (q_Now : Int) (h_l : ok l) (h_s : ok s) (h_x0 : ok (Cond.mk x_Op x_A x_B x_Args)) : iEvalCond.t [D.rows (List.map row l), D.rows (List.map row s), D.st [D.int x_Op, D.int x_A, D.int x_B, D.rows (List.map row x_Args)], D.st [D.int q_Person, D.int q_Device, D.int q_Program, D.int q_Action, D.int q_Object, D.int q_Now]] = some [D.bool (EvalCond l s ((.mk x_Op x_A x_B x_Args) : Cond) (⟨q_Person, q_Device, q_Program, q_Action, q_Object, q_Now⟩ : Request))] := by have h := iEvalCond_ok l s (.mk x_Op x_A x_B x_Args) (⟨q_Person, q_Device, q_Program, q_Action, q_Object, q_Now⟩ : Request) h_l h_s h_x0; simp only [row_Cond, Cond.Op_mk, Cond.A_mk, Cond.B_mk, Cond.Args_mk] at h ⊢; exact h
end Acc
end
section
/- Decisions. -/
namespace Acc
open Go Go.Ev
def applies (l : List Includes) (s : List Fact) (q : Request) (r : Rule) : Bool := IsFor r q.Action q.Object && EvalCond l s r.Cond q
def placesFrom {α : Type} (p : α → Bool) : List α → Nat → List Int
  | [], _ => []
  | x :: l, k => bif p x then (k : Int) :: placesFrom p l (k + 1) else placesFrom p l (k + 1)
theorem places_go {α B : Type} (p : α → Bool) (e : List Int → B) : ∀ (l : List α) (k : Nat) (o : List Int), goList (fun k x (o : List Int) => .inl (bif p x then o ++ [(k : Int)] else o)) e l k o = e (o ++ placesFrom p l k)
  | [], k, o => by simp [goList, placesFrom]
  | x :: l, k, o => by
    simp only [goList, placesFrom]
    rw [places_go p e l (k + 1)]
    cases p x <;> simp
theorem places_len {α : Type} (p : α → Bool) : ∀ (l : List α) (k : Nat), (placesFrom p l k).length ≤ l.length
  | [], k => by simp [placesFrom]
  | x :: l, k => by
    have := places_len p l (k + 1)
    simp only [placesFrom]; cases p x <;> simp <;> omega
theorem places_mem {α : Type} (p : α → Bool) : ∀ (l : List α) (k : Nat) (x : Int), x ∈ placesFrom p l k → ∃ (i : Nat) (r : α), x = ((k + i : Nat) : Int) ∧ l[i]? = some r ∧ p r = true
  | [], k, x, h => by simp [placesFrom] at h
  | y :: l, k, x, h => by
    have hrec : x ∈ placesFrom p l (k + 1) → ∃ (i : Nat) (r : α), x = ((k + i : Nat) : Int) ∧ (y :: l)[i]? = some r ∧ p r = true := fun h => by
      obtain ⟨i, r, h1, h2, h3⟩ := places_mem p l (k + 1) x h
      exact ⟨i + 1, r, by omega, by simpa using h2, h3⟩
    simp only [placesFrom] at h
    cases hy : p y
    · rw [hy] at h; exact hrec h
    · rw [hy] at h
      rcases List.mem_cons.1 h with e | h
      · exact ⟨0, y, by omega, rfl, hy⟩
      · exact hrec h
theorem places_any {α : Type} (p : α → Bool) (d : α) (l0 : List α) (f : α → Bool) : ∀ (l : List α) (k : Nat), l0.drop k = l → ((placesFrom p l k).any fun i => f (l0.getD i.toNat d)) = (l.filter p).any f
  | [], k, _ => rfl
  | x :: l, k, h => by
    have hx : l0[k]? = some x := by have := congrArg (fun z => z[0]?) h; simpa using this
    have ht : l0.drop (k + 1) = l := by rw [← List.drop_drop, h]; rfl
    have := places_any p d l0 f l (k + 1) ht
    simp only [placesFrom, List.filter_cons]
    cases hp : p x
    · simpa using this
    · simp only [cond_true, List.any_cons, this, if_true]
      rw [List.getD_eq_getElem?_getD, Int.toNat_natCast, hx]; rfl
theorem places_nil {α : Type} (p : α → Bool) : ∀ (l : List α) (k : Nat), (placesFrom p l k).isEmpty = (l.filter p).isEmpty
  | [], k => rfl
  | x :: l, k => by
    simp only [placesFrom, List.filter_cons]
    cases hp : p x
    · simpa using places_nil p l (k + 1)
    · rfl
def RulesThatHold (l : List Includes) (s : List Fact) (p : Policy) (q : Request) : List Int := placesFrom (applies l s q) p.Rules 0
theorem RulesThatHold_len {l : List Includes} {s : List Fact} {p : Policy} {q : Request} (h : ok p) : ok (RulesThatHold l s p q) := ⟨by have := places_len (applies l s q) p.Rules 0; have := h.1; unfold RulesThatHold; omega, fun _ _ => trivial⟩
theorem iRulesThatHold_ok (l : List Includes) (s : List Fact) (p : Policy) (q : Request) (h_l : ok l) (h_s : ok s) (h_p : ok p) : iRulesThatHold.t [D.rows (List.map row l), D.rows (List.map row s), D.st (row p), D.st (row q)] = some [D.rows (List.map row (RulesThatHold l s p q))] := by
  have h_rs : ok p.Rules := h_p
  have key := iter_list (f := iRulesThatHold.l1) p.Rules (fun k (o : List Int) => [D.int (p.Rules.length : Int), D.int (k : Int), D.rows (List.map row l), D.rows (List.map row s), D.int q.Person, D.int q.Device, D.int q.Program, D.int q.Action, D.int q.Object, D.int q.Now, D.rows (List.map row o), D.rows (List.map row p.Rules)]) (fun k (o : List Int) => o.length ≤ k) (fun k x (o : List Int) => .inl (bif applies l s q x then o ++ [(k : Int)] else o)) (fun (o : List Int) => .inl [D.rows (List.map row o)])
    (fun k x o hx hI => by
      have hk : k < p.Rules.length := (List.getElem?_eq_some_iff.1 hx).1
      have hxl := List.mem_of_getElem? hx
      refine ⟨?_, ?_⟩
      · simp [iRulesThatHold.l1, cell_map hx, lt_k hk, w64_k hk (by have := h_rs.1; omega), h_l, h_s, (show ok x.Cond from h_rs.2 x hxl), leN_of (show o.length + 1 ≤ 4294967296 by have := h_rs.1; omega)]
        unfold applies
        cases IsFor x q.Action q.Object <;> cases EvalCond l s x.Cond q <;> simp
      cases applies l s q x <;> simp <;> omega)
    (fun o hI => by simp [iRulesThatHold.l1]) [] (by first | (simp; done) | (simp; omega) | omega)
  simp only [iRulesThatHold.t, iRulesThatHold.b, res_zero, res_succ, r_rows, i_int, b_bool, s_str, f_st, List.length_map, row_Policy, row_Request]
  refine (loop_some key).trans ?_
  rw [places_go]
  rfl
@[simp] theorem iRulesThatHold_ok' (l : List Includes) (s : List Fact) (p_Version : Int) (p_Rules : List Rule) (q_Person : Int) (q_Device : Int) (q_Program : Int) (q_Action : Int) (q_Object : Int) (q_Now : Int) (h_l : ok l) (h_s : ok s) (h_p0 : ok p_Rules) : iRulesThatHold.t [D.rows (List.map row l), D.rows (List.map row s), D.st [D.int p_Version, D.rows (List.map row p_Rules)], D.st [D.int q_Person, D.int q_Device, D.int q_Program, D.int q_Action, D.int q_Object, D.int q_Now]] = some [D.rows (List.map row (RulesThatHold l s (⟨p_Version, p_Rules⟩ : Policy) (⟨q_Person, q_Device, q_Program, q_Action, q_Object, q_Now⟩ : Request)))] := iRulesThatHold_ok l s (⟨p_Version, p_Rules⟩ : Policy) (⟨q_Person, q_Device, q_Program, q_Action, q_Object, q_Now⟩ : Request) h_l h_s h_p0
theorem sRulesThatHold_ok (l : List Includes) (s : List Fact) (p : Policy) (q : Request) (h_l : ok l) (h_s : ok s) (h_p : ok p) : sRulesThatHold.t [D.rows (List.map row l), D.rows (List.map row s), D.st (row p), D.st (row q)] = some [D.rows (List.map row (RulesThatHold l s p q))] := by
  have h_rs : ok p.Rules := h_p
  have key := iter_list (f := sRulesThatHold.l1) p.Rules (fun k (o : List Int) => [D.int (k : Int), D.rows (List.map row l), D.rows (List.map row s), D.int p.Version, D.int q.Person, D.int q.Device, D.int q.Program, D.int q.Action, D.int q.Object, D.int q.Now, D.rows (List.map row o), D.rows (List.map row p.Rules)]) (fun k (o : List Int) => o.length ≤ k) (fun k x (o : List Int) => .inl (bif applies l s q x then o ++ [(k : Int)] else o)) (fun (o : List Int) => .inl [D.rows (List.map row o)])
    (fun k x o hx hI => by
      have hk : k < p.Rules.length := (List.getElem?_eq_some_iff.1 hx).1
      have hxl := List.mem_of_getElem? hx
      refine ⟨?_, ?_⟩
      · simp [sRulesThatHold.l1, cell_map hx, lt_k hk, w64_k hk (by have := h_rs.1; omega), h_l, h_s, (show ok x.Cond from h_rs.2 x hxl), leN_of (show o.length + 1 ≤ 4294967296 by have := h_rs.1; omega)]
        unfold applies
        cases IsFor x q.Action q.Object <;> cases EvalCond l s x.Cond q <;> simp
      cases applies l s q x <;> simp <;> omega)
    (fun o hI => by simp [sRulesThatHold.l1]) [] (by first | (simp; done) | (simp; omega) | omega)
  simp only [sRulesThatHold.t, sRulesThatHold.b, res_zero, res_succ, r_rows, i_int, b_bool, s_str, f_st, List.length_map, row_Policy, row_Request]
  refine (loop_some key).trans ?_
  rw [places_go]
  rfl
@[simp] theorem sRulesThatHold_ok' (l : List Includes) (s : List Fact) (p_Version : Int) (p_Rules : List Rule) (q_Person : Int) (q_Device : Int) (q_Program : Int) (q_Action : Int) (q_Object : Int) (q_Now : Int) (h_l : ok l) (h_s : ok s) (h_p0 : ok p_Rules) : sRulesThatHold.t [D.rows (List.map row l), D.rows (List.map row s), D.st [D.int p_Version, D.rows (List.map row p_Rules)], D.st [D.int q_Person, D.int q_Device, D.int q_Program, D.int q_Action, D.int q_Object, D.int q_Now]] = some [D.rows (List.map row (RulesThatHold l s (⟨p_Version, p_Rules⟩ : Policy) (⟨q_Person, q_Device, q_Program, q_Action, q_Object, q_Now⟩ : Request)))] := sRulesThatHold_ok l s (⟨p_Version, p_Rules⟩ : Policy) (⟨q_Person, q_Device, q_Program, q_Action, q_Object, q_Now⟩ : Request) h_l h_s h_p0
theorem rule_effect {r : Rule} (h : IsRule r = true) : r.Effect = 0 ∨ r.Effect = 1 := by
  simp only [IsRule, Bool.and_eq_true, InRange_iff] at h; omega
def effectAt (rs : List Rule) (i : Int) : Int := (rs.getD i.toNat default).Effect
theorem idecided_ok (p : Policy) (hs : List Int) (h_p : ok p) (h_hs : ok hs) (hr : ∀ r ∈ p.Rules, IsRule r = true) (hi : ∀ i ∈ hs, ∃ j r, i = Int.ofNat j ∧ p.Rules[j]? = some r) : idecided.t [D.st (row p), D.rows (List.map row hs)] = some [D.int (bif hs.any (fun i => effectAt p.Rules i == 0) then 0 else bif hs.isEmpty then 0 else 1)] := by
  have key := iter_list (f := idecided.l1) hs (fun k (o : Int) => [D.int o, D.int (hs.length : Int), D.int (k : Int), D.int p.Version, D.rows (List.map row hs), D.rows (List.map row p.Rules)]) (fun k (o : Int) => True) (fun k x (o : Int) => bif effectAt p.Rules x == 0 then .inr (.inr [D.int 0]) else .inl 1) (fun (o : Int) => .inl [D.int o])
    (fun k x o hx hI => by
      have hk : k < hs.length := (List.getElem?_eq_some_iff.1 hx).1
      have hxl := List.mem_of_getElem? hx
      obtain ⟨j, r, rfl, hj⟩ := hi x hxl
      have he : effectAt p.Rules (j : Int) = r.Effect := by unfold effectAt; rw [List.getD_eq_getElem?_getD, Int.toNat_natCast, hj]; rfl
      have h01 := rule_effect (hr r (List.mem_of_getElem? hj))
      have e2 : ltI (j : Int) (p.Rules.length : Int) = true := lt_k (List.getElem?_eq_some_iff.1 hj).1
      refine ⟨?_, fun _ _ => trivial⟩
      simp [idecided.l1, cell_map hx, lt_k hk, w64_k hk (by have := h_hs.1; omega)]
      simp [e2, he, cell_map hj]
      rcases h01 with e | e <;> simp [e])
    (fun o hI => by simp [idecided.l1]) 0 trivial
  simp only [idecided.t, idecided.b, res_zero, res_succ, r_rows, i_int, b_bool, s_str, f_st, List.length_map, row_Policy]
  refine (loop_some key).trans ?_
  cases hs with
  | nil => rfl
  | cons x l =>
    have : ∀ (l : List Int) (k : Nat), goList (fun k x (o : Int) => bif effectAt p.Rules x == 0 then .inr (.inr [D.int 0]) else .inl 1) (fun o => .inl [D.int o]) l k 1 = (bif l.any (fun i => effectAt p.Rules i == 0) then .inr [D.int 0] else .inl [D.int 1] : List D ⊕ List D) := by
      intro l
      induction l with
      | nil => intro k; rfl
      | cons x l ih => intro k; simp only [goList, List.any_cons]; cases effectAt p.Rules x == 0 <;> simp [ih]
    simp only [goList, List.any_cons]
    cases effectAt p.Rules x == 0
    · simp only [cond_false, this, Bool.false_or]
      cases l.any (fun i => effectAt p.Rules i == 0) <;> rfl
    · rfl
@[simp] theorem idecided_ok' (p_Version : Int) (p_Rules : List Rule) (hs : List Int) (h_p0 : ok p_Rules) (h_hs : ok hs) (hr : ∀ r ∈ (⟨p_Version, p_Rules⟩ : Policy).Rules, IsRule r = true) (hi : ∀ i ∈ hs, ∃ j r, i = Int.ofNat j ∧ (⟨p_Version, p_Rules⟩ : Policy).Rules[j]? = some r) : idecided.t [D.st [D.int p_Version, D.rows (List.map row p_Rules)], D.rows (List.map row hs)] = some [D.int (bif hs.any (fun i => effectAt (⟨p_Version, p_Rules⟩ : Policy).Rules i == 0) then 0 else bif hs.isEmpty then 0 else 1)] := idecided_ok (⟨p_Version, p_Rules⟩ : Policy) hs h_p0 h_hs hr hi
def Decide (rs : List Rule) : Int := bif rs.any (fun r => r.Effect == 0) then 0 else bif rs.isEmpty then 0 else 1
theorem Decide_eq (l : List Includes) (s : List Fact) (p : Policy) (q : Request) : (bif (RulesThatHold l s p q).any (fun i => effectAt p.Rules i == 0) then 0 else bif (RulesThatHold l s p q).isEmpty then 0 else 1 : Int) = Decide (p.Rules.filter (applies l s q)) := by
  unfold RulesThatHold Decide effectAt
  rw [places_any (applies l s q) default p.Rules (fun r => r.Effect == 0) p.Rules 0 rfl, places_nil]
def DecideBy (l : List Includes) (s : List Fact) (p : Policy) (q : Request) : Int := bif IsRequest q && IsPolicy p then Decide (p.Rules.filter (applies l s q)) else 0
theorem pol_rules {p : Policy} (h : IsPolicy p = true) : ∀ r ∈ p.Rules, IsRule r = true := by
  simp only [IsPolicy, Bool.and_eq_true, List.all_eq_true] at h; exact h.2.2
theorem RulesThatHold_mem {l : List Includes} {s : List Fact} {p : Policy} {q : Request} : ∀ i ∈ RulesThatHold l s p q, ∃ (j : Nat) (r : Rule), i = (j : Int) ∧ p.Rules[j]? = some r := fun i hi => by
  obtain ⟨j, r, h1, h2, _⟩ := places_mem _ _ _ _ hi
  exact ⟨j, r, by omega, h2⟩
theorem iDecideBy_ok (l : List Includes) (s : List Fact) (p : Policy) (q : Request) (h_l : ok l) (h_s : ok s) (h_p : ok p) : iDecideBy.t [D.rows (List.map row l), D.rows (List.map row s), D.st (row p), D.st (row q)] = some [D.int (DecideBy l s p q)] := by
  simp [iDecideBy.t, iDecideBy.b, DecideBy, show ok p.Rules from h_p]
  cases IsRequest q
  · rfl
  cases hp : IsPolicy p
  · rfl
  have := idecided_ok p (RulesThatHold l s p q) h_p (RulesThatHold_len h_p) (pol_rules hp) RulesThatHold_mem
  rw [Decide_eq] at this
  simp only [row_Policy] at this
  simp [h_l, h_s, this, show ok p.Rules from h_p]
@[simp] theorem iDecideBy_ok' (l : List Includes) (s : List Fact) (p_Version : Int) (p_Rules : List Rule) (q_Person : Int) (q_Device : Int) (q_Program : Int) (q_Action : Int) (q_Object : Int) (q_Now : Int) (h_l : ok l) (h_s : ok s) (h_p0 : ok p_Rules) : iDecideBy.t [D.rows (List.map row l), D.rows (List.map row s), D.st [D.int p_Version, D.rows (List.map row p_Rules)], D.st [D.int q_Person, D.int q_Device, D.int q_Program, D.int q_Action, D.int q_Object, D.int q_Now]] = some [D.int (DecideBy l s (⟨p_Version, p_Rules⟩ : Policy) (⟨q_Person, q_Device, q_Program, q_Action, q_Object, q_Now⟩ : Request))] := iDecideBy_ok l s (⟨p_Version, p_Rules⟩ : Policy) (⟨q_Person, q_Device, q_Program, q_Action, q_Object, q_Now⟩ : Request) h_l h_s h_p0
theorem sDecideBy_ok (l : List Includes) (s : List Fact) (p : Policy) (q : Request) (h_l : ok l) (h_s : ok s) (h_p : ok p) : sDecideBy.t [D.rows (List.map row l), D.rows (List.map row s), D.st (row p), D.st (row q)] = some [D.int (DecideBy l s p q)] := by
  simp [sDecideBy.t, sDecideBy.b, DecideBy, show ok p.Rules from h_p]
  cases IsRequest q
  · rfl
  cases hp : IsPolicy p
  · rfl
  have h_hs : ok (RulesThatHold l s p q) := RulesThatHold_len h_p
  have hi := RulesThatHold_mem (l := l) (s := s) (p := p) (q := q)
  have hd := Decide_eq l s p q
  simp [h_l, h_s, show ok p.Rules from h_p]
  generalize RulesThatHold l s p q = hs at *
  have key := iter_list (f := sDecideBy.l1) hs (fun k (_u : Unit) => [D.int (k : Int), D.int p.Version, D.rows (List.map row hs), D.rows (List.map row p.Rules)]) (fun k (_u : Unit) => True) (fun k x (_u : Unit) => bif effectAt p.Rules x == 0 then .inr (.inr [D.int 0]) else .inl ()) (fun (_u : Unit) => .inl [D.rows (List.map row hs)])
    (fun k x _u hx hI => by
      have hk : k < hs.length := (List.getElem?_eq_some_iff.1 hx).1
      have hxl := List.mem_of_getElem? hx
      obtain ⟨j, r, rfl, hj⟩ := hi x hxl
      have he : effectAt p.Rules (j : Int) = r.Effect := by unfold effectAt; rw [List.getD_eq_getElem?_getD, Int.toNat_natCast, hj]; rfl
      have e2 : ltI (j : Int) (p.Rules.length : Int) = true := lt_k (List.getElem?_eq_some_iff.1 hj).1
      refine ⟨?_, fun _ _ => trivial⟩
      simp [sDecideBy.l1, cell_map hx, lt_k hk, w64_k hk (by have := h_hs.1; omega)]
      simp [e2, he, cell_map hj]
      cases r.Effect == 0 <;> rfl)
    (fun _u hI => by simp [sDecideBy.l1]) () trivial
  refine (loop_some key).trans ?_
  rw [any_go, ← hd]
  cases hs.any (fun i => effectAt p.Rules i == 0)
  · cases hs <;> rfl
  · rfl
@[simp] theorem sDecideBy_ok' (l : List Includes) (s : List Fact) (p_Version : Int) (p_Rules : List Rule) (q_Person : Int) (q_Device : Int) (q_Program : Int) (q_Action : Int) (q_Object : Int) (q_Now : Int) (h_l : ok l) (h_s : ok s) (h_p0 : ok p_Rules) : sDecideBy.t [D.rows (List.map row l), D.rows (List.map row s), D.st [D.int p_Version, D.rows (List.map row p_Rules)], D.st [D.int q_Person, D.int q_Device, D.int q_Program, D.int q_Action, D.int q_Object, D.int q_Now]] = some [D.int (DecideBy l s (⟨p_Version, p_Rules⟩ : Policy) (⟨q_Person, q_Device, q_Program, q_Action, q_Object, q_Now⟩ : Request))] := sDecideBy_ok l s (⟨p_Version, p_Rules⟩ : Policy) (⟨q_Person, q_Device, q_Program, q_Action, q_Object, q_Now⟩ : Request) h_l h_s h_p0
end Acc
end
section
/- How long a decision holds; saved decisions. -/
namespace Acc
open Go Go.Ev
def untilN (p : Int → Bool) : Nat → Int → Int
  | 0, t => t
  | n + 1, t => bif p (t + 1) then untilN p n (t + 1) else t
theorem until_le (p : Int → Bool) : ∀ (n : Nat) (t : Int), t ≤ untilN p n t ∧ untilN p n t ≤ t + n
  | 0, t => by simp [untilN]
  | n + 1, t => by
    have := until_le p n (t + 1)
    simp only [untilN]; cases p (t + 1)
    · simp; omega
    · simp; omega
theorem AtTime_req (q : Request) (t : Int) : (⟨q.Person, q.Device, q.Program, q.Action, q.Object, t⟩ : Request) = AtTime q t := rfl
def DecisionUntil (l : List Includes) (s : List Fact) (p : Policy) (q : Request) (most : Int) : Int :=
  bif IsRequest q && (IsPolicy p && InRange most 0 60) then untilN (fun t => DecideBy l s p (AtTime q t) == DecideBy l s p q) (minI (q.Now + most) 10000 - q.Now).toNat q.Now else q.Now
theorem req_now {q : Request} (h : IsRequest q = true) : 0 ≤ q.Now ∧ q.Now ≤ 10000 := by
  simp only [IsRequest, Bool.and_eq_true, IsTime, InRange_iff] at h; omega
theorem min_lt {t a b : Int} : ltI t (minI a b) = (ltI t a && ltI t b) := by
  unfold minI; rw [Bool.eq_iff_iff]; simp [ltI]; split <;> omega
theorem iDecisionUntil_ok (l : List Includes) (s : List Fact) (p : Policy) (q : Request) (most : Int) (h_l : ok l) (h_s : ok s) (h_p : ok p) : iDecisionUntil.t [D.rows (List.map row l), D.rows (List.map row s), D.st (row p), D.st (row q), D.int most] = some [D.int (DecisionUntil l s p q most)] := by
  have hpr : ok p.Rules := h_p
  simp [iDecisionUntil.t, iDecisionUntil.b, DecisionUntil, hpr, h_l, h_s]
  cases hq : IsRequest q
  · rfl
  cases hp : IsPolicy p
  · rfl
  cases hm : InRange most 0 60
  · rfl
  simp
  have hn := req_now hq
  rw [InRange_iff] at hm
  have loopL : ∀ (n : Nat) (t : Int), 0 ≤ t → (minI (q.Now + most) 10000 - t).toNat = n → iter iDecisionUntil.l1 [D.int most, D.int t, D.int (DecideBy l s p q), D.rows (List.map row l), D.rows (List.map row s), D.int p.Version, D.int q.Person, D.int q.Device, D.int q.Program, D.int q.Action, D.int q.Object, D.int q.Now, D.rows (List.map row p.Rules)] = some (.inl [D.int (untilN (fun t => DecideBy l s p (AtTime q t) == DecideBy l s p q) n t)]) := by
    intro n
    induction n with
    | zero =>
      intro t h0 hn
      have : ltI t (minI (q.Now + most) 10000) = false := by simp [ltI]; omega
      refine iter_inr ?_
      simp [iDecisionUntil.l1, w64_in (x := q.Now + most) (by omega), this, untilN]
    | succ n ih =>
      intro t h0 hn'
      have hlt : t < minI (q.Now + most) 10000 := by omega
      have h9 : minI (q.Now + most) 10000 ≤ 10000 := by unfold minI; split <;> omega
      have : ltI t (minI (q.Now + most) 10000) = true := ltI_iff.2 hlt
      cases hd : DecideBy l s p (AtTime q (t + 1)) == DecideBy l s p q
      · refine iter_inr ?_
        simp [iDecisionUntil.l1, w64_in (x := q.Now + most) (by omega), w64_in (x := t + 1) (by omega), this, untilN, hpr, h_l, h_s, hd]
      · simp only [untilN, hd, cond_true]
        rw [← ih (t + 1) (by omega) (by omega)]
        refine iter_step ?_
        simp [iDecisionUntil.l1, w64_in (x := q.Now + most) (by omega), w64_in (x := t + 1) (by omega), this, hpr, h_l, h_s, hd]
  rw [loop_some (loopL _ q.Now hn.1 rfl)]
  rfl
@[simp] theorem iDecisionUntil_ok' (l : List Includes) (s : List Fact) (p_Version : Int) (p_Rules : List Rule) (q_Person : Int) (q_Device : Int) (q_Program : Int) (q_Action : Int) (q_Object : Int) (q_Now : Int) (most : Int) (h_l : ok l) (h_s : ok s) (h_p0 : ok p_Rules) : iDecisionUntil.t [D.rows (List.map row l), D.rows (List.map row s), D.st [D.int p_Version, D.rows (List.map row p_Rules)], D.st [D.int q_Person, D.int q_Device, D.int q_Program, D.int q_Action, D.int q_Object, D.int q_Now], D.int most] = some [D.int (DecisionUntil l s (⟨p_Version, p_Rules⟩ : Policy) (⟨q_Person, q_Device, q_Program, q_Action, q_Object, q_Now⟩ : Request) most)] := iDecisionUntil_ok l s (⟨p_Version, p_Rules⟩ : Policy) (⟨q_Person, q_Device, q_Program, q_Action, q_Object, q_Now⟩ : Request) most h_l h_s h_p0
theorem sDecisionUntil_ok (l : List Includes) (s : List Fact) (p : Policy) (q : Request) (most : Int) (h_l : ok l) (h_s : ok s) (h_p : ok p) : sDecisionUntil.t [D.rows (List.map row l), D.rows (List.map row s), D.st (row p), D.st (row q), D.int most] = some [D.int (DecisionUntil l s p q most)] := by
  have hpr : ok p.Rules := h_p
  simp [sDecisionUntil.t, sDecisionUntil.b, DecisionUntil, hpr, h_l, h_s]
  cases hq : IsRequest q
  · rfl
  cases hp : IsPolicy p
  · rfl
  cases hm : InRange most 0 60
  · rfl
  simp
  have hn := req_now hq
  rw [InRange_iff] at hm
  have loopL : ∀ (n : Nat) (t : Int), 0 ≤ t → (minI (q.Now + most) 10000 - t).toNat = n → iter sDecisionUntil.l1 [D.int most, D.int (DecideBy l s p q), D.int t, D.rows (List.map row l), D.rows (List.map row s), D.int p.Version, D.int q.Person, D.int q.Device, D.int q.Program, D.int q.Action, D.int q.Object, D.int q.Now, D.rows (List.map row p.Rules)] = some (.inl [D.int (untilN (fun t => DecideBy l s p (AtTime q t) == DecideBy l s p q) n t)]) := by
    intro n
    induction n with
    | zero =>
      intro t h0 hn
      have hlt : ltI t (minI (q.Now + most) 10000) = false := by simp [ltI]; omega
      rw [min_lt] at hlt
      refine iter_inr ?_
      cases h1 : ltI t (q.Now + most)
      · simp [sDecisionUntil.l1, w64_in (x := q.Now + most) (by omega), h1, untilN]
      · rw [h1] at hlt
        simp [sDecisionUntil.l1, w64_in (x := q.Now + most) (by omega), h1, show ltI t 10000 = false by simpa using hlt, untilN]
    | succ n ih =>
      intro t h0 hn'
      have hlt : t < minI (q.Now + most) 10000 := by omega
      have h9 : minI (q.Now + most) 10000 ≤ 10000 := by unfold minI; split <;> omega
      have hlt' : ltI t (minI (q.Now + most) 10000) = true := ltI_iff.2 hlt
      rw [min_lt, Bool.and_eq_true] at hlt'
      cases hd : DecideBy l s p (AtTime q (t + 1)) == DecideBy l s p q
      · refine iter_inr ?_
        simp [sDecisionUntil.l1, w64_in (x := q.Now + most) (by omega), w64_in (x := t + 1) (by omega), hlt'.1, hlt'.2, untilN, hpr, h_l, h_s, hd]
      · simp only [untilN, hd, cond_true]
        rw [← ih (t + 1) (by omega) (by omega)]
        refine iter_step ?_
        simp [sDecisionUntil.l1, w64_in (x := q.Now + most) (by omega), w64_in (x := t + 1) (by omega), hlt'.1, hlt'.2, hpr, h_l, h_s, hd]
  rw [loop_some (loopL _ q.Now hn.1 rfl)]
  rfl
@[simp] theorem sDecisionUntil_ok' (l : List Includes) (s : List Fact) (p_Version : Int) (p_Rules : List Rule) (q_Person : Int) (q_Device : Int) (q_Program : Int) (q_Action : Int) (q_Object : Int) (q_Now : Int) (most : Int) (h_l : ok l) (h_s : ok s) (h_p0 : ok p_Rules) : sDecisionUntil.t [D.rows (List.map row l), D.rows (List.map row s), D.st [D.int p_Version, D.rows (List.map row p_Rules)], D.st [D.int q_Person, D.int q_Device, D.int q_Program, D.int q_Action, D.int q_Object, D.int q_Now], D.int most] = some [D.int (DecisionUntil l s (⟨p_Version, p_Rules⟩ : Policy) (⟨q_Person, q_Device, q_Program, q_Action, q_Object, q_Now⟩ : Request) most)] := sDecisionUntil_ok l s (⟨p_Version, p_Rules⟩ : Policy) (⟨q_Person, q_Device, q_Program, q_Action, q_Object, q_Now⟩ : Request) most h_l h_s h_p0
def SaveDecision (l : List Includes) (s : List Fact) (p : Policy) (q : Request) (most : Int) : Saved := ⟨q, DecideBy l s p q, DecisionUntil l s p q most⟩
theorem iSaveDecision_ok (l : List Includes) (s : List Fact) (p : Policy) (q : Request) (most : Int) (h_l : ok l) (h_s : ok s) (h_p : ok p) : iSaveDecision.t [D.rows (List.map row l), D.rows (List.map row s), D.st (row p), D.st (row q), D.int most] = some [D.st (row (SaveDecision l s p q most))] := by
  simp [iSaveDecision.t, iSaveDecision.b, SaveDecision, show ok p.Rules from h_p, h_l, h_s]
@[simp] theorem iSaveDecision_ok' (l : List Includes) (s : List Fact) (p_Version : Int) (p_Rules : List Rule) (q_Person : Int) (q_Device : Int) (q_Program : Int) (q_Action : Int) (q_Object : Int) (q_Now : Int) (most : Int) (h_l : ok l) (h_s : ok s) (h_p0 : ok p_Rules) : iSaveDecision.t [D.rows (List.map row l), D.rows (List.map row s), D.st [D.int p_Version, D.rows (List.map row p_Rules)], D.st [D.int q_Person, D.int q_Device, D.int q_Program, D.int q_Action, D.int q_Object, D.int q_Now], D.int most] = some [D.st (row (SaveDecision l s (⟨p_Version, p_Rules⟩ : Policy) (⟨q_Person, q_Device, q_Program, q_Action, q_Object, q_Now⟩ : Request) most))] := iSaveDecision_ok l s (⟨p_Version, p_Rules⟩ : Policy) (⟨q_Person, q_Device, q_Program, q_Action, q_Object, q_Now⟩ : Request) most h_l h_s h_p0
theorem sSaveDecision_ok (l : List Includes) (s : List Fact) (p : Policy) (q : Request) (most : Int) (h_l : ok l) (h_s : ok s) (h_p : ok p) : sSaveDecision.t [D.rows (List.map row l), D.rows (List.map row s), D.st (row p), D.st (row q), D.int most] = some [D.st (row (SaveDecision l s p q most))] := by
  simp [sSaveDecision.t, sSaveDecision.b, SaveDecision, show ok p.Rules from h_p, h_l, h_s]
@[simp] theorem sSaveDecision_ok' (l : List Includes) (s : List Fact) (p_Version : Int) (p_Rules : List Rule) (q_Person : Int) (q_Device : Int) (q_Program : Int) (q_Action : Int) (q_Object : Int) (q_Now : Int) (most : Int) (h_l : ok l) (h_s : ok s) (h_p0 : ok p_Rules) : sSaveDecision.t [D.rows (List.map row l), D.rows (List.map row s), D.st [D.int p_Version, D.rows (List.map row p_Rules)], D.st [D.int q_Person, D.int q_Device, D.int q_Program, D.int q_Action, D.int q_Object, D.int q_Now], D.int most] = some [D.st (row (SaveDecision l s (⟨p_Version, p_Rules⟩ : Policy) (⟨q_Person, q_Device, q_Program, q_Action, q_Object, q_Now⟩ : Request) most))] := sSaveDecision_ok l s (⟨p_Version, p_Rules⟩ : Policy) (⟨q_Person, q_Device, q_Program, q_Action, q_Object, q_Now⟩ : Request) most h_l h_s h_p0
end Acc
end
section
/- Copies, and what a point answers. -/
namespace Acc
open Go Go.Ev
@[simp] theorem N0_nil : N0 = [] := rfl
theorem grow_fold {α : Type} : ∀ (l o : List α), l.foldl (fun o x => o ++ [x]) o = o ++ l
  | [], o => by simp
  | x :: l, o => by rw [List.foldl_cons, grow_fold l]; simp
theorem icopyCond_F : ∀ (m : Nat) (x : Cond), ok x → x.csize ≤ m → icopyCond.F m icopyCond.n [D.st (row x)] = some [D.st (row x)]
  | 0, x, _, h => by rw [x.csize_eq] at h; omega
  | m + 1, y, hok, h => by
    have ih := icopyCond_F m
    have h_l : y.Args.length ≤ 16777216 ∧ True := ⟨ok_args hok, trivial⟩
    have hmem := fun z (hz : z ∈ y.Args) => And.intro (ok_arg hok hz) (Cond.csize_mem hz)
    have e : icopyCond.F (m + 1) icopyCond.n = fun a => icopyCond.b (icopyCond.F m) (res a 0) := rfl
    rw [e]
    have key := iter_list (f := icopyCond.l1 (icopyCond.F m)) y.Args (fun k (o : List Cond) => [D.int (y.Args.length : Int), D.int (k : Int), D.int 0, D.int 0, D.int 0, D.int y.Op, D.int y.A, D.int y.B, D.rows (List.map row y.Args), D.rows (List.map row o)]) (fun k (o : List Cond) => o.length ≤ k) (fun k x (o : List Cond) => .inl (o ++ [x])) (fun (o : List Cond) => .inl [D.int 0, D.int 0, D.int 0, D.int y.Op, D.int y.A, D.int y.B, D.rows (List.map row o)])
      (fun k x o hx hI => by
        have hk : k < y.Args.length := (List.getElem?_eq_some_iff.1 hx).1
        have hxl := List.mem_of_getElem? hx
        have hih := ih x (hmem x hxl).1 (by have := (hmem x hxl).2; omega)
        simp only [row_Cond] at hih
        refine ⟨?_, ?_⟩
        · simp [icopyCond.l1, cell_map hx, lt_k hk, w64_k hk (by have := h_l.1; omega), hih, leN_of (show o.length + 1 ≤ 4294967296 by have := h_l.1; omega)]
        simp; omega)
      (fun o hI => by simp [icopyCond.l1]) [] (by first | (simp; done) | (simp; omega) | omega)
    simp only [icopyCond.b, row_Cond, res_zero, res_succ, r_rows, i_int, f_st, List.length_map]
    refine (loop_some key).trans ?_
    rw [goList_fold, grow_fold]
    simp
theorem icopyCond_ok (x : Cond) (h_x : ok x) : icopyCond.t [D.st (row x)] = some [D.st (row x)] := by
  exact lim_eq x.csize fun m hm => icopyCond_F m x h_x hm
@[simp] theorem icopyCond_ok' (x_Op : Int) (x_A : Int) (x_B : Int) (x_Args : List Cond) (h_x0 : ok (Cond.mk x_Op x_A x_B x_Args)) : icopyCond.t [D.st [D.int x_Op, D.int x_A, D.int x_B, D.rows (List.map row x_Args)]] = some [D.st (row ((.mk x_Op x_A x_B x_Args) : Cond))] := by have h := icopyCond_ok (.mk x_Op x_A x_B x_Args) h_x0; simp only [row_Cond, Cond.Op_mk, Cond.A_mk, Cond.B_mk, Cond.Args_mk] at h ⊢; exact h
theorem sl15Copy_F : ∀ (m : Nat) (x : Cond), ok x → x.csize ≤ m → sl15Copy.F m sl15Copy.n [D.st (row x)] = some [D.st (row x)]
  | 0, x, _, h => by rw [x.csize_eq] at h; omega
  | m + 1, y, hok, h => by
    have ih := sl15Copy_F m
    have h_l : y.Args.length ≤ 16777216 ∧ True := ⟨ok_args hok, trivial⟩
    have hmem := fun z (hz : z ∈ y.Args) => And.intro (ok_arg hok hz) (Cond.csize_mem hz)
    have e : sl15Copy.F (m + 1) sl15Copy.n = fun a => sl15Copy.b (sl15Copy.F m) (res a 0) := rfl
    rw [e]
    have key := iter_list (f := sl15Copy.l1 (sl15Copy.F m)) y.Args (fun k (o : List Cond) => [D.int (k : Int), D.int y.Op, D.int y.A, D.int y.B, D.int 0, D.int 0, D.int 0, D.int y.Op, D.int y.A, D.int y.B, D.rows (List.map row y.Args), D.rows (List.map row o)]) (fun k (o : List Cond) => o.length ≤ k) (fun k x (o : List Cond) => .inl (o ++ [x])) (fun (o : List Cond) => .inl [D.int 0, D.int 0, D.int 0, D.int y.Op, D.int y.A, D.int y.B, D.rows (List.map row o)])
      (fun k x o hx hI => by
        have hk : k < y.Args.length := (List.getElem?_eq_some_iff.1 hx).1
        have hxl := List.mem_of_getElem? hx
        have hih := ih x (hmem x hxl).1 (by have := (hmem x hxl).2; omega)
        simp only [row_Cond] at hih
        refine ⟨?_, ?_⟩
        · simp [sl15Copy.l1, cell_map hx, lt_k hk, w64_k hk (by have := h_l.1; omega), hih, leN_of (show o.length + 1 ≤ 4294967296 by have := h_l.1; omega)]
        simp; omega)
      (fun o hI => by simp [sl15Copy.l1]) [] (by first | (simp; done) | (simp; omega) | omega)
    simp only [sl15Copy.b, row_Cond, res_zero, res_succ, r_rows, i_int, f_st, List.length_map]
    refine (loop_some key).trans ?_
    rw [goList_fold, grow_fold]
    simp
theorem sl15Copy_ok (x : Cond) (h_x : ok x) : sl15Copy.t [D.st (row x)] = some [D.st (row x)] := by
  exact lim_eq x.csize fun m hm => sl15Copy_F m x h_x hm
@[simp] theorem sl15Copy_ok' (x_Op : Int) (x_A : Int) (x_B : Int) (x_Args : List Cond) (h_x0 : ok (Cond.mk x_Op x_A x_B x_Args)) : sl15Copy.t [D.st [D.int x_Op, D.int x_A, D.int x_B, D.rows (List.map row x_Args)]] = some [D.st (row ((.mk x_Op x_A x_B x_Args) : Cond))] := by have h := sl15Copy_ok (.mk x_Op x_A x_B x_Args) h_x0; simp only [row_Cond, Cond.Op_mk, Cond.A_mk, Cond.B_mk, Cond.Args_mk] at h ⊢; exact h
@[simp] theorem icopyRules_ok (l : List Rule) (h_l : ok l) : icopyRules.t [D.rows (List.map row l)] = some [D.rows (List.map row l)] := by
  have key := iter_list (f := icopyRules.l1) l (fun k (o : List Rule) => [D.int (l.length : Int), D.int (k : Int), D.rows (List.map row o), D.rows (List.map row l)]) (fun k (o : List Rule) => o.length ≤ k) (fun k x (o : List Rule) => .inl (o ++ [x])) (fun (o : List Rule) => .inl [D.rows (List.map row o)])
    (fun k x o hx hI => by
      have hk : k < l.length := (List.getElem?_eq_some_iff.1 hx).1
      have hxl := List.mem_of_getElem? hx
      refine ⟨?_, ?_⟩
      · simp [icopyRules.l1, cell_map hx, lt_k hk, w64_k hk (by have := h_l.1; omega), (show ok x.Cond from h_l.2 x hxl), leN_of (show o.length + 1 ≤ 4294967296 by have := h_l.1; omega)]
      simp; omega)
    (fun o hI => by simp [icopyRules.l1]) [] (by first | (simp; done) | (simp; omega) | omega)
  simp only [icopyRules.t, icopyRules.b, res_zero, res_succ, r_rows, i_int, b_bool, s_str, f_st, List.length_map]
  refine (loop_some key).trans ?_
  rw [goList_fold, grow_fold]; rfl
theorem icopyPolicy_ok (p : Policy) (h_p : ok p) : icopyPolicy.t [D.st (row p)] = some [D.st (row p)] := by
  simp [icopyPolicy.t, icopyPolicy.b, show ok p.Rules from h_p]
@[simp] theorem icopyPolicy_ok' (p_Version : Int) (p_Rules : List Rule) (h_p0 : ok p_Rules) : icopyPolicy.t [D.st [D.int p_Version, D.rows (List.map row p_Rules)]] = some [D.st (row (⟨p_Version, p_Rules⟩ : Policy))] := icopyPolicy_ok (⟨p_Version, p_Rules⟩ : Policy) h_p0
theorem sl19Copy_ok (p : Policy) (h_p : ok p) : sl19Copy.t [D.st (row p)] = some [D.st (row p)] := by
  have h_l : ok p.Rules := h_p
  have key := iter_list (f := sl19Copy.l1) p.Rules (fun k (o : List Rule) => [D.int (k : Int), D.int p.Version, D.int 0, D.int p.Version, D.rows (List.map row p.Rules), D.rows (List.map row o)]) (fun k (o : List Rule) => o.length ≤ k) (fun k x (o : List Rule) => .inl (o ++ [x])) (fun (o : List Rule) => .inl [D.int 0, D.int p.Version, D.rows (List.map row o)])
    (fun k x o hx hI => by
      have hk : k < p.Rules.length := (List.getElem?_eq_some_iff.1 hx).1
      have hxl := List.mem_of_getElem? hx
      refine ⟨?_, ?_⟩
      · simp [sl19Copy.l1, cell_map hx, lt_k hk, w64_k hk (by have := h_l.1; omega), (show ok x.Cond from h_l.2 x hxl), leN_of (show o.length + 1 ≤ 4294967296 by have := h_l.1; omega)]
      simp; omega)
    (fun o hI => by simp [sl19Copy.l1]) [] (by first | (simp; done) | (simp; omega) | omega)
  simp only [sl19Copy.t, sl19Copy.b, res_zero, res_succ, r_rows, i_int, b_bool, s_str, f_st, List.length_map, row_Policy]
  refine (loop_some key).trans ?_
  rw [goList_fold, grow_fold]; rfl
@[simp] theorem sl19Copy_ok' (p_Version : Int) (p_Rules : List Rule) (h_p0 : ok p_Rules) : sl19Copy.t [D.st [D.int p_Version, D.rows (List.map row p_Rules)]] = some [D.st (row (⟨p_Version, p_Rules⟩ : Policy))] := sl19Copy_ok (⟨p_Version, p_Rules⟩ : Policy) h_p0
theorem ok_len {α : Type} [Bd α] {l : List α} (h : ok l) : leN l.length 4294967296 = true := leN_of (by have := h.1; omega)
theorem icopyEpoch_ok (e : Epoch) (h_e : ok e) : icopyEpoch.t [D.st (row e)] = some [D.st (row e)] := by
  simp [icopyEpoch.t, icopyEpoch.b, show ok e.Policy.Rules from h_e.2, ok_len h_e.1]
@[simp] theorem icopyEpoch_ok' (e_Number : Int) (e_At : Int) (e_Pairs : List Includes) (e_PolicyVersion : Int) (e_PolicyRules : List Rule) (h_e0 : ok e_Pairs) (h_e1 : ok e_PolicyRules) : icopyEpoch.t [D.st [D.int e_Number, D.int e_At, D.rows (List.map row e_Pairs), D.int e_PolicyVersion, D.rows (List.map row e_PolicyRules)]] = some [D.st (row (⟨e_Number, e_At, e_Pairs, ⟨e_PolicyVersion, e_PolicyRules⟩⟩ : Epoch))] := icopyEpoch_ok (⟨e_Number, e_At, e_Pairs, ⟨e_PolicyVersion, e_PolicyRules⟩⟩ : Epoch) ⟨h_e0, h_e1⟩
theorem sl24Copy_ok (e : Epoch) (h_e : ok e) : sl24Copy.t [D.st (row e)] = some [D.st (row e)] := by
  simp [sl24Copy.t, sl24Copy.b, show ok e.Policy.Rules from h_e.2, ok_len h_e.1]
@[simp] theorem sl24Copy_ok' (e_Number : Int) (e_At : Int) (e_Pairs : List Includes) (e_PolicyVersion : Int) (e_PolicyRules : List Rule) (h_e0 : ok e_Pairs) (h_e1 : ok e_PolicyRules) : sl24Copy.t [D.st [D.int e_Number, D.int e_At, D.rows (List.map row e_Pairs), D.int e_PolicyVersion, D.rows (List.map row e_PolicyRules)]] = some [D.st (row (⟨e_Number, e_At, e_Pairs, ⟨e_PolicyVersion, e_PolicyRules⟩⟩ : Epoch))] := sl24Copy_ok (⟨e_Number, e_At, e_Pairs, ⟨e_PolicyVersion, e_PolicyRules⟩⟩ : Epoch) ⟨h_e0, h_e1⟩
@[simp] theorem icopyFacts_ok (s : List Fact) (h_s : ok s) : icopyFacts.t [D.rows (List.map row s)] = some [D.rows (List.map row s)] := by
  simp [icopyFacts.t, icopyFacts.b, ok_len h_s]
@[simp] theorem sl7Copy_ok (s : List Fact) (h_s : ok s) : sl7Copy.t [D.rows (List.map row s)] = some [D.rows (List.map row s)] := by
  simp [sl7Copy.t, sl7Copy.b, ok_len h_s]
theorem icopyPoint_ok (p : Point) (h_p : ok p) : icopyPoint.t [D.st (row p)] = some [D.st (row p)] := by
  obtain ⟨h1, h2, h3, h4⟩ := h_p
  simp [icopyPoint.t, icopyPoint.b, show ok p.Epoch.Policy.Rules from h1.2, show ok p.Epoch.Pairs from h1.1, h2, ok_len h3, ok_len h4]
@[simp] theorem icopyPoint_ok' (p_Id : Int) (p_EpochNumber : Int) (p_EpochAt : Int) (p_EpochPairs : List Includes) (p_EpochPolicyVersion : Int) (p_EpochPolicyRules : List Rule) (p_Store : List Fact) (p_Revoked : List Revoked) (p_SyncedAt : Int) (p_Saved : List Saved) (h_p0 : ok p_EpochPairs) (h_p1 : ok p_EpochPolicyRules) (h_p2 : ok p_Store) (h_p3 : ok p_Revoked) (h_p4 : ok p_Saved) : icopyPoint.t [D.st [D.int p_Id, D.int p_EpochNumber, D.int p_EpochAt, D.rows (List.map row p_EpochPairs), D.int p_EpochPolicyVersion, D.rows (List.map row p_EpochPolicyRules), D.rows (List.map row p_Store), D.rows (List.map row p_Revoked), D.int p_SyncedAt, D.rows (List.map row p_Saved)]] = some [D.st (row (⟨p_Id, ⟨p_EpochNumber, p_EpochAt, p_EpochPairs, ⟨p_EpochPolicyVersion, p_EpochPolicyRules⟩⟩, p_Store, p_Revoked, p_SyncedAt, p_Saved⟩ : Point))] := icopyPoint_ok (⟨p_Id, ⟨p_EpochNumber, p_EpochAt, p_EpochPairs, ⟨p_EpochPolicyVersion, p_EpochPolicyRules⟩⟩, p_Store, p_Revoked, p_SyncedAt, p_Saved⟩ : Point) ⟨⟨h_p0, h_p1⟩, h_p2, h_p3, h_p4⟩
theorem sl27Copy_ok (p : Point) (h_p : ok p) : sl27Copy.t [D.st (row p)] = some [D.st (row p)] := by
  obtain ⟨h1, h2, h3, h4⟩ := h_p
  simp [sl27Copy.t, sl27Copy.b, show ok p.Epoch.Policy.Rules from h1.2, show ok p.Epoch.Pairs from h1.1, h2, ok_len h3, ok_len h4]
@[simp] theorem sl27Copy_ok' (p_Id : Int) (p_EpochNumber : Int) (p_EpochAt : Int) (p_EpochPairs : List Includes) (p_EpochPolicyVersion : Int) (p_EpochPolicyRules : List Rule) (p_Store : List Fact) (p_Revoked : List Revoked) (p_SyncedAt : Int) (p_Saved : List Saved) (h_p0 : ok p_EpochPairs) (h_p1 : ok p_EpochPolicyRules) (h_p2 : ok p_Store) (h_p3 : ok p_Revoked) (h_p4 : ok p_Saved) : sl27Copy.t [D.st [D.int p_Id, D.int p_EpochNumber, D.int p_EpochAt, D.rows (List.map row p_EpochPairs), D.int p_EpochPolicyVersion, D.rows (List.map row p_EpochPolicyRules), D.rows (List.map row p_Store), D.rows (List.map row p_Revoked), D.int p_SyncedAt, D.rows (List.map row p_Saved)]] = some [D.st (row (⟨p_Id, ⟨p_EpochNumber, p_EpochAt, p_EpochPairs, ⟨p_EpochPolicyVersion, p_EpochPolicyRules⟩⟩, p_Store, p_Revoked, p_SyncedAt, p_Saved⟩ : Point))] := sl27Copy_ok (⟨p_Id, ⟨p_EpochNumber, p_EpochAt, p_EpochPairs, ⟨p_EpochPolicyVersion, p_EpochPolicyRules⟩⟩, p_Store, p_Revoked, p_SyncedAt, p_Saved⟩ : Point) ⟨⟨h_p0, h_p1⟩, h_p2, h_p3, h_p4⟩
def PutSaved (l : List Saved) (x : Saved) : List Saved := bif gtI ((l.filter (fun y => !SameQuestion y.Ask x.Ask) ++ [x]).length : Int) 8 then (l.filter (fun y => !SameQuestion y.Ask x.Ask) ++ [x]).drop 1 else l.filter (fun y => !SameQuestion y.Ask x.Ask) ++ [x]
theorem PutSaved_le (l : List Saved) (x : Saved) : (PutSaved l x).length ≤ l.length + 1 := by
  have := List.length_filter_le (fun y : Saved => !SameQuestion y.Ask x.Ask) l
  unfold PutSaved
  cases gtI ((l.filter (fun y => !SameQuestion y.Ask x.Ask) ++ [x]).length : Int) 8 <;> simp <;> omega
theorem filt_go {α : Type} (p : α → Bool) : ∀ (l o : List α), l.foldl (fun o x => bif p x then o ++ [x] else o) o = o ++ l.filter p
  | [], o => by simp
  | x :: l, o => by
    rw [List.foldl_cons, filt_go p l, List.filter_cons]
    cases p x <;> simp
theorem iPutSaved_ok (l : List Saved) (y : Saved) (h_l : ok l) : iPutSaved.t [D.rows (List.map row l), D.st (row y)] = some [D.rows (List.map row (PutSaved l y))] := by
  have key := iter_list (f := iPutSaved.l1) l (fun k (o : List Saved) => [D.int (l.length : Int), D.int (k : Int), D.int y.Ask.Person, D.int y.Ask.Device, D.int y.Ask.Program, D.int y.Ask.Action, D.int y.Ask.Object, D.int y.Ask.Now, D.int y.Outcome, D.int y.Until, D.rows (List.map row o), D.rows (List.map row l)]) (fun k (o : List Saved) => o.length ≤ k) (fun k x (o : List Saved) => .inl (bif !SameQuestion x.Ask y.Ask then o ++ [x] else o)) (fun (o : List Saved) => .inl (List.append (row y) [D.rows (List.map row o)]))
    (fun k x o hx hI => by
      have hk : k < l.length := (List.getElem?_eq_some_iff.1 hx).1
      have hxl := List.mem_of_getElem? hx
      refine ⟨?_, ?_⟩
      · simp [iPutSaved.l1, cell_map hx, lt_k hk, w64_k hk (by have := h_l.1; omega), leN_of (show o.length + 1 ≤ 4294967296 by have := h_l.1; omega)]
        cases SameQuestion x.Ask y.Ask <;> simp
      cases SameQuestion x.Ask y.Ask <;> simp <;> omega)
    (fun o hI => by simp [iPutSaved.l1]) [] (by first | (simp; done) | (simp; omega) | omega)
  simp only [iPutSaved.t, iPutSaved.b, res_zero, res_succ, r_rows, i_int, b_bool, s_str, f_st, List.length_map, row_Saved]
  refine (loop_some key).trans ?_
  rw [goList_fold, filt_go]
  have hl := List.length_filter_le (fun x : Saved => !SameQuestion x.Ask y.Ask) l
  have h1 : leN ((l.filter (fun x => !SameQuestion x.Ask y.Ask)).length + 1) 4294967296 = true := leN_of (by have := h_l.1; omega)
  unfold PutSaved
  simp [h1]
  cases ltI 8 (((l.filter (fun x => !SameQuestion x.Ask y.Ask)).length : Int) + 1)
  · simp
  · simp [show leI 1 (((l.filter (fun x => !SameQuestion x.Ask y.Ask)).length : Int) + 1) = true from leI_iff.2 (by omega)]
    rw [List.take_of_length_le (by simp)]
@[simp] theorem iPutSaved_ok' (l : List Saved) (y_AskPerson : Int) (y_AskDevice : Int) (y_AskProgram : Int) (y_AskAction : Int) (y_AskObject : Int) (y_AskNow : Int) (y_Outcome : Int) (y_Until : Int) (h_l : ok l) : iPutSaved.t [D.rows (List.map row l), D.st [D.int y_AskPerson, D.int y_AskDevice, D.int y_AskProgram, D.int y_AskAction, D.int y_AskObject, D.int y_AskNow, D.int y_Outcome, D.int y_Until]] = some [D.rows (List.map row (PutSaved l (⟨⟨y_AskPerson, y_AskDevice, y_AskProgram, y_AskAction, y_AskObject, y_AskNow⟩, y_Outcome, y_Until⟩ : Saved)))] := iPutSaved_ok l (⟨⟨y_AskPerson, y_AskDevice, y_AskProgram, y_AskAction, y_AskObject, y_AskNow⟩, y_Outcome, y_Until⟩ : Saved) h_l
theorem sPutSaved_ok (l : List Saved) (y : Saved) (h_l : ok l) : sPutSaved.t [D.rows (List.map row l), D.st (row y)] = some [D.rows (List.map row (PutSaved l y))] := by
  have key := iter_list (f := sPutSaved.l1) l (fun k (o : List Saved) => [D.int (k : Int), D.rows (List.map row l), D.int y.Ask.Person, D.int y.Ask.Device, D.int y.Ask.Program, D.int y.Ask.Action, D.int y.Ask.Object, D.int y.Ask.Now, D.int y.Outcome, D.int y.Until, D.rows (List.map row o)]) (fun k (o : List Saved) => o.length ≤ k) (fun k x (o : List Saved) => .inl (bif !SameQuestion x.Ask y.Ask then o ++ [x] else o)) (fun (o : List Saved) => .inl (List.append (row y) [D.rows (List.map row o)]))
    (fun k x o hx hI => by
      have hk : k < l.length := (List.getElem?_eq_some_iff.1 hx).1
      have hxl := List.mem_of_getElem? hx
      refine ⟨?_, ?_⟩
      · simp [sPutSaved.l1, cell_map hx, lt_k hk, w64_k hk (by have := h_l.1; omega), leN_of (show o.length + 1 ≤ 4294967296 by have := h_l.1; omega)]
        cases SameQuestion x.Ask y.Ask <;> simp
      cases SameQuestion x.Ask y.Ask <;> simp <;> omega)
    (fun o hI => by simp [sPutSaved.l1]) [] (by first | (simp; done) | (simp; omega) | omega)
  simp only [sPutSaved.t, sPutSaved.b, res_zero, res_succ, r_rows, i_int, b_bool, s_str, f_st, List.length_map, row_Saved]
  refine (loop_some key).trans ?_
  rw [goList_fold, filt_go]
  have hl := List.length_filter_le (fun x : Saved => !SameQuestion x.Ask y.Ask) l
  have h1 : leN ((l.filter (fun x => !SameQuestion x.Ask y.Ask)).length + 1) 4294967296 = true := leN_of (by have := h_l.1; omega)
  unfold PutSaved
  simp [h1]
  cases ltI 8 (((l.filter (fun x => !SameQuestion x.Ask y.Ask)).length : Int) + 1)
  · simp
  · simp [show leI 1 (((l.filter (fun x => !SameQuestion x.Ask y.Ask)).length : Int) + 1) = true from leI_iff.2 (by omega)]
    rw [List.take_of_length_le (by simp)]
@[simp] theorem sPutSaved_ok' (l : List Saved) (y_AskPerson : Int) (y_AskDevice : Int) (y_AskProgram : Int) (y_AskAction : Int) (y_AskObject : Int) (y_AskNow : Int) (y_Outcome : Int) (y_Until : Int) (h_l : ok l) : sPutSaved.t [D.rows (List.map row l), D.st [D.int y_AskPerson, D.int y_AskDevice, D.int y_AskProgram, D.int y_AskAction, D.int y_AskObject, D.int y_AskNow, D.int y_Outcome, D.int y_Until]] = some [D.rows (List.map row (PutSaved l (⟨⟨y_AskPerson, y_AskDevice, y_AskProgram, y_AskAction, y_AskObject, y_AskNow⟩, y_Outcome, y_Until⟩ : Saved)))] := sPutSaved_ok l (⟨⟨y_AskPerson, y_AskDevice, y_AskProgram, y_AskAction, y_AskObject, y_AskNow⟩, y_Outcome, y_Until⟩ : Saved) h_l
end Acc
end
section
/- What a point answers; sessions. -/
namespace Acc
open Go Go.Ev
def AskPoint (p : Point) (secret : Int) (x : Cert) (q : Request) : Point × Int :=
  bif IsRequest q && (CheckCert secret x q.Now && x.Subject == q.Device) then
    bif IsCurrent p q.Now then
      bif IsRevoked p.Revoked x.Serial q.Now then (p, 3) else
      match p.Saved.find? (savedFits q) with
      | some y => (p, y.Outcome)
      | none => ({ p with Saved := PutSaved p.Saved (SaveDecision p.Epoch.Pairs p.Store p.Epoch.Policy q 10) }, DecideBy p.Epoch.Pairs p.Store p.Epoch.Policy q)
    else (p, 2)
  else (p, 4)
theorem iAskPoint_ok (p : Point) (secret : Int) (x : Cert) (q : Request) (h_p : ok p) : iAskPoint.t [D.st (row p), D.int secret, D.st (row x), D.st (row q)] = some [D.st (row ((AskPoint p secret x q).1)), D.int ((AskPoint p secret x q).2)] := by
  obtain ⟨h1, h2, h3, h4⟩ := h_p
  have h5 : ok p.Epoch.Policy.Rules := h1.2
  have h6 : ok p.Epoch.Pairs := h1.1
  simp [iAskPoint.t, iAskPoint.b, AskPoint, h2, h3, h4, h5, h6, bne]
  cases IsRequest q
  · simp
  cases CheckCert secret x q.Now
  · simp
  cases x.Subject == q.Device
  · simp
  cases IsCurrent p q.Now
  · simp
  cases IsRevoked p.Revoked x.Serial q.Now
  · unfold FindSaved
    rcases idxOf_cases (savedFits q) p.Saved with ⟨_, e1, e2⟩ | ⟨i, y, _, e1, e2, _, e4⟩
    · rw [e1, e2]; simp [SaveDecision, leI, h4]
    · rw [e1, e4]; simp [lt_k (List.getElem?_eq_some_iff.1 e2).1, cell_map e2]
  · simp
@[simp] theorem iAskPoint_ok' (p_Id : Int) (p_EpochNumber : Int) (p_EpochAt : Int) (p_EpochPairs : List Includes) (p_EpochPolicyVersion : Int) (p_EpochPolicyRules : List Rule) (p_Store : List Fact) (p_Revoked : List Revoked) (p_SyncedAt : Int) (p_Saved : List Saved) (secret : Int) (x_Serial : Int) (x_Subject : Int) (x_Key : Int) (x_From : Int) (x_Until : Int) (x_Mark : Int) (q_Person : Int) (q_Device : Int) (q_Program : Int) (q_Action : Int) (q_Object : Int) (q_Now : Int) (h_p0 : ok p_EpochPairs) (h_p1 : ok p_EpochPolicyRules) (h_p2 : ok p_Store) (h_p3 : ok p_Revoked) (h_p4 : ok p_Saved) : iAskPoint.t [D.st [D.int p_Id, D.int p_EpochNumber, D.int p_EpochAt, D.rows (List.map row p_EpochPairs), D.int p_EpochPolicyVersion, D.rows (List.map row p_EpochPolicyRules), D.rows (List.map row p_Store), D.rows (List.map row p_Revoked), D.int p_SyncedAt, D.rows (List.map row p_Saved)], D.int secret, D.st [D.int x_Serial, D.int x_Subject, D.int x_Key, D.int x_From, D.int x_Until, D.int x_Mark], D.st [D.int q_Person, D.int q_Device, D.int q_Program, D.int q_Action, D.int q_Object, D.int q_Now]] = some [D.st (row ((AskPoint (⟨p_Id, ⟨p_EpochNumber, p_EpochAt, p_EpochPairs, ⟨p_EpochPolicyVersion, p_EpochPolicyRules⟩⟩, p_Store, p_Revoked, p_SyncedAt, p_Saved⟩ : Point) secret (⟨x_Serial, x_Subject, x_Key, x_From, x_Until, x_Mark⟩ : Cert) (⟨q_Person, q_Device, q_Program, q_Action, q_Object, q_Now⟩ : Request)).1)), D.int ((AskPoint (⟨p_Id, ⟨p_EpochNumber, p_EpochAt, p_EpochPairs, ⟨p_EpochPolicyVersion, p_EpochPolicyRules⟩⟩, p_Store, p_Revoked, p_SyncedAt, p_Saved⟩ : Point) secret (⟨x_Serial, x_Subject, x_Key, x_From, x_Until, x_Mark⟩ : Cert) (⟨q_Person, q_Device, q_Program, q_Action, q_Object, q_Now⟩ : Request)).2)] := iAskPoint_ok (⟨p_Id, ⟨p_EpochNumber, p_EpochAt, p_EpochPairs, ⟨p_EpochPolicyVersion, p_EpochPolicyRules⟩⟩, p_Store, p_Revoked, p_SyncedAt, p_Saved⟩ : Point) secret (⟨x_Serial, x_Subject, x_Key, x_From, x_Until, x_Mark⟩ : Cert) (⟨q_Person, q_Device, q_Program, q_Action, q_Object, q_Now⟩ : Request) ⟨⟨h_p0, h_p1⟩, h_p2, h_p3, h_p4⟩
theorem sAskPoint_ok (p : Point) (secret : Int) (x : Cert) (q : Request) (h_p : ok p) : sAskPoint.t [D.st (row p), D.int secret, D.st (row x), D.st (row q)] = some [D.st (row ((AskPoint p secret x q).1)), D.int ((AskPoint p secret x q).2)] := by
  obtain ⟨h1, h2, h3, h4⟩ := h_p
  have h5 : ok p.Epoch.Policy.Rules := h1.2
  have h6 : ok p.Epoch.Pairs := h1.1
  simp [sAskPoint.t, sAskPoint.b, AskPoint, h2, h3, h4, h5, h6, bne]
  cases IsRequest q
  · simp
  cases CheckCert secret x q.Now
  · simp
  cases x.Subject == q.Device
  · simp
  cases IsCurrent p q.Now
  · simp
  cases IsRevoked p.Revoked x.Serial q.Now
  · unfold FindSaved
    rcases idxOf_cases (savedFits q) p.Saved with ⟨_, e1, e2⟩ | ⟨i, y, _, e1, e2, _, e4⟩
    · rw [e1, e2]; simp [SaveDecision, leI, h4]
    · rw [e1, e4]; simp [lt_k (List.getElem?_eq_some_iff.1 e2).1, cell_map e2]
  · simp
@[simp] theorem sAskPoint_ok' (p_Id : Int) (p_EpochNumber : Int) (p_EpochAt : Int) (p_EpochPairs : List Includes) (p_EpochPolicyVersion : Int) (p_EpochPolicyRules : List Rule) (p_Store : List Fact) (p_Revoked : List Revoked) (p_SyncedAt : Int) (p_Saved : List Saved) (secret : Int) (x_Serial : Int) (x_Subject : Int) (x_Key : Int) (x_From : Int) (x_Until : Int) (x_Mark : Int) (q_Person : Int) (q_Device : Int) (q_Program : Int) (q_Action : Int) (q_Object : Int) (q_Now : Int) (h_p0 : ok p_EpochPairs) (h_p1 : ok p_EpochPolicyRules) (h_p2 : ok p_Store) (h_p3 : ok p_Revoked) (h_p4 : ok p_Saved) : sAskPoint.t [D.st [D.int p_Id, D.int p_EpochNumber, D.int p_EpochAt, D.rows (List.map row p_EpochPairs), D.int p_EpochPolicyVersion, D.rows (List.map row p_EpochPolicyRules), D.rows (List.map row p_Store), D.rows (List.map row p_Revoked), D.int p_SyncedAt, D.rows (List.map row p_Saved)], D.int secret, D.st [D.int x_Serial, D.int x_Subject, D.int x_Key, D.int x_From, D.int x_Until, D.int x_Mark], D.st [D.int q_Person, D.int q_Device, D.int q_Program, D.int q_Action, D.int q_Object, D.int q_Now]] = some [D.st (row ((AskPoint (⟨p_Id, ⟨p_EpochNumber, p_EpochAt, p_EpochPairs, ⟨p_EpochPolicyVersion, p_EpochPolicyRules⟩⟩, p_Store, p_Revoked, p_SyncedAt, p_Saved⟩ : Point) secret (⟨x_Serial, x_Subject, x_Key, x_From, x_Until, x_Mark⟩ : Cert) (⟨q_Person, q_Device, q_Program, q_Action, q_Object, q_Now⟩ : Request)).1)), D.int ((AskPoint (⟨p_Id, ⟨p_EpochNumber, p_EpochAt, p_EpochPairs, ⟨p_EpochPolicyVersion, p_EpochPolicyRules⟩⟩, p_Store, p_Revoked, p_SyncedAt, p_Saved⟩ : Point) secret (⟨x_Serial, x_Subject, x_Key, x_From, x_Until, x_Mark⟩ : Cert) (⟨q_Person, q_Device, q_Program, q_Action, q_Object, q_Now⟩ : Request)).2)] := sAskPoint_ok (⟨p_Id, ⟨p_EpochNumber, p_EpochAt, p_EpochPairs, ⟨p_EpochPolicyVersion, p_EpochPolicyRules⟩⟩, p_Store, p_Revoked, p_SyncedAt, p_Saved⟩ : Point) secret (⟨x_Serial, x_Subject, x_Key, x_From, x_Until, x_Mark⟩ : Cert) (⟨q_Person, q_Device, q_Program, q_Action, q_Object, q_Now⟩ : Request) ⟨⟨h_p0, h_p1⟩, h_p2, h_p3, h_p4⟩
def IsStillGood (s : Session) (p : Point) (secret : Int) (x : Cert) (now : Int) : Bool :=
  s.Open && (p.Id == s.Point && (x.Serial == s.Serial && (!ltI now s.Ask.Now && (AskPoint p secret x (AtTime s.Ask now)).2 == 1)))
theorem iIsStillGood_ok (s : Session) (p : Point) (secret : Int) (x : Cert) (now : Int) (h_p : ok p) : iIsStillGood.t [D.st (row s), D.st (row p), D.int secret, D.st (row x), D.int now] = some [D.bool (IsStillGood s p secret x now)] := by
  obtain ⟨h1, h2, h3, h4⟩ := h_p
  have h5 : ok p.Epoch.Policy.Rules := h1.2
  have h6 : ok p.Epoch.Pairs := h1.1
  simp [iIsStillGood.t, iIsStillGood.b, IsStillGood, h2, h3, h4, h5, h6, bne]
@[simp] theorem iIsStillGood_ok' (s_Id : Int) (s_Point : Int) (s_Serial : Int) (s_AskPerson : Int) (s_AskDevice : Int) (s_AskProgram : Int) (s_AskAction : Int) (s_AskObject : Int) (s_AskNow : Int) (s_Open : Bool) (p_Id : Int) (p_EpochNumber : Int) (p_EpochAt : Int) (p_EpochPairs : List Includes) (p_EpochPolicyVersion : Int) (p_EpochPolicyRules : List Rule) (p_Store : List Fact) (p_Revoked : List Revoked) (p_SyncedAt : Int) (p_Saved : List Saved) (secret : Int) (x_Serial : Int) (x_Subject : Int) (x_Key : Int) (x_From : Int) (x_Until : Int) (x_Mark : Int) (now : Int) (h_p0 : ok p_EpochPairs) (h_p1 : ok p_EpochPolicyRules) (h_p2 : ok p_Store) (h_p3 : ok p_Revoked) (h_p4 : ok p_Saved) : iIsStillGood.t [D.st [D.int s_Id, D.int s_Point, D.int s_Serial, D.int s_AskPerson, D.int s_AskDevice, D.int s_AskProgram, D.int s_AskAction, D.int s_AskObject, D.int s_AskNow, D.bool s_Open], D.st [D.int p_Id, D.int p_EpochNumber, D.int p_EpochAt, D.rows (List.map row p_EpochPairs), D.int p_EpochPolicyVersion, D.rows (List.map row p_EpochPolicyRules), D.rows (List.map row p_Store), D.rows (List.map row p_Revoked), D.int p_SyncedAt, D.rows (List.map row p_Saved)], D.int secret, D.st [D.int x_Serial, D.int x_Subject, D.int x_Key, D.int x_From, D.int x_Until, D.int x_Mark], D.int now] = some [D.bool (IsStillGood (⟨s_Id, s_Point, s_Serial, ⟨s_AskPerson, s_AskDevice, s_AskProgram, s_AskAction, s_AskObject, s_AskNow⟩, s_Open⟩ : Session) (⟨p_Id, ⟨p_EpochNumber, p_EpochAt, p_EpochPairs, ⟨p_EpochPolicyVersion, p_EpochPolicyRules⟩⟩, p_Store, p_Revoked, p_SyncedAt, p_Saved⟩ : Point) secret (⟨x_Serial, x_Subject, x_Key, x_From, x_Until, x_Mark⟩ : Cert) now)] := iIsStillGood_ok (⟨s_Id, s_Point, s_Serial, ⟨s_AskPerson, s_AskDevice, s_AskProgram, s_AskAction, s_AskObject, s_AskNow⟩, s_Open⟩ : Session) (⟨p_Id, ⟨p_EpochNumber, p_EpochAt, p_EpochPairs, ⟨p_EpochPolicyVersion, p_EpochPolicyRules⟩⟩, p_Store, p_Revoked, p_SyncedAt, p_Saved⟩ : Point) secret (⟨x_Serial, x_Subject, x_Key, x_From, x_Until, x_Mark⟩ : Cert) now ⟨⟨h_p0, h_p1⟩, h_p2, h_p3, h_p4⟩
theorem sIsStillGood_ok (s : Session) (p : Point) (secret : Int) (x : Cert) (now : Int) (h_p : ok p) : sIsStillGood.t [D.st (row s), D.st (row p), D.int secret, D.st (row x), D.int now] = some [D.bool (IsStillGood s p secret x now)] := by
  obtain ⟨h1, h2, h3, h4⟩ := h_p
  have h5 : ok p.Epoch.Policy.Rules := h1.2
  have h6 : ok p.Epoch.Pairs := h1.1
  simp [sIsStillGood.t, sIsStillGood.b, IsStillGood, h2, h3, h4, h5, h6, bne]
@[simp] theorem sIsStillGood_ok' (s_Id : Int) (s_Point : Int) (s_Serial : Int) (s_AskPerson : Int) (s_AskDevice : Int) (s_AskProgram : Int) (s_AskAction : Int) (s_AskObject : Int) (s_AskNow : Int) (s_Open : Bool) (p_Id : Int) (p_EpochNumber : Int) (p_EpochAt : Int) (p_EpochPairs : List Includes) (p_EpochPolicyVersion : Int) (p_EpochPolicyRules : List Rule) (p_Store : List Fact) (p_Revoked : List Revoked) (p_SyncedAt : Int) (p_Saved : List Saved) (secret : Int) (x_Serial : Int) (x_Subject : Int) (x_Key : Int) (x_From : Int) (x_Until : Int) (x_Mark : Int) (now : Int) (h_p0 : ok p_EpochPairs) (h_p1 : ok p_EpochPolicyRules) (h_p2 : ok p_Store) (h_p3 : ok p_Revoked) (h_p4 : ok p_Saved) : sIsStillGood.t [D.st [D.int s_Id, D.int s_Point, D.int s_Serial, D.int s_AskPerson, D.int s_AskDevice, D.int s_AskProgram, D.int s_AskAction, D.int s_AskObject, D.int s_AskNow, D.bool s_Open], D.st [D.int p_Id, D.int p_EpochNumber, D.int p_EpochAt, D.rows (List.map row p_EpochPairs), D.int p_EpochPolicyVersion, D.rows (List.map row p_EpochPolicyRules), D.rows (List.map row p_Store), D.rows (List.map row p_Revoked), D.int p_SyncedAt, D.rows (List.map row p_Saved)], D.int secret, D.st [D.int x_Serial, D.int x_Subject, D.int x_Key, D.int x_From, D.int x_Until, D.int x_Mark], D.int now] = some [D.bool (IsStillGood (⟨s_Id, s_Point, s_Serial, ⟨s_AskPerson, s_AskDevice, s_AskProgram, s_AskAction, s_AskObject, s_AskNow⟩, s_Open⟩ : Session) (⟨p_Id, ⟨p_EpochNumber, p_EpochAt, p_EpochPairs, ⟨p_EpochPolicyVersion, p_EpochPolicyRules⟩⟩, p_Store, p_Revoked, p_SyncedAt, p_Saved⟩ : Point) secret (⟨x_Serial, x_Subject, x_Key, x_From, x_Until, x_Mark⟩ : Cert) now)] := sIsStillGood_ok (⟨s_Id, s_Point, s_Serial, ⟨s_AskPerson, s_AskDevice, s_AskProgram, s_AskAction, s_AskObject, s_AskNow⟩, s_Open⟩ : Session) (⟨p_Id, ⟨p_EpochNumber, p_EpochAt, p_EpochPairs, ⟨p_EpochPolicyVersion, p_EpochPolicyRules⟩⟩, p_Store, p_Revoked, p_SyncedAt, p_Saved⟩ : Point) secret (⟨x_Serial, x_Subject, x_Key, x_From, x_Until, x_Mark⟩ : Cert) now ⟨⟨h_p0, h_p1⟩, h_p2, h_p3, h_p4⟩
def PointOf (l : List Point) (id : Int) : Int := idxOf (fun p => p.Id == id) l
theorem IndexFunc_Point_ok (G : GF) (f : D) (p : Point → Bool) (l : List Point) (hl : l.length ≤ 16777216) (hp : ∀ x ∈ l, G f.i ([D.st (row x)] ++ f.r.map D.st) = some [D.bool (p x)]) :
    IndexFunc_Point.t G [D.rows (List.map row l), f] = some [D.int (idxOf p l)] := by
  have key := iter_list (f := IndexFunc_Point.l1 G) l (fun k (_ : Unit) => [f, D.int (l.length : Int), D.int (k : Int), D.rows (List.map row l)]) (fun _ _ => True)
    (fun k x _ => bif p x then .inr (.inr [D.int (k : Int)]) else .inl ()) (fun _ => .inl [])
    (fun k x s hx _ => by
      have hk : k < l.length := (List.getElem?_eq_some_iff.1 hx).1
      have hpx := hp x (List.mem_of_getElem? hx)
      simp at hpx
      refine ⟨?_, fun _ _ => trivial⟩
      simp [IndexFunc_Point.l1, cell_map hx, lt_k hk, w64_k hk (by omega), hpx]
      cases p x <;> rfl)
    (fun s _ => by simp [IndexFunc_Point.l1]) () trivial
  simp only [IndexFunc_Point.t, IndexFunc_Point.b, res_zero, res_succ, r_rows, List.length_map]
  refine (loop_some key).trans ?_
  rw [idx_go]
  rcases idxOf_cases p l with ⟨h1, h2, _⟩ | ⟨i, x, h1, h2, _⟩
  · simp [h1, h2]
  · simp only [h1, cond_true, Sum.elim_inr]; rfl
@[simp] theorem ipointOf_ok (l : List Point) (id : Int) (h_l : ok l) : ipointOf.t [D.rows (List.map row l), D.int id] = some [D.int (PointOf l id)] := by
  have key := IndexFunc_Point_ok (gf [(ipointOf_c1.n, ipointOf_c1.t)]) (D.mk (ipointOf_c1.n : Int) false ⟨#[]⟩ [[D.int id]]) (fun p => p.Id == id) l h_l.1 (by
    intro x _
    show gf _ (ipointOf_c1.n : Int) _ = _
    rw [gf_one]; simp [ipointOf_c1.t, ipointOf_c1.b, D.r])
  simp [ipointOf.t, ipointOf.b, key, PointOf]
@[simp] theorem sl35Point_ok (l : List Point) (id : Int) (h_l : ok l) : sl35Point.t [D.rows (List.map row l), D.int id] = some [D.int (PointOf l id)] := by
  have key := iter_list (f := sl35Point.l1) l (fun k (_u : Unit) => [D.int id, D.int (k : Int), D.rows (List.map row l)]) (fun k (_u : Unit) => True) (fun k x (_u : Unit) => bif x.Id == id then .inr (.inr [D.int (k : Int)]) else .inl ()) (fun (_u : Unit) => .inl [])
    (fun k x _u hx hI => by
      have hk : k < l.length := (List.getElem?_eq_some_iff.1 hx).1
      have hxl := List.mem_of_getElem? hx
      refine ⟨?_, fun _ _ => trivial⟩
      simp [sl35Point.l1, cell_map hx, lt_k hk, w64_k hk (by have := h_l.1; omega)]
      cases x.Id == id <;> rfl)
    (fun _u hI => by simp [sl35Point.l1]) () trivial
  simp only [sl35Point.t, sl35Point.b, res_zero, res_succ, r_rows, i_int, b_bool, s_str, f_st, List.length_map]
  refine (loop_some key).trans ?_
  rw [idx_go]
  unfold PointOf
  rcases idxOf_cases (fun p : Point => p.Id == id) l with ⟨h1, h2, _⟩ | ⟨i, x, h1, h2, _⟩
  · simp [h1, h2]
  · simp only [h1, cond_true, Sum.elim_inr]; rfl
def CertOf (l : List Cert) (id : Int) : Int := idxOf (fun p => p.Serial == id) l
theorem IndexFunc_Cert_ok (G : GF) (f : D) (p : Cert → Bool) (l : List Cert) (hl : l.length ≤ 16777216) (hp : ∀ x ∈ l, G f.i ([D.st (row x)] ++ f.r.map D.st) = some [D.bool (p x)]) :
    IndexFunc_Cert.t G [D.rows (List.map row l), f] = some [D.int (idxOf p l)] := by
  have key := iter_list (f := IndexFunc_Cert.l1 G) l (fun k (_ : Unit) => [f, D.int (l.length : Int), D.int (k : Int), D.rows (List.map row l)]) (fun _ _ => True)
    (fun k x _ => bif p x then .inr (.inr [D.int (k : Int)]) else .inl ()) (fun _ => .inl [])
    (fun k x s hx _ => by
      have hk : k < l.length := (List.getElem?_eq_some_iff.1 hx).1
      have hpx := hp x (List.mem_of_getElem? hx)
      simp at hpx
      refine ⟨?_, fun _ _ => trivial⟩
      simp [IndexFunc_Cert.l1, cell_map hx, lt_k hk, w64_k hk (by omega), hpx]
      cases p x <;> rfl)
    (fun s _ => by simp [IndexFunc_Cert.l1]) () trivial
  simp only [IndexFunc_Cert.t, IndexFunc_Cert.b, res_zero, res_succ, r_rows, List.length_map]
  refine (loop_some key).trans ?_
  rw [idx_go]
  rcases idxOf_cases p l with ⟨h1, h2, _⟩ | ⟨i, x, h1, h2, _⟩
  · simp [h1, h2]
  · simp only [h1, cond_true, Sum.elim_inr]; rfl
@[simp] theorem icertOf_ok (l : List Cert) (id : Int) (h_l : ok l) : icertOf.t [D.rows (List.map row l), D.int id] = some [D.int (CertOf l id)] := by
  have key := IndexFunc_Cert_ok (gf [(icertOf_c1.n, icertOf_c1.t)]) (D.mk (icertOf_c1.n : Int) false ⟨#[]⟩ [[D.int id]]) (fun p => p.Serial == id) l h_l.1 (by
    intro x _
    show gf _ (icertOf_c1.n : Int) _ = _
    rw [gf_one]; simp [icertOf_c1.t, icertOf_c1.b, D.r])
  simp [icertOf.t, icertOf.b, key, CertOf]
@[simp] theorem sl35Cert_ok (l : List Cert) (id : Int) (h_l : ok l) : sl35Cert.t [D.rows (List.map row l), D.int id] = some [D.int (CertOf l id)] := by
  have key := iter_list (f := sl35Cert.l1) l (fun k (_u : Unit) => [D.int id, D.int (k : Int), D.rows (List.map row l)]) (fun k (_u : Unit) => True) (fun k x (_u : Unit) => bif x.Serial == id then .inr (.inr [D.int (k : Int)]) else .inl ()) (fun (_u : Unit) => .inl [])
    (fun k x _u hx hI => by
      have hk : k < l.length := (List.getElem?_eq_some_iff.1 hx).1
      have hxl := List.mem_of_getElem? hx
      refine ⟨?_, fun _ _ => trivial⟩
      simp [sl35Cert.l1, cell_map hx, lt_k hk, w64_k hk (by have := h_l.1; omega)]
      cases x.Serial == id <;> rfl)
    (fun _u hI => by simp [sl35Cert.l1]) () trivial
  simp only [sl35Cert.t, sl35Cert.b, res_zero, res_succ, r_rows, i_int, b_bool, s_str, f_st, List.length_map]
  refine (loop_some key).trans ?_
  rw [idx_go]
  unfold CertOf
  rcases idxOf_cases (fun p : Cert => p.Serial == id) l with ⟨h1, h2, _⟩ | ⟨i, x, h1, h2, _⟩
  · simp [h1, h2]
  · simp only [h1, cond_true, Sum.elim_inr]; rfl
theorem upd_set {α : Type} : ∀ (l : List α) (n : Nat) (v : α), upd l n v = l.set n v
  | [], _, _ => rfl
  | x :: l, 0, v => rfl
  | x :: l, n + 1, v => by simp only [upd, List.set_cons_succ, upd_set l n v]
theorem set_row {α : Type} [Rw α] {l : List α} {k c : Nat} {x x' : α} {ds : List D} (h : l[k]? = some x) (hx : splice (row x) c ds = row x') : setCells (List.map row l) k c ds = List.map row (l.set k x') := by
  unfold setCells
  rw [upd_set, nth_eq, List.getD_eq_getElem?_getD, List.getElem?_map, h]
  show List.set _ k (splice (row x) c ds) = _
  rw [hx, List.map_set]
/-- a list of which the first k elements were changed -/
def mid {α : Type} (f : α → α) (l : List α) (k : Nat) : List α := (l.take k).map f ++ l.drop k
theorem mid_len {α : Type} (f : α → α) (l : List α) (k : Nat) : (mid f l k).length = l.length := by simp [mid]; omega
theorem mid_get {α : Type} (f : α → α) {l : List α} {k : Nat} {x : α} (h : l[k]? = some x) : (mid f l k)[k]? = some x := by
  have hk := (List.getElem?_eq_some_iff.1 h).1
  unfold mid
  rw [List.getElem?_append_right (by simp; omega)]
  simp [Nat.min_eq_left (Nat.le_of_lt hk), h]
theorem mid_step {α : Type} (f : α → α) {l : List α} {k : Nat} {x : α} (h : l[k]? = some x) : (mid f l k).set k (f x) = mid f l (k + 1) := by
  have hk := (List.getElem?_eq_some_iff.1 h).1
  have e := (List.getElem?_eq_some_iff.1 h).2
  unfold mid
  rw [List.set_append_right _ _ (by simp; omega), List.take_add_one, h]
  simp [Nat.min_eq_left (Nat.le_of_lt hk)]
  rw [List.drop_eq_getElem_cons hk]; rfl
theorem mid_same {α : Type} (f : α → α) {l : List α} {k : Nat} {x : α} (h : l[k]? = some x) (hf : f x = x) : mid f l (k + 1) = mid f l k := by
  rw [← mid_step f h, hf]
  apply List.ext_getElem?
  intro i
  rw [List.getElem?_set]
  by_cases e : k = i
  · subst e; simp [mid_get f h]; exact (List.getElem?_eq_some_iff.1 (mid_get f h)).1
  · simp [e]
theorem mid_zero {α : Type} (f : α → α) (l : List α) : mid f l 0 = l := by simp [mid]
theorem mid_end {α : Type} (f : α → α) (l : List α) : mid f l l.length = l.map f := by simp [mid]
def isGood (points : List Point) (secret : Int) (certs : List Cert) (now : Int) (s : Session) : Bool :=
  match points.find? (fun p => p.Id == s.Point), certs.find? (fun x => x.Serial == s.Serial) with
  | some p, some x => IsStillGood s p secret x now
  | _, _ => false
def review (points : List Point) (secret : Int) (certs : List Cert) (now : Int) (s : Session) : Session := { s with Open := s.Open && isGood points secret certs now s }
def reviewNum (points : List Point) (secret : Int) (certs : List Cert) (now : Int) (n : Int) (s : Session) : Int := bif s.Open && !isGood points secret certs now s then n + 1 else n
def ReviewSessions (l : List Session) (points : List Point) (secret : Int) (certs : List Cert) (now : Int) : List Session × Int := (l.map (review points secret certs now), l.foldl (reviewNum points secret certs now) 0)
theorem set_mid {points : List Point} {secret : Int} {certs : List Cert} {now : Int} {l : List Session} {k : Nat} {x : Session} (h : l[k]? = some x) (hg : isGood points secret certs now x = false) :
    setCells (List.map row (mid (review points secret certs now) l k)) k 9 [D.bool false] = List.map row (mid (review points secret certs now) l (k + 1)) := by
  rw [set_row (x' := review points secret certs now x) (mid_get _ h) (by simp [review, hg]; rfl), mid_step _ h]
theorem same_mid {points : List Point} {secret : Int} {certs : List Cert} {now : Int} {l : List Session} {k : Nat} {x : Session} (h : l[k]? = some x) (hg : x.Open = false ∨ isGood points secret certs now x = true) :
    mid (review points secret certs now) l (k + 1) = mid (review points secret certs now) l k := by
  refine mid_same _ h ?_
  rcases x with ⟨a, b, c, d, e⟩
  rcases hg with hg | hg
  · simp only at hg; subst hg; simp [review]
  · simp [review, hg]
@[simp] theorem iReviewSessions_ok (l : List Session) (points : List Point) (secret : Int) (certs : List Cert) (now : Int) (h_l : ok l) (h_points : ok points) (h_certs : ok certs) : iReviewSessions.t [D.rows (List.map row l), D.rows (List.map row points), D.int secret, D.rows (List.map row certs), D.int now] = some [D.rows (List.map row ((ReviewSessions l points secret certs now).1)), D.int ((ReviewSessions l points secret certs now).2)] := by
  have key := iter_list (f := iReviewSessions.l1) l (fun k (n : Int) => [D.int secret, D.int now, D.int n, D.int (l.length : Int), D.int (k : Int), D.rows (List.map row points), D.rows (List.map row certs), D.rows (List.map row (mid (review points secret certs now) l k)), D.rows (List.map row l)]) (fun k n => 0 ≤ n ∧ n ≤ (k : Int))
    (fun _ x n => .inl (reviewNum points secret certs now n x)) (fun n => .inl [D.int n, D.rows (List.map row (mid (review points secret certs now) l l.length))])
    (fun k x n hx hI => by
      have hk : k < l.length := (List.getElem?_eq_some_iff.1 hx).1
      have hw := w64_k hk (by have := h_l.1; omega)
      have hn : w64 (n + 1) = n + 1 := w64_in (by have := h_l.1; omega)
      refine ⟨?_, ?_⟩
      · simp [iReviewSessions.l1, cell_map hx, lt_k hk, hw, hn, h_points, h_certs, mid_len]
        cases ho : x.Open
        · simp [reviewNum, ho, same_mid hx (.inl ho)]
        unfold PointOf CertOf
        rcases idxOf_cases (fun p : Point => p.Id == x.Point) points with ⟨_, e1, e2⟩ | ⟨i, p, _, e1, e2, _, e4⟩
        · have hg : isGood points secret certs now x = false := by simp [isGood, e2]
          simp [e1, ltI, reviewNum, ho, hg, set_mid hx hg]
        rcases idxOf_cases (fun p : Cert => p.Serial == x.Serial) certs with ⟨_, f1, f2⟩ | ⟨j, y, _, f1, f2, _, f4⟩
        · have hg : isGood points secret certs now x = false := by simp [isGood, f2]
          simp [f1, e1, ltI, reviewNum, ho, hg, set_mid hx hg]
        have hp := h_points.2 p (List.mem_of_getElem? e2)
        have hg : isGood points secret certs now x = IsStillGood x p secret y now := by simp [isGood, e4, f4]
        have h0 : ∀ i : Nat, ltI (i : Int) 0 = false := fun i => by simp [ltI]
        rw [e1, f1]
        obtain ⟨h1, h2, h3, h4⟩ := hp
        have h5 : ok p.Epoch.Policy.Rules := h1.2
        have h6 : ok p.Epoch.Pairs := h1.1
        simp [h0, lt_k (List.getElem?_eq_some_iff.1 e2).1, lt_k (List.getElem?_eq_some_iff.1 f2).1, cell_map e2, cell_map f2, h2, h3, h4, h5, h6]
        have ex : ({ Id := x.Id, Point := x.Point, Serial := x.Serial, Ask := x.Ask, Open := true } : Session) = x := by rw [← ho]
        try rw [ex]
        cases hs : IsStillGood x p secret y now
        · rw [hs] at hg; simp [reviewNum, ho, hg, set_mid hx hg]
        · rw [hs] at hg; simp [reviewNum, ho, hg, same_mid hx (.inr hg)]
      · simp only [Sum.inl.injEq]; rintro s' rfl; unfold reviewNum; cases x.Open && !isGood points secret certs now x <;> simp <;> omega)
    (fun n _ => by simp [iReviewSessions.l1]) 0 (by simp)
  rw [goList_fold, mid_zero] at key
  simp only [iReviewSessions.t, iReviewSessions.b, res_zero, res_succ, r_rows, i_int, N0_nil, List.length_nil, List.length_map, Nat.zero_add, ok_len h_l, cond_true, List.nil_append]
  refine (loop_some key).trans ?_
  simp [ReviewSessions, mid_end]
@[simp] theorem sReviewSessions_ok (l : List Session) (points : List Point) (secret : Int) (certs : List Cert) (now : Int) (h_l : ok l) (h_points : ok points) (h_certs : ok certs) : sReviewSessions.t [D.rows (List.map row l), D.rows (List.map row points), D.int secret, D.rows (List.map row certs), D.int now] = some [D.rows (List.map row ((ReviewSessions l points secret certs now).1)), D.int ((ReviewSessions l points secret certs now).2)] := by
  have key := iter_list (f := sReviewSessions.l1) l (fun k (n : Int) => [D.int secret, D.int now, D.int n, D.int (k : Int), D.rows (List.map row l), D.rows (List.map row points), D.rows (List.map row certs), D.rows (List.map row (mid (review points secret certs now) l k))]) (fun k n => 0 ≤ n ∧ n ≤ (k : Int))
    (fun _ x n => .inl (reviewNum points secret certs now n x)) (fun n => .inl [D.int n, D.rows (List.map row (mid (review points secret certs now) l l.length))])
    (fun k x n hx hI => by
      have hk : k < l.length := (List.getElem?_eq_some_iff.1 hx).1
      have hw := w64_k hk (by have := h_l.1; omega)
      have hn : w64 (n + 1) = n + 1 := w64_in (by have := h_l.1; omega)
      refine ⟨?_, ?_⟩
      · simp [sReviewSessions.l1, cell_map hx, lt_k hk, hw, hn, h_points, h_certs, mid_len]
        cases ho : x.Open
        · simp [reviewNum, ho, same_mid hx (.inl ho)]
        unfold PointOf CertOf
        rcases idxOf_cases (fun p : Point => p.Id == x.Point) points with ⟨_, e1, e2⟩ | ⟨i, p, _, e1, e2, _, e4⟩
        · have hg : isGood points secret certs now x = false := by simp [isGood, e2]
          simp [e1, ltI, reviewNum, ho, hg, set_mid hx hg]
        rcases idxOf_cases (fun p : Cert => p.Serial == x.Serial) certs with ⟨_, f1, f2⟩ | ⟨j, y, _, f1, f2, _, f4⟩
        · have hg : isGood points secret certs now x = false := by simp [isGood, f2]
          simp [f1, e1, ltI, reviewNum, ho, hg, set_mid hx hg]
        have hp := h_points.2 p (List.mem_of_getElem? e2)
        have hg : isGood points secret certs now x = IsStillGood x p secret y now := by simp [isGood, e4, f4]
        have h0 : ∀ i : Nat, ltI (i : Int) 0 = false := fun i => by simp [ltI]
        rw [e1, f1]
        obtain ⟨h1, h2, h3, h4⟩ := hp
        have h5 : ok p.Epoch.Policy.Rules := h1.2
        have h6 : ok p.Epoch.Pairs := h1.1
        simp [h0, lt_k (List.getElem?_eq_some_iff.1 e2).1, lt_k (List.getElem?_eq_some_iff.1 f2).1, cell_map e2, cell_map f2, h2, h3, h4, h5, h6]
        have ex : ({ Id := x.Id, Point := x.Point, Serial := x.Serial, Ask := x.Ask, Open := true } : Session) = x := by rw [← ho]
        try rw [ex]
        cases hs : IsStillGood x p secret y now
        · rw [hs] at hg; simp [reviewNum, ho, hg, set_mid hx hg]
        · rw [hs] at hg; simp [reviewNum, ho, hg, same_mid hx (.inr hg)]
      · simp only [Sum.inl.injEq]; rintro s' rfl; unfold reviewNum; cases x.Open && !isGood points secret certs now x <;> simp <;> omega)
    (fun n _ => by simp [sReviewSessions.l1]) 0 (by simp)
  rw [goList_fold, mid_zero] at key
  simp only [sReviewSessions.t, sReviewSessions.b, res_zero, res_succ, r_rows, i_int, N0_nil, List.length_nil, List.length_map, Nat.zero_add, ok_len h_l, cond_true, List.nil_append]
  refine (loop_some key).trans ?_
  simp [ReviewSessions, mid_end]
end Acc
end
section
/- Sessions are started. -/
namespace Acc
open Go Go.Ev
def allFrom {α : Type} (p : Nat → α → Bool) : List α → Nat → Bool
  | [], _ => true
  | x :: l, k => p k x && allFrom p l (k + 1)
theorem allFrom_go {α B : Type} {p : Nat → α → Bool} {b : B} {e : Unit → B} : ∀ (l : List α) (k : Nat), goList (fun k x (_ : Unit) => bif p k x then .inl () else .inr b) e l k () = bif allFrom p l k then e () else b
  | [], _ => rfl
  | x :: l, k => by
    cases hx : p k x with
    | false => simp [goList, allFrom, hx]
    | true => simp [goList, allFrom, hx, allFrom_go l (k + 1)]
def isSess (k : Nat) (s : Session) : Bool := s.Id == (k : Int) + 1 && (!ltI s.Point 1 && (!ltI s.Serial 1 && IsRequest s.Ask))
def AreSessions (l : List Session) : Bool := allFrom isSess l 0 && leI (l.length : Int) 10
@[simp] theorem iAreSessions_ok (l : List Session) (h_l : ok l) : iAreSessions.t [D.rows (List.map row l)] = some [D.bool (AreSessions l)] := by
  have key := iter_list (f := iAreSessions.l1) l (fun k (_u : Unit) => [D.int (l.length : Int), D.int (k : Int), D.rows (List.map row l)]) (fun k (_u : Unit) => True) (fun k x (_u : Unit) => bif isSess k x then .inl () else .inr (.inr [D.bool false])) (fun (_u : Unit) => .inl [D.rows (List.map row l)])
    (fun k x _u hx hI => by
      have hk : k < l.length := (List.getElem?_eq_some_iff.1 hx).1
      have hxl := List.mem_of_getElem? hx
      refine ⟨?_, fun _ _ => trivial⟩
      simp [iAreSessions.l1, cell_map hx, lt_k hk, w64_k hk (by have := h_l.1; omega), bne, isSess]
      cases x.Id == (k : Int) + 1 <;> cases ltI x.Point 1 <;> cases ltI x.Serial 1 <;> cases IsRequest x.Ask <;> rfl)
    (fun _u hI => by simp [iAreSessions.l1]) () trivial
  simp only [iAreSessions.t, iAreSessions.b, res_zero, res_succ, r_rows, i_int, b_bool, s_str, f_st, List.length_map]
  refine (loop_some key).trans ?_
  rw [allFrom_go]
  unfold AreSessions
  cases allFrom isSess l 0
  · rfl
  · simp
@[simp] theorem sAreSessions_ok (l : List Session) (h_l : ok l) : sAreSessions.t [D.rows (List.map row l)] = some [D.bool (AreSessions l)] := by
  have key := iter_list (f := sAreSessions.l1) l (fun k (_u : Unit) => [D.int (k : Int), D.rows (List.map row l)]) (fun k (_u : Unit) => True) (fun k x (_u : Unit) => bif isSess k x then .inl () else .inr (.inr [D.bool false])) (fun (_u : Unit) => .inl [D.rows (List.map row l)])
    (fun k x _u hx hI => by
      have hk : k < l.length := (List.getElem?_eq_some_iff.1 hx).1
      have hxl := List.mem_of_getElem? hx
      refine ⟨?_, fun _ _ => trivial⟩
      simp [sAreSessions.l1, cell_map hx, lt_k hk, w64_k hk (by have := h_l.1; omega), bne, isSess]
      cases x.Id == (k : Int) + 1 <;> cases ltI x.Point 1 <;> cases ltI x.Serial 1 <;> cases IsRequest x.Ask <;> rfl)
    (fun _u hI => by simp [sAreSessions.l1]) () trivial
  simp only [sAreSessions.t, sAreSessions.b, res_zero, res_succ, r_rows, i_int, b_bool, s_str, f_st, List.length_map]
  refine (loop_some key).trans ?_
  rw [allFrom_go]
  unfold AreSessions
  cases allFrom isSess l 0
  · rfl
  · simp
def StartSession (l : List Session) (p : Point) (secret : Int) (x : Cert) (q : Request) : List Session × Point × Int :=
  bif AreSessions l && (!leI 10 (l.length : Int) && !ltI p.Id 1) then
    (bif (AskPoint p secret x q).2 == 1 then l ++ [⟨(l.length : Int) + 1, p.Id, x.Serial, q, true⟩] else l, (AskPoint p secret x q).1, (AskPoint p secret x q).2)
  else (l, p, 4)
theorem iStartSession_ok (l : List Session) (p : Point) (secret : Int) (x : Cert) (q : Request) (h_l : ok l) (h_p : ok p) : iStartSession.t [D.rows (List.map row l), D.st (row p), D.int secret, D.st (row x), D.st (row q)] = some [D.rows (List.map row ((StartSession l p secret x q).1)), D.st (row ((StartSession l p secret x q).2.1)), D.int ((StartSession l p secret x q).2.2)] := by
  obtain ⟨h1, h2, h3, h4⟩ := h_p
  have h5 : ok p.Epoch.Policy.Rules := h1.2
  have h6 : ok p.Epoch.Pairs := h1.1
  have hl := h_l.1
  simp [iStartSession.t, iStartSession.b, StartSession, h_l, ok_len h_l, h2, h3, h4, h5, h6]
  cases AreSessions l
  · simp
  cases leI 10 (l.length : Int)
  · cases ltI p.Id 1
    · have e1 : leN (l.length + 1) 4294967296 = true := leN_of (by omega)
      cases he : (AskPoint p secret x q).2 == 1
      · simp [he]
      · simp [he, e1, w64_in (x := (l.length : Int) + 1) (by omega)]
    · simp
  · simp
@[simp] theorem iStartSession_ok' (l : List Session) (p_Id : Int) (p_EpochNumber : Int) (p_EpochAt : Int) (p_EpochPairs : List Includes) (p_EpochPolicyVersion : Int) (p_EpochPolicyRules : List Rule) (p_Store : List Fact) (p_Revoked : List Revoked) (p_SyncedAt : Int) (p_Saved : List Saved) (secret : Int) (x_Serial : Int) (x_Subject : Int) (x_Key : Int) (x_From : Int) (x_Until : Int) (x_Mark : Int) (q_Person : Int) (q_Device : Int) (q_Program : Int) (q_Action : Int) (q_Object : Int) (q_Now : Int) (h_l : ok l) (h_p0 : ok p_EpochPairs) (h_p1 : ok p_EpochPolicyRules) (h_p2 : ok p_Store) (h_p3 : ok p_Revoked) (h_p4 : ok p_Saved) : iStartSession.t [D.rows (List.map row l), D.st [D.int p_Id, D.int p_EpochNumber, D.int p_EpochAt, D.rows (List.map row p_EpochPairs), D.int p_EpochPolicyVersion, D.rows (List.map row p_EpochPolicyRules), D.rows (List.map row p_Store), D.rows (List.map row p_Revoked), D.int p_SyncedAt, D.rows (List.map row p_Saved)], D.int secret, D.st [D.int x_Serial, D.int x_Subject, D.int x_Key, D.int x_From, D.int x_Until, D.int x_Mark], D.st [D.int q_Person, D.int q_Device, D.int q_Program, D.int q_Action, D.int q_Object, D.int q_Now]] = some [D.rows (List.map row ((StartSession l (⟨p_Id, ⟨p_EpochNumber, p_EpochAt, p_EpochPairs, ⟨p_EpochPolicyVersion, p_EpochPolicyRules⟩⟩, p_Store, p_Revoked, p_SyncedAt, p_Saved⟩ : Point) secret (⟨x_Serial, x_Subject, x_Key, x_From, x_Until, x_Mark⟩ : Cert) (⟨q_Person, q_Device, q_Program, q_Action, q_Object, q_Now⟩ : Request)).1)), D.st (row ((StartSession l (⟨p_Id, ⟨p_EpochNumber, p_EpochAt, p_EpochPairs, ⟨p_EpochPolicyVersion, p_EpochPolicyRules⟩⟩, p_Store, p_Revoked, p_SyncedAt, p_Saved⟩ : Point) secret (⟨x_Serial, x_Subject, x_Key, x_From, x_Until, x_Mark⟩ : Cert) (⟨q_Person, q_Device, q_Program, q_Action, q_Object, q_Now⟩ : Request)).2.1)), D.int ((StartSession l (⟨p_Id, ⟨p_EpochNumber, p_EpochAt, p_EpochPairs, ⟨p_EpochPolicyVersion, p_EpochPolicyRules⟩⟩, p_Store, p_Revoked, p_SyncedAt, p_Saved⟩ : Point) secret (⟨x_Serial, x_Subject, x_Key, x_From, x_Until, x_Mark⟩ : Cert) (⟨q_Person, q_Device, q_Program, q_Action, q_Object, q_Now⟩ : Request)).2.2)] := iStartSession_ok l (⟨p_Id, ⟨p_EpochNumber, p_EpochAt, p_EpochPairs, ⟨p_EpochPolicyVersion, p_EpochPolicyRules⟩⟩, p_Store, p_Revoked, p_SyncedAt, p_Saved⟩ : Point) secret (⟨x_Serial, x_Subject, x_Key, x_From, x_Until, x_Mark⟩ : Cert) (⟨q_Person, q_Device, q_Program, q_Action, q_Object, q_Now⟩ : Request) h_l ⟨⟨h_p0, h_p1⟩, h_p2, h_p3, h_p4⟩
theorem sStartSession_ok (l : List Session) (p : Point) (secret : Int) (x : Cert) (q : Request) (h_l : ok l) (h_p : ok p) : sStartSession.t [D.rows (List.map row l), D.st (row p), D.int secret, D.st (row x), D.st (row q)] = some [D.rows (List.map row ((StartSession l p secret x q).1)), D.st (row ((StartSession l p secret x q).2.1)), D.int ((StartSession l p secret x q).2.2)] := by
  obtain ⟨h1, h2, h3, h4⟩ := h_p
  have h5 : ok p.Epoch.Policy.Rules := h1.2
  have h6 : ok p.Epoch.Pairs := h1.1
  have hl := h_l.1
  simp [sStartSession.t, sStartSession.b, StartSession, h_l, ok_len h_l, h2, h3, h4, h5, h6]
  cases AreSessions l
  · simp
  cases leI 10 (l.length : Int)
  · cases ltI p.Id 1
    · have e1 : leN (l.length + 1) 4294967296 = true := leN_of (by omega)
      cases he : (AskPoint p secret x q).2 == 1
      · simp [he]
      · simp [he, e1, w64_in (x := (l.length : Int) + 1) (by omega)]
    · simp
  · simp
@[simp] theorem sStartSession_ok' (l : List Session) (p_Id : Int) (p_EpochNumber : Int) (p_EpochAt : Int) (p_EpochPairs : List Includes) (p_EpochPolicyVersion : Int) (p_EpochPolicyRules : List Rule) (p_Store : List Fact) (p_Revoked : List Revoked) (p_SyncedAt : Int) (p_Saved : List Saved) (secret : Int) (x_Serial : Int) (x_Subject : Int) (x_Key : Int) (x_From : Int) (x_Until : Int) (x_Mark : Int) (q_Person : Int) (q_Device : Int) (q_Program : Int) (q_Action : Int) (q_Object : Int) (q_Now : Int) (h_l : ok l) (h_p0 : ok p_EpochPairs) (h_p1 : ok p_EpochPolicyRules) (h_p2 : ok p_Store) (h_p3 : ok p_Revoked) (h_p4 : ok p_Saved) : sStartSession.t [D.rows (List.map row l), D.st [D.int p_Id, D.int p_EpochNumber, D.int p_EpochAt, D.rows (List.map row p_EpochPairs), D.int p_EpochPolicyVersion, D.rows (List.map row p_EpochPolicyRules), D.rows (List.map row p_Store), D.rows (List.map row p_Revoked), D.int p_SyncedAt, D.rows (List.map row p_Saved)], D.int secret, D.st [D.int x_Serial, D.int x_Subject, D.int x_Key, D.int x_From, D.int x_Until, D.int x_Mark], D.st [D.int q_Person, D.int q_Device, D.int q_Program, D.int q_Action, D.int q_Object, D.int q_Now]] = some [D.rows (List.map row ((StartSession l (⟨p_Id, ⟨p_EpochNumber, p_EpochAt, p_EpochPairs, ⟨p_EpochPolicyVersion, p_EpochPolicyRules⟩⟩, p_Store, p_Revoked, p_SyncedAt, p_Saved⟩ : Point) secret (⟨x_Serial, x_Subject, x_Key, x_From, x_Until, x_Mark⟩ : Cert) (⟨q_Person, q_Device, q_Program, q_Action, q_Object, q_Now⟩ : Request)).1)), D.st (row ((StartSession l (⟨p_Id, ⟨p_EpochNumber, p_EpochAt, p_EpochPairs, ⟨p_EpochPolicyVersion, p_EpochPolicyRules⟩⟩, p_Store, p_Revoked, p_SyncedAt, p_Saved⟩ : Point) secret (⟨x_Serial, x_Subject, x_Key, x_From, x_Until, x_Mark⟩ : Cert) (⟨q_Person, q_Device, q_Program, q_Action, q_Object, q_Now⟩ : Request)).2.1)), D.int ((StartSession l (⟨p_Id, ⟨p_EpochNumber, p_EpochAt, p_EpochPairs, ⟨p_EpochPolicyVersion, p_EpochPolicyRules⟩⟩, p_Store, p_Revoked, p_SyncedAt, p_Saved⟩ : Point) secret (⟨x_Serial, x_Subject, x_Key, x_From, x_Until, x_Mark⟩ : Cert) (⟨q_Person, q_Device, q_Program, q_Action, q_Object, q_Now⟩ : Request)).2.2)] := sStartSession_ok l (⟨p_Id, ⟨p_EpochNumber, p_EpochAt, p_EpochPairs, ⟨p_EpochPolicyVersion, p_EpochPolicyRules⟩⟩, p_Store, p_Revoked, p_SyncedAt, p_Saved⟩ : Point) secret (⟨x_Serial, x_Subject, x_Key, x_From, x_Until, x_Mark⟩ : Cert) (⟨q_Person, q_Device, q_Program, q_Action, q_Object, q_Now⟩ : Request) h_l ⟨⟨h_p0, h_p1⟩, h_p2, h_p3, h_p4⟩
end Acc
end
