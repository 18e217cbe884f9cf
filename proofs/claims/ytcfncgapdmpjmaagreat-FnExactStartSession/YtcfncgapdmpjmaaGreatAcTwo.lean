/- Weights of the data: how many elements it has. The laws' helpers. FnExactStartSession. Well-typed data are rows of plain values. -/
import Derived.Test.YtcfncgapdmpjmaaGreatAcOne
import Derived.Test.YtcfncgapdmpjmaaGreatK
import Derived.Test.YtcfncgapdmpjmaaGreatEvThree
set_option linter.unusedVariables false
set_option linter.unusedSimpArgs false
section
/- Weights of the data: how many elements it has. -/
namespace Acc
open Go Go.Ev
class Wg (α : Type) where
  of : α → Nat
abbrev wg {α : Type} [Wg α] (x : α) : Nat := Wg.of x
instance : Wg Int := ⟨fun _ => 0⟩
instance : Wg Bool := ⟨fun _ => 0⟩
instance : Wg ByteArray := ⟨fun s => s.size⟩
def wgs {α : Type} [Wg α] : List α → Nat
  | [] => 0
  | x :: l => 1 + wg x + wgs l
instance {α : Type} [Wg α] : Wg (List α) := ⟨wgs⟩
@[simp] theorem wg_int (x : Int) : wg x = 0 := rfl
@[simp] theorem wg_bool (x : Bool) : wg x = 0 := rfl
@[simp] theorem wg_nil {α : Type} [Wg α] : wg ([] : List α) = 0 := rfl
@[simp] theorem wg_cons {α : Type} [Wg α] (x : α) (l : List α) : wg (x :: l) = 1 + wg x + wg l := rfl
theorem wg_len {α : Type} [Wg α] : ∀ l : List α, l.length ≤ wg l
  | [] => by simp
  | x :: l => by have := wg_len l; simp; omega
theorem wg_mem {α : Type} [Wg α] : ∀ {l : List α} {x : α}, x ∈ l → 1 + wg x ≤ wg l
  | y :: l, x, h => by
    rcases List.mem_cons.1 h with rfl | h
    · simp
    · have := wg_mem h; simp; omega
theorem wg_flat {α : Type} [Wg α] (h : ∀ x : α, wg x = 0) : ∀ l : List α, wg l = l.length
  | [] => rfl
  | x :: l => by rw [wg_cons, wg_flat h l, h x, List.length_cons]; omega
theorem ok_list {α : Type} [Wg α] [Bd α] {l : List α} (h : ∀ x : α, wg x ≤ 1048576 → ok x) (hl : wg l ≤ 1048576) : ok l :=
  ⟨by have := wg_len l; omega, fun x hx => h x (by have := wg_mem hx; omega)⟩
/-- every list in it is as short as a list can be -/
class Lb (α : Type) where
  of : α → Prop
abbrev lb {α : Type} [Lb α] (x : α) : Prop := Lb.of x
instance : Lb Int := ⟨fun x => -9223372036854775808 ≤ x ∧ x ≤ 9223372036854775807⟩
instance : Lb Bool := ⟨fun _ => True⟩
instance : Lb ByteArray := ⟨fun s => s.size ≤ 9223372036854775807⟩
instance {α : Type} [Lb α] : Lb (List α) := ⟨fun l => l.length ≤ 9223372036854775807 ∧ ∀ x ∈ l, lb x⟩
inductive CondLb : Cond → Prop where
  | mk {o a b : Int} {l : List Cond} : l.length ≤ 9223372036854775807 → (∀ x ∈ l, CondLb x) → CondLb (.mk o a b l)
instance : Lb Cond := ⟨CondLb⟩
theorem lb_args {x : Cond} (h : lb x) : lb x.Args := by
  have h : CondLb x := h
  cases h with | mk h1 h2 => exact ⟨h1, h2⟩
instance : Wg Cond := ⟨fun x => Cond.csizes x.Args⟩
theorem csizes_wg : ∀ l : List Cond, Cond.csizes l = wg l
  | [] => rfl
  | x :: l => by
    have h : wg x = Cond.csizes x.Args := rfl
    rw [wg_cons, h, Cond.csizes, x.csize_eq, csizes_wg l]
theorem wg_Cond (x : Cond) : wg x = wg x.Args := csizes_wg x.Args
theorem ok_Cond (x : Cond) (h : wg x ≤ 1048576) : ok x := by
  have h : Cond.csizes x.Args ≤ 1048576 := h
  show x.csize ≤ 16777216
  rw [x.csize_eq]; omega
theorem ok_int (x : Int) (_ : wg x ≤ 1048576) : ok x := trivial
theorem ok_bool (x : Bool) (_ : wg x ≤ 1048576) : ok x := trivial
theorem ok_str (x : ByteArray) (h : wg x ≤ 1048576) : ok x := by
  have h : x.size ≤ 1048576 := h
  show x.size ≤ 16777216
  omega

instance : Wg Apart := ⟨fun x => 0⟩
@[simp] theorem wg_Apart (x : Apart) : wg x = 0 := rfl
instance : Lb Apart := ⟨fun x => True⟩
theorem ok_Apart (x : Apart) (_ : wg x ≤ 1048576) : ok x := trivial
instance : Wg Issuer := ⟨fun x => wg x.Kinds⟩
theorem wg_Issuer (x : Issuer) : wg x = wg x.Kinds := rfl
instance : Lb Issuer := ⟨fun x => lb x.Kinds⟩
theorem ok_Issuer (x : Issuer) (h : wg x ≤ 1048576) : ok x := ok_list ok_int (by rw [wg_Issuer] at h; omega)
instance : Wg Includes := ⟨fun x => 0⟩
@[simp] theorem wg_Includes (x : Includes) : wg x = 0 := rfl
instance : Lb Includes := ⟨fun x => True⟩
theorem ok_Includes (x : Includes) (_ : wg x ≤ 1048576) : ok x := trivial
instance : Wg Rule := ⟨fun x => wg x.Cond⟩
theorem wg_Rule (x : Rule) : wg x = wg x.Cond := rfl
instance : Lb Rule := ⟨fun x => lb x.Cond⟩
theorem ok_Rule (x : Rule) (h : wg x ≤ 1048576) : ok x := ok_Cond _ (by rw [wg_Rule] at h; omega)
instance : Wg Policy := ⟨fun x => wg x.Rules⟩
theorem wg_Policy (x : Policy) : wg x = wg x.Rules := rfl
instance : Lb Policy := ⟨fun x => lb x.Rules⟩
theorem ok_Policy (x : Policy) (h : wg x ≤ 1048576) : ok x := ok_list ok_Rule (by rw [wg_Policy] at h; omega)
instance : Wg Epoch := ⟨fun x => wg x.Pairs + wg x.Policy⟩
theorem wg_Epoch (x : Epoch) : wg x = wg x.Pairs + wg x.Policy := rfl
instance : Lb Epoch := ⟨fun x => lb x.Pairs ∧ lb x.Policy⟩
theorem ok_Epoch (x : Epoch) (h : wg x ≤ 1048576) : ok x := ⟨ok_list ok_Includes (by rw [wg_Epoch] at h; omega), ok_Policy _ (by rw [wg_Epoch] at h; omega)⟩
instance : Wg Fact := ⟨fun x => 0⟩
@[simp] theorem wg_Fact (x : Fact) : wg x = 0 := rfl
instance : Lb Fact := ⟨fun x => True⟩
theorem ok_Fact (x : Fact) (_ : wg x ≤ 1048576) : ok x := trivial
instance : Wg Revoked := ⟨fun x => 0⟩
@[simp] theorem wg_Revoked (x : Revoked) : wg x = 0 := rfl
instance : Lb Revoked := ⟨fun x => True⟩
theorem ok_Revoked (x : Revoked) (_ : wg x ≤ 1048576) : ok x := trivial
instance : Wg Cert := ⟨fun x => 0⟩
@[simp] theorem wg_Cert (x : Cert) : wg x = 0 := rfl
instance : Lb Cert := ⟨fun x => True⟩
theorem ok_Cert (x : Cert) (_ : wg x ≤ 1048576) : ok x := trivial
instance : Wg Center := ⟨fun x => wg x.Issuers + wg x.Epochs + wg x.Store + wg x.Revoked + wg x.Certs⟩
theorem wg_Center (x : Center) : wg x = wg x.Issuers + wg x.Epochs + wg x.Store + wg x.Revoked + wg x.Certs := rfl
instance : Lb Center := ⟨fun x => lb x.Issuers ∧ lb x.Epochs ∧ lb x.Store ∧ lb x.Revoked ∧ lb x.Certs⟩
theorem ok_Center (x : Center) (h : wg x ≤ 1048576) : ok x := ⟨ok_list ok_Issuer (by rw [wg_Center] at h; omega), ok_list ok_Epoch (by rw [wg_Center] at h; omega), ok_list ok_Fact (by rw [wg_Center] at h; omega), ok_list ok_Revoked (by rw [wg_Center] at h; omega), ok_list ok_Cert (by rw [wg_Center] at h; omega)⟩
instance : Wg Emergency := ⟨fun x => wg x.Used⟩
theorem wg_Emergency (x : Emergency) : wg x = wg x.Used := rfl
instance : Lb Emergency := ⟨fun x => lb x.Used⟩
theorem ok_Emergency (x : Emergency) (h : wg x ≤ 1048576) : ok x := ok_list ok_int (by rw [wg_Emergency] at h; omega)
instance : Wg Entry := ⟨fun x => 0⟩
@[simp] theorem wg_Entry (x : Entry) : wg x = 0 := rfl
instance : Lb Entry := ⟨fun x => True⟩
theorem ok_Entry (x : Entry) (_ : wg x ≤ 1048576) : ok x := trivial
instance : Wg Request := ⟨fun x => 0⟩
@[simp] theorem wg_Request (x : Request) : wg x = 0 := rfl
instance : Lb Request := ⟨fun x => True⟩
theorem ok_Request (x : Request) (_ : wg x ≤ 1048576) : ok x := trivial
instance : Wg Event := ⟨fun x => wg x.Rules + wg x.Actions⟩
theorem wg_Event (x : Event) : wg x = wg x.Rules + wg x.Actions := rfl
instance : Lb Event := ⟨fun x => lb x.Rules ∧ lb x.Actions⟩
theorem ok_Event (x : Event) (h : wg x ≤ 1048576) : ok x := ⟨ok_list ok_Rule (by rw [wg_Event] at h; omega), ok_list ok_int (by rw [wg_Event] at h; omega)⟩
instance : Wg Grant := ⟨fun x => wg x.Actions⟩
theorem wg_Grant (x : Grant) : wg x = wg x.Actions := rfl
instance : Lb Grant := ⟨fun x => lb x.Actions⟩
theorem ok_Grant (x : Grant) (h : wg x ≤ 1048576) : ok x := ok_list ok_int (by rw [wg_Grant] at h; omega)
instance : Wg Plan := ⟨fun x => wg x.Persons + wg x.Objects⟩
theorem wg_Plan (x : Plan) : wg x = wg x.Persons + wg x.Objects := rfl
instance : Lb Plan := ⟨fun x => lb x.Persons ∧ lb x.Objects⟩
theorem ok_Plan (x : Plan) (h : wg x ≤ 1048576) : ok x := ⟨ok_list ok_int (by rw [wg_Plan] at h; omega), ok_list ok_int (by rw [wg_Plan] at h; omega)⟩
instance : Wg Saved := ⟨fun x => 0⟩
@[simp] theorem wg_Saved (x : Saved) : wg x = 0 := rfl
instance : Lb Saved := ⟨fun x => True⟩
theorem ok_Saved (x : Saved) (_ : wg x ≤ 1048576) : ok x := trivial
instance : Wg Point := ⟨fun x => wg x.Epoch + wg x.Store + wg x.Revoked + wg x.Saved⟩
theorem wg_Point (x : Point) : wg x = wg x.Epoch + wg x.Store + wg x.Revoked + wg x.Saved := rfl
instance : Lb Point := ⟨fun x => lb x.Epoch ∧ lb x.Store ∧ lb x.Revoked ∧ lb x.Saved⟩
theorem ok_Point (x : Point) (h : wg x ≤ 1048576) : ok x := ⟨ok_Epoch _ (by rw [wg_Point] at h; omega), ok_list ok_Fact (by rw [wg_Point] at h; omega), ok_list ok_Revoked (by rw [wg_Point] at h; omega), ok_list ok_Saved (by rw [wg_Point] at h; omega)⟩
instance : Wg Session := ⟨fun x => 0⟩
@[simp] theorem wg_Session (x : Session) : wg x = 0 := rfl
instance : Lb Session := ⟨fun x => True⟩
theorem ok_Session (x : Session) (_ : wg x ≤ 1048576) : ok x := trivial
instance : Wg Share := ⟨fun x => 0⟩
@[simp] theorem wg_Share (x : Share) : wg x = 0 := rfl
instance : Lb Share := ⟨fun x => True⟩
theorem ok_Share (x : Share) (_ : wg x ≤ 1048576) : ok x := trivial
instance : Wg Stated := ⟨fun x => 0⟩
@[simp] theorem wg_Stated (x : Stated) : wg x = 0 := rfl
instance : Lb Stated := ⟨fun x => True⟩
theorem ok_Stated (x : Stated) (_ : wg x ≤ 1048576) : ok x := trivial
instance : Wg Use := ⟨fun x => 0⟩
@[simp] theorem wg_Use (x : Use) : wg x = 0 := rfl
instance : Lb Use := ⟨fun x => True⟩
theorem ok_Use (x : Use) (_ : wg x ≤ 1048576) : ok x := trivial
instance : Wg World := ⟨fun x => wg x.Center + wg x.Points + wg x.Down + wg x.Trails + wg x.Shares + wg x.Grants + wg x.Apart + wg x.Uses + wg x.Plan + wg x.Cases + wg x.Sessions⟩
theorem wg_World (x : World) : wg x = wg x.Center + wg x.Points + wg x.Down + wg x.Trails + wg x.Shares + wg x.Grants + wg x.Apart + wg x.Uses + wg x.Plan + wg x.Cases + wg x.Sessions := rfl
instance : Lb World := ⟨fun x => lb x.Center ∧ lb x.Points ∧ lb x.Down ∧ lb x.Trails ∧ lb x.Shares ∧ lb x.Grants ∧ lb x.Apart ∧ lb x.Uses ∧ lb x.Plan ∧ lb x.Cases ∧ lb x.Sessions⟩
theorem ok_World (x : World) (h : wg x ≤ 1048576) : ok x := ⟨ok_Center _ (by rw [wg_World] at h; omega), ok_list ok_Point (by rw [wg_World] at h; omega), ok_list ok_bool (by rw [wg_World] at h; omega), ok_list (fun _ => ok_list ok_Entry) (by rw [wg_World] at h; omega), ok_list ok_Share (by rw [wg_World] at h; omega), ok_list ok_Grant (by rw [wg_World] at h; omega), ok_list ok_Apart (by rw [wg_World] at h; omega), ok_list ok_Use (by rw [wg_World] at h; omega), ok_Plan _ (by rw [wg_World] at h; omega), ok_list ok_Emergency (by rw [wg_World] at h; omega), ok_list ok_Session (by rw [wg_World] at h; omega)⟩
/-- what is left of a number behind w of them, or -1 -/
def szf (w : Nat) (left : Int) : Int := bif leI (w : Int) left then left - w else -1
theorem szf_le {w : Nat} {left : Int} (h : (w : Int) ≤ left) : szf w left = left - w := by unfold szf; rw [leI_iff.2 h]; rfl
theorem szf_gt {w : Nat} {left : Int} (h : ¬ (w : Int) ≤ left) : szf w left = -1 := by unfold szf; rw [show leI (w : Int) left = false by simp [leI, h]]; rfl
theorem sz_go {α : Type} [Wg α] : ∀ (l : List α) (k : Nat) (left : Int), 0 ≤ left → (l.length : Int) ≤ left + l.length →
    goList (fun _ x n => bif ltI (szf (wg x) n) 0 then .inr (.inr [D.int (-1)]) else .inl (szf (wg x) n)) (fun n => .inl [D.int n]) l k left = (bif leI ((wg l : Int) - l.length) left then .inl [D.int (left - (wg l - l.length))] else .inr [D.int (-1)] : List D ⊕ List D)
  | [], k, left, h0, _ => by simp [goList, leI, h0]
  | x :: l, k, left, h0, _ => by
    simp only [goList, wg_cons, List.length_cons]
    have hl := wg_len l
    by_cases e : (wg x : Int) ≤ left
    · rw [szf_le e, show ltI (left - (wg x : Int)) 0 = false by simp [ltI]; omega]
      simp only [cond_false]
      rw [sz_go l (k + 1) (left - wg x) (by omega) (by omega)]
      have e1 : leI ((wg l : Int) - l.length) (left - wg x) = leI (((1 + wg x + wg l : Nat) : Int) - ((l.length + 1 : Nat) : Int)) left := by
        simp only [leI, decide_eq_decide]; omega
      rw [e1]
      congr 4; omega
    · rw [szf_gt e, show ltI (-1) 0 = true from rfl]
      simp only [cond_true]
      rw [show leI (((1 + wg x + wg l : Nat) : Int) - ((l.length + 1 : Nat) : Int)) left = false by simp [leI]; omega]
      rfl
/-- a row of cells that is being filled -/
def fillTo (R : List (List D)) (Z : List D) (k : Nat) : List (List D) := R.take k ++ List.replicate (R.length - k) Z
theorem fill_len (R : List (List D)) (Z : List D) {k : Nat} (h : k ≤ R.length) : (fillTo R Z k).length = R.length := by simp [fillTo]; omega
theorem fill_zero (R : List (List D)) (Z : List D) : List.replicate R.length Z = fillTo R Z 0 := by simp [fillTo]
theorem fill_end (R : List (List D)) (Z : List D) : fillTo R Z R.length = R := by simp [fillTo]
theorem fill_set {R : List (List D)} {Z r : List D} {k : Nat} (h : R[k]? = some r) (hr : r.length = Z.length) : setCells (fillTo R Z k) k 0 r = fillTo R Z (k + 1) := by
  have hk := (List.getElem?_eq_some_iff.1 h).1
  unfold setCells fillTo
  rw [upd_set, nth_eq, List.getD_eq_getElem?_getD, List.getElem?_append_right (by simp; omega), List.set_append_right _ _ (by simp; omega)]
  have e : R.length - k = (R.length - (k + 1)) + 1 := by omega
  rw [e, List.replicate_succ]
  simp [Nat.min_eq_left (Nat.le_of_lt hk), splice]
  rw [List.take_add_one, h, List.drop_eq_nil_of_le (by omega)]
  simp
theorem w64_ok {x : Int} (h : -1152921504606846976 ≤ x) (h1 : x ≤ 1152921504606846976) : w64 x = x := w64_in (by omega)
/-- marks -/
def markList {α : Type} (f : Int → α → α × Int) : Int → List α → List α × Int
  | k, [] => ([], k)
  | k, x :: l => ((f k x).1 :: (markList f (f k x).2 l).1, (markList f (f k x).2 l).2)
theorem mark_go {α : Type} (f : Int → α → α × Int) (B : List α → D) (e : Int × List α → List D) : ∀ (l : List α) (i : Nat) (k : Int) (pre : List α),
    goList (fun _ x (s : Int × List α) => .inl ((f s.1 x).2, s.2 ++ [(f s.1 x).1])) (fun s => .inl (e s)) l i (k, pre) = (.inl (e ((markList f k l).2, pre ++ (markList f k l).1)) : List D ⊕ List D)
  | [], i, k, pre => by simp [goList, markList]
  | x :: l, i, k, pre => by
    simp only [goList, markList]
    rw [mark_go f B e l (i + 1)]; simp
theorem mark_bound {α : Type} [Wg α] (f : Int → α → α × Int) (hf : ∀ k x, k ≤ (f k x).2 ∧ (f k x).2 ≤ k + 32 * (1 + wg x)) : ∀ (l : List α) (k : Int), k ≤ (markList f k l).2 ∧ (markList f k l).2 ≤ k + 32 * wg l
  | [], k => by simp [markList]
  | x :: l, k => by
    have h1 := hf k x
    have h2 := mark_bound f hf l (f k x).2
    simp only [markList, wg_cons]; omega
theorem markList_len {α : Type} (f : Int → α → α × Int) : ∀ (l : List α) (k : Int), (markList f k l).1.length = l.length
  | [], k => rfl
  | x :: l, k => by simp [markList, markList_len f l]
theorem set_at (A B : List (List D)) (r : List D) (c : Nat) (ds : List D) : setCells (A ++ r :: B) A.length c ds = A ++ splice r c ds :: B := by
  unfold setCells
  rw [upd_set, nth_eq, List.getD_eq_getElem?_getD, List.getElem?_append_right (by omega), List.set_append_right _ _ (by omega)]
  simp
theorem setIn_at (A B : List (List D)) (r : List D) (c : Nat) (new : List (List D)) : setIn (A ++ r :: B) A.length c new = A ++ upd r c (D.rows new) :: B := by
  unfold setIn
  rw [upd_set, nth_eq, List.getD_eq_getElem?_getD, List.getElem?_append_right (by omega), List.set_append_right _ _ (by omega)]
  simp
theorem cell_at (A B : List (List D)) (r : List D) (c : Nat) : cell (A ++ r :: B) A.length c = nth D.z r c := by
  unfold cell
  rw [nth_eq [] _ A.length, List.getD_eq_getElem?_getD, List.getElem?_append_right (by omega)]
  simp
end Acc
end
section
/- The laws' helpers. -/
namespace Acc
open Go Go.Ev
theorem unit_go {α B : Type} {e : Unit → B} : ∀ (l : List α) (k : Nat), goList (fun _ _ (_ : Unit) => .inl ()) e l k () = e ()
  | [], _ => rfl
  | x :: l, k => unit_go l (k + 1)
theorem ltneg : ltI (-1) 0 = true := rfl
theorem lt_sub {x : Int} (h : 0 ≤ x) : ltI x 0 = false := by simp [ltI]; omega
theorem at_go {α B : Type} (h : Nat → Int) {e : Int → B} : ∀ (l : List α) (k : Nat), goList (fun i _ (_ : Int) => .inl (h (i + 1))) e l k (h k) = e (h (k + l.length))
  | [], k => rfl
  | x :: l, k => by simp only [goList, List.length_cons]; rw [at_go h l (k + 1)]; congr 2; omega
theorem mark_get {α : Type} (f : Int → α → α × Int) : ∀ (l : List α) (k : Int) (i : Nat) (x : α), (markList f k l).1[i]? = some x → ∃ y, l[i]? = some y ∧ x = (f (markList f k (l.take i)).2 y).1 ∧ (markList f k (l.take (i + 1))).2 = (f (markList f k (l.take i)).2 y).2
  | [], k, i, x, h => by simp [markList] at h
  | y :: l, k, 0, x, h => by simp [markList] at h; subst h; exact ⟨y, rfl, rfl, by simp [markList]⟩
  | y :: l, k, i + 1, x, h => by
    simp only [markList, List.getElem?_cons_succ] at h
    obtain ⟨z, h1, h2, h3⟩ := mark_get f l (f k y).2 i x h
    exact ⟨z, by simpa using h1, by simpa [markList] using h2, by simpa [markList] using h3⟩
theorem wg_take {α : Type} [Wg α] : ∀ (l : List α) (i : Nat) (x : α), l[i]? = some x → wg (l.take i) + 1 + wg x ≤ wg l
  | [], i, x, h => by simp at h
  | y :: l, 0, x, h => by simp at h; subst h; simp
  | y :: l, i + 1, x, h => by
    have := wg_take l i x (by simpa using h)
    simp only [List.take_succ_cons, wg_cons]; omega
theorem wszCond_F : ∀ (m : Nat), (∀ (l : List Cond) (left : Int), lb l → 0 ≤ left → left ≤ 1048576 → 2 * Cond.csizes l + 1 ≤ m → wszCondS.F m wszCondS.n [D.rows (List.map row l), D.int left] = some [D.int (szf (wg l) left)]) ∧
    (∀ (x : Cond) (left : Int), lb x → 0 ≤ left → left ≤ 1048576 → 2 * x.csize ≤ m → wszCondS.F m wszCond.n [D.st (row x), D.int left] = some [D.int (szf (wg x) left)])
  | 0 => ⟨fun l left _ _ _ h => by omega, fun x left _ _ _ h => by rw [x.csize_eq] at h; omega⟩
  | m + 1 => by
    obtain ⟨ih1, ih2⟩ := wszCond_F m
    refine ⟨fun l left h_l h0 h1 hm => ?_, fun x left h_x h0 h1 hm => ?_⟩
    · have hl : l.length ≤ 9223372036854775807 := h_l.1
      have hlw := wg_len l
      have e : wszCondS.F (m + 1) wszCondS.n = fun a => wszCondS.b (wszCondS.F m) (res a 0) (res a 1) := rfl
      rw [e]
      simp only [wszCondS.b, res_zero, res_succ, r_rows, i_int, List.length_map, w64_in (x := left - l.length) (by omega)]
      by_cases e : (l.length : Int) ≤ left
      · rw [lt_sub (by omega)]
        have key := iter_list (f := wszCondS.l1 (wszCondS.F m)) l (fun k (n : Int) => [D.int n, D.int (k : Int), D.rows (List.map row l)]) (fun _ n => 0 ≤ n ∧ n ≤ 1048576)
          (fun _ x n => bif ltI (szf (wg x) n) 0 then .inr (.inr [D.int (-1)]) else .inl (szf (wg x) n)) (fun n => .inl [D.int n])
          (fun k x n hx hI => by
            have hk : k < l.length := (List.getElem?_eq_some_iff.1 hx).1
            have hx' := ih2 x n (h_l.2 x (List.mem_of_getElem? hx)) hI.1 hI.2 (by have := Cond.csizes_mem (List.mem_of_getElem? hx); omega)
            simp only [row_Cond] at hx'
            refine ⟨?_, ?_⟩
            · simp [wszCondS.l1, cell_map hx, lt_k hk, w64_k hk (by omega), hx']
              cases ltI (szf (wg x) n) 0 <;> rfl
            · by_cases e : (wg x : Int) ≤ n
              · rw [szf_le e, lt_sub (by omega)]; simp; omega
              · rw [szf_gt e]; simp [ltneg])
          (fun n _ => by simp [wszCondS.l1]) (left - l.length) ⟨by omega, by omega⟩
        rw [sz_go l 0 _ (by omega) (by omega)] at key
        refine (loop_some key).trans ?_
        by_cases e2 : (wg l : Int) ≤ left
        · rw [szf_le e2, show leI ((wg l : Int) - l.length) (left - l.length) = true from leI_iff.2 (by omega)]
          show some [D.int (left - ↑l.length - (↑(wg l) - ↑l.length))] = _
          congr 3; omega
        · rw [szf_gt e2, show leI ((wg l : Int) - l.length) (left - l.length) = false by simp [leI]; omega]
          rfl
      · rw [szf_gt (by omega), show ltI (left - (l.length : Int)) 0 = true from ltI_iff.2 (by omega)]; rfl
    · have e : wszCondS.F (m + 1) wszCond.n = fun a => wszCond.b (wszCondS.F m) (res a 0) (res a 1) := rfl
      rw [e]
      have hx' := ih1 x.Args left (lb_args h_x) h0 h1 (by have := x.csize_eq; omega)
      simp only [wszCond.b, row_Cond, res_zero, res_succ, r_rows, i_int, f_st, hx', bind_some, wg_Cond]
      by_cases e : (wg x.Args : Int) ≤ left
      · rw [szf_le e, lt_sub (by omega)]; rfl
      · rw [szf_gt e]; rfl
theorem wszCond_ok (x : Cond) (left : Int) (h_x : lb x) (h0 : 0 ≤ left) (h1 : left ≤ 1048576) : wszCond.t [D.st (row x), D.int left] = some [D.int (szf (wg x) left)] :=
  lim_eq (2 * x.csize) fun m hm => (wszCond_F m).2 x left h_x h0 h1 hm
theorem wtoCond_F : ∀ (m : Nat), (∀ (l : List Cond), Cond.csizes l ≤ 16777216 → 2 * Cond.csizes l + 1 ≤ m → wtoCondS.F m wtoCondS.n [D.rows (List.map row l)] = some [D.rows (List.map row l)]) ∧
    (∀ (x : Cond), x.csize ≤ 16777216 → 2 * x.csize ≤ m → wtoCondS.F m wtoCond.n [D.st (row x)] = some [D.st (row x)])
  | 0 => ⟨fun l _ h => by omega, fun x _ h => by rw [x.csize_eq] at h; omega⟩
  | m + 1 => by
    obtain ⟨ih1, ih2⟩ := wtoCond_F m
    refine ⟨fun l h_l hm => ?_, fun x h_x hm => ?_⟩
    · have hl : l.length ≤ 16777216 := by have := Cond.csizes_len (l := l); omega
      have e : wtoCondS.F (m + 1) wtoCondS.n = fun a => wtoCondS.b (wtoCondS.F m) (res a 0) := rfl
      rw [e]
      have key := iter_list (f := wtoCondS.l1 (wtoCondS.F m)) l (fun k (_ : Unit) => [D.int (k : Int), D.rows (List.map row l), D.rows (fillTo (List.map row l) [D.z, D.z, D.z, D.z] k)]) (fun _ _ => True) (fun _ _ _ => .inl ()) (fun _ => .inl [D.rows (fillTo (List.map row l) [D.z, D.z, D.z, D.z] l.length)])
        (fun k x _ hx _ => by
          have hk : k < l.length := (List.getElem?_eq_some_iff.1 hx).1
          have hr : (List.map row l)[k]? = some (row x) := by simp [hx]
          have hs := fill_set (Z := [D.z, D.z, D.z, D.z]) hr (by simp)
          simp only [row_Cond] at hs
          have hc := Cond.csizes_mem (List.mem_of_getElem? hx)
          have hx' := ih2 x (by omega) (by omega)
          simp only [row_Cond] at hx'
          have hf := fill_len (List.map row l) [D.z, D.z, D.z, D.z] (k := k) (by simp; omega)
          refine ⟨?_, fun _ _ => trivial⟩
          simp [wtoCondS.l1, cell_map hx, lt_k hk, w64_k hk (by omega), hf, hx', hs])
        (fun _ _ => by simp [wtoCondS.l1]) () trivial
      rw [unit_go] at key
      have hz := fill_zero (List.map row l) [D.z, D.z, D.z, D.z]
      have he := fill_end (List.map row l) [D.z, D.z, D.z, D.z]
      rw [List.length_map] at hz he
      rw [he] at key
      simp only [wtoCondS.b, res_zero, res_succ, r_rows, i_int, List.length_map, le_0, le_self, show leI (l.length : Int) 4294967296 = true from leI_iff.2 (by omega), Bool.and_self, Bool.and_true, cond_true, hz]
      exact loop_some key
    · have e : wtoCondS.F (m + 1) wtoCond.n = fun a => wtoCond.b (wtoCondS.F m) (res a 0) := rfl
      rw [e]
      have hx' := ih1 x.Args (by have := x.csize_eq; omega) (by have := x.csize_eq; omega)
      simp [wtoCond.b, hx']
theorem wtoCond_ok (x : Cond) (h_x : ok x) : wtoCond.t [D.st (row x)] = some [D.st (row x)] :=
  lim_eq (2 * x.csize) fun m hm => (wtoCond_F m).2 x h_x hm
theorem weqCond_F : ∀ (m : Nat), (∀ (l : List Cond), Cond.csizes l ≤ 16777216 → 2 * Cond.csizes l + 1 ≤ m → weqCondS.F m weqCondS.n [D.rows (List.map row l), D.rows (List.map row l)] = some [D.bool true]) ∧
    (∀ (x : Cond), x.csize ≤ 16777216 → 2 * x.csize ≤ m → weqCondS.F m weqCond.n [D.st (row x), D.st (row x)] = some [D.bool true])
  | 0 => ⟨fun l _ h => by omega, fun x _ h => by rw [x.csize_eq] at h; omega⟩
  | m + 1 => by
    obtain ⟨ih1, ih2⟩ := weqCond_F m
    refine ⟨fun l h_l hm => ?_, fun x h_x hm => ?_⟩
    · have hl : l.length ≤ 16777216 := by have := Cond.csizes_len (l := l); omega
      have e : weqCondS.F (m + 1) weqCondS.n = fun a => weqCondS.b (weqCondS.F m) (res a 0) (res a 1) := rfl
      rw [e]
      have key := iter_list (f := weqCondS.l1 (weqCondS.F m)) l (fun k (_ : Unit) => [D.int (k : Int), D.rows (List.map row l), D.rows (List.map row l)]) (fun _ _ => True) (fun _ _ _ => .inl ()) (fun _ => .inl [])
        (fun k x _ hx _ => by
          have hk : k < l.length := (List.getElem?_eq_some_iff.1 hx).1
          have hc := Cond.csizes_mem (List.mem_of_getElem? hx)
          have hx' := ih2 x (by omega) (by omega)
          simp only [row_Cond] at hx'
          refine ⟨?_, fun _ _ => trivial⟩
          simp [weqCondS.l1, cell_map hx, lt_k hk, w64_k hk (by omega), hx'])
        (fun _ _ => by simp [weqCondS.l1]) () trivial
      rw [unit_go] at key
      simp only [weqCondS.b, res_zero, res_succ, r_rows, i_int, List.length_map, bne_self_eq_false, cond_false]
      exact loop_some key
    · have e : weqCondS.F (m + 1) weqCond.n = fun a => weqCond.b (weqCondS.F m) (res a 0) (res a 1) := rfl
      rw [e]
      have hx' := ih1 x.Args (by have := x.csize_eq; omega) (by have := x.csize_eq; omega)
      simp [weqCond.b, hx']
theorem weqCond_ok (x : Cond) (h_x : ok x) : weqCond.t [D.st (row x), D.st (row x)] = some [D.bool true] :=
  lim_eq (2 * x.csize) fun m hm => (weqCond_F m).2 x h_x hm
mutual
def markCond : Int → Cond → Cond × Int
  | k, .mk _ _ _ l => (.mk k (k + 1) (k + 1 + 1) (markConds (k + 1 + 1 + 1) l).1, (markConds (k + 1 + 1 + 1) l).2)
def markConds : Int → List Cond → List Cond × Int
  | k, [] => ([], k)
  | k, x :: l => ((markCond k x).1 :: (markConds (markCond k x).2 l).1, (markConds (markCond k x).2 l).2)
end
theorem markConds_eq : ∀ (l : List Cond) (k : Int), markConds k l = markList markCond k l
  | [], _ => by simp only [markConds, markList]
  | x :: l, k => by simp only [markConds, markList, markConds_eq l]
theorem markCond_eq (k : Int) (x : Cond) : markCond k x = (Cond.mk k (k + 1) (k + 1 + 1) (markList markCond (k + 1 + 1 + 1) x.Args).1, (markList markCond (k + 1 + 1 + 1) x.Args).2) := by
  cases x; simp only [markCond, markConds_eq]; rfl
mutual
theorem markCond_bound : ∀ (k : Int) (x : Cond), k ≤ (markCond k x).2 ∧ (markCond k x).2 ≤ k + 32 * (1 + wg x)
  | k, .mk o a b l => by
    have := markConds_bound (k + 1 + 1 + 1) l
    rw [wg_Cond]
    simp only [markCond, Cond.Args_mk]; omega
theorem markConds_bound : ∀ (k : Int) (l : List Cond), k ≤ (markConds k l).2 ∧ (markConds k l).2 ≤ k + 32 * wg l
  | k, [] => by simp [markConds]
  | k, x :: l => by
    have h1 := markCond_bound k x
    have h2 := markConds_bound (markCond k x).2 l
    simp only [markConds, wg_cons]; omega
end
theorem ok_cs {x : Cond} (h : ok x) : Cond.csizes x.Args ≤ 16777216 := by
  have h : x.csize ≤ 16777216 := h
  rw [x.csize_eq] at h; omega
theorem wmarkCondS_F : ∀ (m : Nat) (l : List Cond) (k0 : Int), Cond.csizes l ≤ 16777216 → Cond.csizes l + 1 ≤ m → 0 ≤ k0 → k0 + 32 * wg l ≤ 1099511627776 → wmarkCondS.F m wmarkCondS.n [D.rows (List.map row l), D.int k0] = some [D.int (markList markCond k0 l).2, D.rows (List.map row (markList markCond k0 l).1)]
  | 0, l, _, _, h, _, _ => by omega
  | m + 1, l, k0, h_l, hm, h0, h1 => by
    have hl : l.length ≤ 16777216 := by have := Cond.csizes_len (l := l); omega
    have ef : wmarkCondS.F (m + 1) wmarkCondS.n = fun a => wmarkCondS.b (wmarkCondS.F m) (res a 0) (res a 1) := rfl
    rw [ef]
    have key := iter_list (f := wmarkCondS.l1 (wmarkCondS.F m)) l (fun i (s : Int × List Cond) => [D.int s.1, D.int (i : Int), D.rows (List.map row (s.2 ++ l.drop i))]) (fun i s => s.2.length = i ∧ 0 ≤ s.1 ∧ s.1 + 32 * wg (l.drop i) ≤ 1099511627776)
      (fun _ x s => .inl ((markCond s.1 x).2, s.2 ++ [(markCond s.1 x).1])) (fun s => .inl [D.int s.1, D.rows (List.map row s.2)])
      (fun i x s hx hI => by
        have hk : i < l.length := (List.getElem?_eq_some_iff.1 hx).1
        have hxl := List.mem_of_getElem? hx
        have hc := Cond.csizes_mem hxl
        rw [x.csize_eq] at hc
        obtain ⟨hi, hs0, hs1⟩ := hI
        have hd : l.drop i = x :: l.drop (i + 1) := by rw [List.drop_eq_getElem_cons hk]; congr 1; exact (List.getElem?_eq_some_iff.1 hx).2
        have hb := markCond_bound s.1 x
        rw [hd, wg_cons] at hs1
        have hwx := hs1
        rw [wg_Cond] at hwx
        have hA : (List.map row s.2).length = i := by simp [hi]
        have e1 := set_at (List.map row s.2) (List.map row (l.drop (i + 1)))
        have e2 := cell_at (List.map row s.2) (List.map row (l.drop (i + 1)))
        have e3 := setIn_at (List.map row s.2) (List.map row (l.drop (i + 1)))
        simp only [hA] at e1 e2 e3
        have e4 : ∀ r : List D, (List.map row s.2 ++ r :: List.map row (l.drop (i + 1))).length = l.length := by intro r; simp; omega
        have g0 := wmarkCondS_F m x.Args (s.1 + 1 + 1 + 1) (by omega) (by omega) (by omega) (by omega)
        refine ⟨?_, ?_⟩
        · simp only [hd, List.map_append, List.map_cons]
          simp (disch := omega) only [wmarkCondS.l1, arg_zero, arg_succ, i_int, r_rows, Int.toNat_natCast, e4, lt_k hk, le_0, Bool.and_self, cond_true, e1, e2, e3, w64_ok, row_Cond, splice, List.take, List.drop, List.length_cons, List.length_nil, List.append_eq, List.nil_append, List.cons_append, Nat.zero_add, Nat.reduceAdd, upd, nth_zero, nth_succ, res_zero, res_succ, bind_some, g0]
          simp [markCond_eq]
        · simp only [Sum.inl.injEq]; rintro s' rfl
          refine ⟨by simp [hi], by simp only; omega, by simp only; omega⟩)
      (fun s hI => by obtain ⟨hi, _, _⟩ := hI; simp [wmarkCondS.l1, hi]) (k0, []) ⟨rfl, h0, h1⟩
    rw [mark_go markCond (fun l => D.rows (List.map row l)) (fun s => [D.int s.1, D.rows (List.map row s.2)])] at key
    simp only [List.nil_append, List.drop_zero] at key
    simp only [wmarkCondS.b, res_zero, res_succ, r_rows, i_int]
    exact loop_some key
theorem wmarkCondS_ok (l : List Cond) (k0 : Int) (h_l : Cond.csizes l ≤ 16777216) (h0 : 0 ≤ k0) (h1 : k0 + 32 * wg l ≤ 1099511627776) : wmarkCondS.t [D.rows (List.map row l), D.int k0] = some [D.int (markList markCond k0 l).2, D.rows (List.map row (markList markCond k0 l).1)] :=
  lim_eq (Cond.csizes l + 1) fun m hm => wmarkCondS_F m l k0 h_l hm h0 h1
theorem wheldCondS_F : ∀ (m : Nat) (l : List Cond) (k0 : Int), Cond.csizes l ≤ 16777216 → Cond.csizes l + 1 ≤ m → 0 ≤ k0 → k0 + 32 * wg l ≤ 1099511627776 → wheldCondS.F m wheldCondS.n [D.rows (List.map row (markList markCond k0 l).1), D.int k0] = some [D.int (markList markCond k0 l).2]
  | 0, l, _, _, h, _, _ => by omega
  | m + 1, l, k0, h_l, hm, h0, h1 => by
    have hl : l.length ≤ 16777216 := by have := Cond.csizes_len (l := l); omega
    have ef : wheldCondS.F (m + 1) wheldCondS.n = fun a => wheldCondS.b (wheldCondS.F m) (res a 0) (res a 1) := rfl
    rw [ef]
    have hml := markList_len markCond l k0
    have key := iter_list (f := wheldCondS.l1 (wheldCondS.F m)) (markList markCond k0 l).1 (fun i (s : Int) => [D.int s, D.int (i : Int), D.rows (List.map row (markList markCond k0 l).1)]) (fun i s => s = (markList markCond k0 (l.take i)).2)
      (fun i _ _ => .inl (markList markCond k0 (l.take (i + 1))).2) (fun s => .inl [D.int s])
      (fun i x s hx hI => by
        have hk : i < (markList markCond k0 l).1.length := (List.getElem?_eq_some_iff.1 hx).1
        obtain ⟨y, hy, hxe, hnx⟩ := mark_get markCond l k0 i x hx
        rw [← hI] at hxe hnx
        have hc := Cond.csizes_mem (List.mem_of_getElem? hy)
        rw [y.csize_eq] at hc
        have hb0 := mark_bound markCond markCond_bound (l.take i) k0
        rw [← hI] at hb0
        have hwx := wg_take l i y hy
        have hs1 : s + 32 * (1 + wg y) ≤ 1099511627776 := by omega
        rw [wg_Cond] at hs1
        have g0 := wheldCondS_F m y.Args (s + 1 + 1 + 1) (by omega) (by omega) (by omega) (by omega)
        have b0 := mark_bound markCond markCond_bound y.Args (s + 1 + 1 + 1)
        have l0 : ltI (markList markCond (s + 1 + 1 + 1) y.Args).2 0 = false := lt_sub (by omega)
        refine ⟨?_, fun s' h => ?_⟩
        · rw [hnx]
          simp (disch := omega) only [wheldCondS.l1, arg_zero, arg_succ, i_int, b_bool, r_rows, Int.toNat_natCast, List.length_map, lt_k hk, le_0, Bool.and_self, cond_true, cell_map hx, w64_ok, row_Cond, hxe, markCond_eq, Cond.Op_mk, Cond.A_mk, Cond.B_mk, Cond.Args_mk, nth_zero, nth_succ, bne_self_eq_false, cond_false, res_zero, res_succ, bind_some, g0, l0]
          simp
        · simp only [Sum.inl.injEq] at h; exact h.symm)
      (fun s hI => by simp [wheldCondS.l1]) k0 (by simp [markList])
    have h0e : k0 = (markList markCond k0 (l.take 0)).2 := by simp [markList]
    have hgo := at_go (B := List D ⊕ List D) (fun i => (markList markCond k0 (l.take i)).2) (e := fun s => .inl [D.int s]) (markList markCond k0 l).1 0
    try simp only at hgo
    rw [← h0e] at hgo
    rw [hgo] at key
    simp only [Nat.zero_add, hml, List.take_length] at key
    simp only [wheldCondS.b, res_zero, res_succ, r_rows, i_int]
    exact loop_some key
theorem wheldCondS_ok (l : List Cond) (k0 : Int) (h_l : Cond.csizes l ≤ 16777216) (h0 : 0 ≤ k0) (h1 : k0 + 32 * wg l ≤ 1099511627776) : wheldCondS.t [D.rows (List.map row (markList markCond k0 l).1), D.int k0] = some [D.int (markList markCond k0 l).2] :=
  lim_eq (Cond.csizes l + 1) fun m hm => wheldCondS_F m l k0 h_l hm h0 h1
theorem wszSessionS_ok (l : List Session) (left : Int) (h_l : lb l) (h0 : 0 ≤ left) (h1 : left ≤ 1048576) : wszSessionS.t [D.rows (List.map row l), D.int left] = some [D.int (szf (wg l) left)] := by
  have hl : l.length ≤ 9223372036854775807 := h_l.1
  have hw := wg_flat (fun x : Session => rfl) l
  simp only [wszSessionS.t, wszSessionS.b, res_zero, res_succ, r_rows, i_int, List.length_map, w64_in (x := left - l.length) (by omega)]
  by_cases e : (wg l : Int) ≤ left
  · rw [szf_le e, lt_sub (by omega), hw]; rfl
  · rw [szf_gt e, show ltI (left - (l.length : Int)) 0 = true from ltI_iff.2 (by omega)]; rfl
theorem wszIncludesS_ok (l : List Includes) (left : Int) (h_l : lb l) (h0 : 0 ≤ left) (h1 : left ≤ 1048576) : wszIncludesS.t [D.rows (List.map row l), D.int left] = some [D.int (szf (wg l) left)] := by
  have hl : l.length ≤ 9223372036854775807 := h_l.1
  have hw := wg_flat (fun x : Includes => rfl) l
  simp only [wszIncludesS.t, wszIncludesS.b, res_zero, res_succ, r_rows, i_int, List.length_map, w64_in (x := left - l.length) (by omega)]
  by_cases e : (wg l : Int) ≤ left
  · rw [szf_le e, lt_sub (by omega), hw]; rfl
  · rw [szf_gt e, show ltI (left - (l.length : Int)) 0 = true from ltI_iff.2 (by omega)]; rfl
theorem wszRule_ok (x : Rule) (left : Int) (h_x : lb x) (h0 : 0 ≤ left) (h1 : left ≤ 1048576) : wszRule.t [D.st (row x), D.int left] = some [D.int (szf (wg x) left)] := by
  have g0 := wszCond_ok x.Cond (left) h_x (by omega) (by omega)
  by_cases e0 : (wg x.Cond : Int) ≤ left
  · rw [szf_le e0] at g0
    have l0 : ltI (left - (wg x.Cond : Int)) 0 = false := lt_sub (by omega)
    have hs : szf (wg x) left = left - (wg x.Cond : Int) := by rw [wg_Rule]; first | exact szf_le (by omega) | (rw [szf_le (by omega)]; omega)
    try simp only [row_Rule, row_Cond] at g0
    simp [wszRule.t, wszRule.b, ltneg, g0, l0, hs]
  · rw [szf_gt e0] at g0
    have hs : szf (wg x) left = -1 := by rw [wg_Rule]; exact szf_gt (by omega)
    try simp only [row_Rule, row_Cond] at g0
    simp [wszRule.t, wszRule.b, ltneg, g0, hs]
theorem wszRuleS_ok (l : List Rule) (left : Int) (h_l : lb l) (h0 : 0 ≤ left) (h1 : left ≤ 1048576) : wszRuleS.t [D.rows (List.map row l), D.int left] = some [D.int (szf (wg l) left)] := by
  have hl : l.length ≤ 9223372036854775807 := h_l.1
  have hlw := wg_len l
  simp only [wszRuleS.t, wszRuleS.b, res_zero, res_succ, r_rows, i_int, List.length_map, w64_in (x := left - l.length) (by omega)]
  by_cases e : (l.length : Int) ≤ left
  · rw [lt_sub (by omega)]
    have key := iter_list (f := wszRuleS.l1) l (fun k (n : Int) => [D.int n, D.int (k : Int), D.rows (List.map row l)]) (fun _ n => 0 ≤ n ∧ n ≤ 1048576)
      (fun _ x n => bif ltI (szf (wg x) n) 0 then .inr (.inr [D.int (-1)]) else .inl (szf (wg x) n)) (fun n => .inl [D.int n])
      (fun k x n hx hI => by
        have hk : k < l.length := (List.getElem?_eq_some_iff.1 hx).1
        have hx' := wszRule_ok x n (h_l.2 x (List.mem_of_getElem? hx)) hI.1 hI.2
        simp only [row_Rule, row_Cond] at hx'
        refine ⟨?_, ?_⟩
        · simp [wszRuleS.l1, cell_map hx, lt_k hk, w64_k hk (by omega), hx']
          cases ltI (szf (wg x) n) 0 <;> rfl
        · by_cases e : (wg x : Int) ≤ n
          · rw [szf_le e, lt_sub (by omega)]; simp; omega
          · rw [szf_gt e]; simp [ltneg])
      (fun n _ => by simp [wszRuleS.l1]) (left - l.length) ⟨by omega, by omega⟩
    rw [sz_go l 0 _ (by omega) (by omega)] at key
    refine (loop_some key).trans ?_
    by_cases e2 : (wg l : Int) ≤ left
    · rw [szf_le e2, show leI ((wg l : Int) - l.length) (left - l.length) = true from leI_iff.2 (by omega)]
      show some [D.int (left - ↑l.length - (↑(wg l) - ↑l.length))] = _
      congr 3; omega
    · rw [szf_gt e2, show leI ((wg l : Int) - l.length) (left - l.length) = false by simp [leI]; omega]
      rfl
  · rw [szf_gt (by omega), show ltI (left - (l.length : Int)) 0 = true from ltI_iff.2 (by omega)]; rfl
theorem wszPolicy_ok (x : Policy) (left : Int) (h_x : lb x) (h0 : 0 ≤ left) (h1 : left ≤ 1048576) : wszPolicy.t [D.st (row x), D.int left] = some [D.int (szf (wg x) left)] := by
  have g0 := wszRuleS_ok x.Rules (left) h_x (by omega) (by omega)
  by_cases e0 : (wg x.Rules : Int) ≤ left
  · rw [szf_le e0] at g0
    have l0 : ltI (left - (wg x.Rules : Int)) 0 = false := lt_sub (by omega)
    have hs : szf (wg x) left = left - (wg x.Rules : Int) := by rw [wg_Policy]; first | exact szf_le (by omega) | (rw [szf_le (by omega)]; omega)
    try simp only [row_Policy] at g0
    simp [wszPolicy.t, wszPolicy.b, ltneg, g0, l0, hs]
  · rw [szf_gt e0] at g0
    have hs : szf (wg x) left = -1 := by rw [wg_Policy]; exact szf_gt (by omega)
    try simp only [row_Policy] at g0
    simp [wszPolicy.t, wszPolicy.b, ltneg, g0, hs]
theorem wszEpoch_ok (x : Epoch) (left : Int) (h_x : lb x) (h0 : 0 ≤ left) (h1 : left ≤ 1048576) : wszEpoch.t [D.st (row x), D.int left] = some [D.int (szf (wg x) left)] := by
  have g0 := wszIncludesS_ok x.Pairs (left) h_x.1 (by omega) (by omega)
  by_cases e0 : (wg x.Pairs : Int) ≤ left
  · rw [szf_le e0] at g0
    have l0 : ltI (left - (wg x.Pairs : Int)) 0 = false := lt_sub (by omega)
    have g1 := wszPolicy_ok x.Policy (left - (wg x.Pairs : Int)) h_x.2 (by omega) (by omega)
    by_cases e1 : (wg x.Policy : Int) ≤ left - (wg x.Pairs : Int)
    · rw [szf_le e1] at g1
      have l1 : ltI (left - (wg x.Pairs : Int) - (wg x.Policy : Int)) 0 = false := lt_sub (by omega)
      have hs : szf (wg x) left = left - (wg x.Pairs : Int) - (wg x.Policy : Int) := by rw [wg_Epoch]; first | exact szf_le (by omega) | (rw [szf_le (by omega)]; omega)
      try simp only [row_Epoch, row_Policy] at g0 g1
      simp [wszEpoch.t, wszEpoch.b, ltneg, g0, l0, g1, l1, hs]
    · rw [szf_gt e1] at g1
      have hs : szf (wg x) left = -1 := by rw [wg_Epoch]; exact szf_gt (by omega)
      try simp only [row_Epoch, row_Policy] at g0 g1
      simp [wszEpoch.t, wszEpoch.b, ltneg, g0, l0, g1, hs]
  · rw [szf_gt e0] at g0
    have hs : szf (wg x) left = -1 := by rw [wg_Epoch]; exact szf_gt (by omega)
    try simp only [row_Epoch, row_Policy] at g0
    simp [wszEpoch.t, wszEpoch.b, ltneg, g0, hs]
theorem wszFactS_ok (l : List Fact) (left : Int) (h_l : lb l) (h0 : 0 ≤ left) (h1 : left ≤ 1048576) : wszFactS.t [D.rows (List.map row l), D.int left] = some [D.int (szf (wg l) left)] := by
  have hl : l.length ≤ 9223372036854775807 := h_l.1
  have hw := wg_flat (fun x : Fact => rfl) l
  simp only [wszFactS.t, wszFactS.b, res_zero, res_succ, r_rows, i_int, List.length_map, w64_in (x := left - l.length) (by omega)]
  by_cases e : (wg l : Int) ≤ left
  · rw [szf_le e, lt_sub (by omega), hw]; rfl
  · rw [szf_gt e, show ltI (left - (l.length : Int)) 0 = true from ltI_iff.2 (by omega)]; rfl
theorem wszRevokedS_ok (l : List Revoked) (left : Int) (h_l : lb l) (h0 : 0 ≤ left) (h1 : left ≤ 1048576) : wszRevokedS.t [D.rows (List.map row l), D.int left] = some [D.int (szf (wg l) left)] := by
  have hl : l.length ≤ 9223372036854775807 := h_l.1
  have hw := wg_flat (fun x : Revoked => rfl) l
  simp only [wszRevokedS.t, wszRevokedS.b, res_zero, res_succ, r_rows, i_int, List.length_map, w64_in (x := left - l.length) (by omega)]
  by_cases e : (wg l : Int) ≤ left
  · rw [szf_le e, lt_sub (by omega), hw]; rfl
  · rw [szf_gt e, show ltI (left - (l.length : Int)) 0 = true from ltI_iff.2 (by omega)]; rfl
theorem wszSavedS_ok (l : List Saved) (left : Int) (h_l : lb l) (h0 : 0 ≤ left) (h1 : left ≤ 1048576) : wszSavedS.t [D.rows (List.map row l), D.int left] = some [D.int (szf (wg l) left)] := by
  have hl : l.length ≤ 9223372036854775807 := h_l.1
  have hw := wg_flat (fun x : Saved => rfl) l
  simp only [wszSavedS.t, wszSavedS.b, res_zero, res_succ, r_rows, i_int, List.length_map, w64_in (x := left - l.length) (by omega)]
  by_cases e : (wg l : Int) ≤ left
  · rw [szf_le e, lt_sub (by omega), hw]; rfl
  · rw [szf_gt e, show ltI (left - (l.length : Int)) 0 = true from ltI_iff.2 (by omega)]; rfl
theorem wszPoint_ok (x : Point) (left : Int) (h_x : lb x) (h0 : 0 ≤ left) (h1 : left ≤ 1048576) : wszPoint.t [D.st (row x), D.int left] = some [D.int (szf (wg x) left)] := by
  have g0 := wszEpoch_ok x.Epoch (left) h_x.1 (by omega) (by omega)
  by_cases e0 : (wg x.Epoch : Int) ≤ left
  · rw [szf_le e0] at g0
    have l0 : ltI (left - (wg x.Epoch : Int)) 0 = false := lt_sub (by omega)
    have g1 := wszFactS_ok x.Store (left - (wg x.Epoch : Int)) h_x.2.1 (by omega) (by omega)
    by_cases e1 : (wg x.Store : Int) ≤ left - (wg x.Epoch : Int)
    · rw [szf_le e1] at g1
      have l1 : ltI (left - (wg x.Epoch : Int) - (wg x.Store : Int)) 0 = false := lt_sub (by omega)
      have g2 := wszRevokedS_ok x.Revoked (left - (wg x.Epoch : Int) - (wg x.Store : Int)) h_x.2.2.1 (by omega) (by omega)
      by_cases e2 : (wg x.Revoked : Int) ≤ left - (wg x.Epoch : Int) - (wg x.Store : Int)
      · rw [szf_le e2] at g2
        have l2 : ltI (left - (wg x.Epoch : Int) - (wg x.Store : Int) - (wg x.Revoked : Int)) 0 = false := lt_sub (by omega)
        have g3 := wszSavedS_ok x.Saved (left - (wg x.Epoch : Int) - (wg x.Store : Int) - (wg x.Revoked : Int)) h_x.2.2.2 (by omega) (by omega)
        by_cases e3 : (wg x.Saved : Int) ≤ left - (wg x.Epoch : Int) - (wg x.Store : Int) - (wg x.Revoked : Int)
        · rw [szf_le e3] at g3
          have l3 : ltI (left - (wg x.Epoch : Int) - (wg x.Store : Int) - (wg x.Revoked : Int) - (wg x.Saved : Int)) 0 = false := lt_sub (by omega)
          have hs : szf (wg x) left = left - (wg x.Epoch : Int) - (wg x.Store : Int) - (wg x.Revoked : Int) - (wg x.Saved : Int) := by rw [wg_Point]; first | exact szf_le (by omega) | (rw [szf_le (by omega)]; omega)
          try simp only [row_Point, row_Epoch, row_Policy] at g0 g1 g2 g3
          simp [wszPoint.t, wszPoint.b, ltneg, g0, l0, g1, l1, g2, l2, g3, l3, hs]
        · rw [szf_gt e3] at g3
          have hs : szf (wg x) left = -1 := by rw [wg_Point]; exact szf_gt (by omega)
          try simp only [row_Point, row_Epoch, row_Policy] at g0 g1 g2 g3
          simp [wszPoint.t, wszPoint.b, ltneg, g0, l0, g1, l1, g2, l2, g3, hs]
      · rw [szf_gt e2] at g2
        have hs : szf (wg x) left = -1 := by rw [wg_Point]; exact szf_gt (by omega)
        try simp only [row_Point, row_Epoch, row_Policy] at g0 g1 g2
        simp [wszPoint.t, wszPoint.b, ltneg, g0, l0, g1, l1, g2, hs]
    · rw [szf_gt e1] at g1
      have hs : szf (wg x) left = -1 := by rw [wg_Point]; exact szf_gt (by omega)
      try simp only [row_Point, row_Epoch, row_Policy] at g0 g1
      simp [wszPoint.t, wszPoint.b, ltneg, g0, l0, g1, hs]
  · rw [szf_gt e0] at g0
    have hs : szf (wg x) left = -1 := by rw [wg_Point]; exact szf_gt (by omega)
    try simp only [row_Point, row_Epoch, row_Policy] at g0
    simp [wszPoint.t, wszPoint.b, ltneg, g0, hs]
theorem wszPointS_ok (l : List Point) (left : Int) (h_l : lb l) (h0 : 0 ≤ left) (h1 : left ≤ 1048576) : wszPointS.t [D.rows (List.map row l), D.int left] = some [D.int (szf (wg l) left)] := by
  have hl : l.length ≤ 9223372036854775807 := h_l.1
  have hlw := wg_len l
  simp only [wszPointS.t, wszPointS.b, res_zero, res_succ, r_rows, i_int, List.length_map, w64_in (x := left - l.length) (by omega)]
  by_cases e : (l.length : Int) ≤ left
  · rw [lt_sub (by omega)]
    have key := iter_list (f := wszPointS.l1) l (fun k (n : Int) => [D.int n, D.int (k : Int), D.rows (List.map row l)]) (fun _ n => 0 ≤ n ∧ n ≤ 1048576)
      (fun _ x n => bif ltI (szf (wg x) n) 0 then .inr (.inr [D.int (-1)]) else .inl (szf (wg x) n)) (fun n => .inl [D.int n])
      (fun k x n hx hI => by
        have hk : k < l.length := (List.getElem?_eq_some_iff.1 hx).1
        have hx' := wszPoint_ok x n (h_l.2 x (List.mem_of_getElem? hx)) hI.1 hI.2
        simp only [row_Point, row_Epoch, row_Policy] at hx'
        refine ⟨?_, ?_⟩
        · simp [wszPointS.l1, cell_map hx, lt_k hk, w64_k hk (by omega), hx']
          cases ltI (szf (wg x) n) 0 <;> rfl
        · by_cases e : (wg x : Int) ≤ n
          · rw [szf_le e, lt_sub (by omega)]; simp; omega
          · rw [szf_gt e]; simp [ltneg])
      (fun n _ => by simp [wszPointS.l1]) (left - l.length) ⟨by omega, by omega⟩
    rw [sz_go l 0 _ (by omega) (by omega)] at key
    refine (loop_some key).trans ?_
    by_cases e2 : (wg l : Int) ≤ left
    · rw [szf_le e2, show leI ((wg l : Int) - l.length) (left - l.length) = true from leI_iff.2 (by omega)]
      show some [D.int (left - ↑l.length - (↑(wg l) - ↑l.length))] = _
      congr 3; omega
    · rw [szf_gt e2, show leI ((wg l : Int) - l.length) (left - l.length) = false by simp [leI]; omega]
      rfl
  · rw [szf_gt (by omega), show ltI (left - (l.length : Int)) 0 = true from ltI_iff.2 (by omega)]; rfl
theorem wszCertS_ok (l : List Cert) (left : Int) (h_l : lb l) (h0 : 0 ≤ left) (h1 : left ≤ 1048576) : wszCertS.t [D.rows (List.map row l), D.int left] = some [D.int (szf (wg l) left)] := by
  have hl : l.length ≤ 9223372036854775807 := h_l.1
  have hw := wg_flat (fun x : Cert => rfl) l
  simp only [wszCertS.t, wszCertS.b, res_zero, res_succ, r_rows, i_int, List.length_map, w64_in (x := left - l.length) (by omega)]
  by_cases e : (wg l : Int) ≤ left
  · rw [szf_le e, lt_sub (by omega), hw]; rfl
  · rw [szf_gt e, show ltI (left - (l.length : Int)) 0 = true from ltI_iff.2 (by omega)]; rfl
theorem wtoRequest_ok (x : Request) : wtoRequest.t [D.st (row x)] = some [D.st (row x)] := by
  simp [wtoRequest.t, wtoRequest.b]
theorem wtoSession_ok (x : Session) : wtoSession.t [D.st (row x)] = some [D.st (row x)] := by
  have g0 := wtoRequest_ok x.Ask 
  simp only [row_Request] at g0
  simp [wtoSession.t, wtoSession.b, g0]
theorem wtoSessionS_ok (l : List Session) (h_l : ok l) : wtoSessionS.t [D.rows (List.map row l)] = some [D.rows (List.map row l)] := by
  have hl : l.length ≤ 16777216 := h_l.1
  have key := iter_list (f := wtoSessionS.l1) l (fun k (_ : Unit) => [D.int (k : Int), D.rows (List.map row l), D.rows (fillTo (List.map row l) [D.z, D.z, D.z, D.z, D.z, D.z, D.z, D.z, D.z, D.z] k)]) (fun _ _ => True) (fun _ _ _ => .inl ()) (fun _ => .inl [D.rows (fillTo (List.map row l) [D.z, D.z, D.z, D.z, D.z, D.z, D.z, D.z, D.z, D.z] l.length)])
    (fun k x _ hx _ => by
      have hk : k < l.length := (List.getElem?_eq_some_iff.1 hx).1
      have hr : (List.map row l)[k]? = some (row x) := by simp [hx]
      have hs := fill_set (Z := [D.z, D.z, D.z, D.z, D.z, D.z, D.z, D.z, D.z, D.z]) hr rfl
      simp only [row_Session, row_Request] at hs
      have hx' := wtoSession_ok x
      simp only [row_Session, row_Request] at hx'
      have hf := fill_len (List.map row l) [D.z, D.z, D.z, D.z, D.z, D.z, D.z, D.z, D.z, D.z] (k := k) (by simp; omega)
      refine ⟨?_, fun _ _ => trivial⟩
      simp [wtoSessionS.l1, cell_map hx, lt_k hk, w64_k hk (by omega), hf, hx', hs])
    (fun _ _ => by simp [wtoSessionS.l1]) () trivial
  rw [unit_go] at key
  have hz := fill_zero (List.map row l) [D.z, D.z, D.z, D.z, D.z, D.z, D.z, D.z, D.z, D.z]
  have he := fill_end (List.map row l) [D.z, D.z, D.z, D.z, D.z, D.z, D.z, D.z, D.z, D.z]
  rw [List.length_map] at hz he
  rw [he] at key
  simp only [wtoSessionS.t, wtoSessionS.b, res_zero, res_succ, r_rows, i_int, List.length_map, le_0, le_self, show leI (l.length : Int) 4294967296 = true from leI_iff.2 (by omega), Bool.and_self, Bool.and_true, cond_true, hz]
  exact loop_some key
theorem wtoIncludes_ok (x : Includes) : wtoIncludes.t [D.st (row x)] = some [D.st (row x)] := by
  simp [wtoIncludes.t, wtoIncludes.b]
theorem wtoIncludesS_ok (l : List Includes) (h_l : ok l) : wtoIncludesS.t [D.rows (List.map row l)] = some [D.rows (List.map row l)] := by
  have hl : l.length ≤ 16777216 := h_l.1
  have key := iter_list (f := wtoIncludesS.l1) l (fun k (_ : Unit) => [D.int (k : Int), D.rows (List.map row l), D.rows (fillTo (List.map row l) [D.z, D.z] k)]) (fun _ _ => True) (fun _ _ _ => .inl ()) (fun _ => .inl [D.rows (fillTo (List.map row l) [D.z, D.z] l.length)])
    (fun k x _ hx _ => by
      have hk : k < l.length := (List.getElem?_eq_some_iff.1 hx).1
      have hr : (List.map row l)[k]? = some (row x) := by simp [hx]
      have hs := fill_set (Z := [D.z, D.z]) hr rfl
      simp only [row_Includes] at hs
      have hx' := wtoIncludes_ok x
      simp only [row_Includes] at hx'
      have hf := fill_len (List.map row l) [D.z, D.z] (k := k) (by simp; omega)
      refine ⟨?_, fun _ _ => trivial⟩
      simp [wtoIncludesS.l1, cell_map hx, lt_k hk, w64_k hk (by omega), hf, hx', hs])
    (fun _ _ => by simp [wtoIncludesS.l1]) () trivial
  rw [unit_go] at key
  have hz := fill_zero (List.map row l) [D.z, D.z]
  have he := fill_end (List.map row l) [D.z, D.z]
  rw [List.length_map] at hz he
  rw [he] at key
  simp only [wtoIncludesS.t, wtoIncludesS.b, res_zero, res_succ, r_rows, i_int, List.length_map, le_0, le_self, show leI (l.length : Int) 4294967296 = true from leI_iff.2 (by omega), Bool.and_self, Bool.and_true, cond_true, hz]
  exact loop_some key
theorem wtoRule_ok (x : Rule) (h_x : ok x) : wtoRule.t [D.st (row x)] = some [D.st (row x)] := by
  have g0 := wtoCond_ok x.Cond h_x
  simp only [row_Cond] at g0
  simp [wtoRule.t, wtoRule.b, g0]
theorem wtoRuleS_ok (l : List Rule) (h_l : ok l) : wtoRuleS.t [D.rows (List.map row l)] = some [D.rows (List.map row l)] := by
  have hl : l.length ≤ 16777216 := h_l.1
  have key := iter_list (f := wtoRuleS.l1) l (fun k (_ : Unit) => [D.int (k : Int), D.rows (List.map row l), D.rows (fillTo (List.map row l) [D.z, D.z, D.z, D.z, D.z, D.z, D.z] k)]) (fun _ _ => True) (fun _ _ _ => .inl ()) (fun _ => .inl [D.rows (fillTo (List.map row l) [D.z, D.z, D.z, D.z, D.z, D.z, D.z] l.length)])
    (fun k x _ hx _ => by
      have hk : k < l.length := (List.getElem?_eq_some_iff.1 hx).1
      have hr : (List.map row l)[k]? = some (row x) := by simp [hx]
      have hs := fill_set (Z := [D.z, D.z, D.z, D.z, D.z, D.z, D.z]) hr rfl
      simp only [row_Rule, row_Cond] at hs
      have hx' := wtoRule_ok x (h_l.2 x (List.mem_of_getElem? hx))
      simp only [row_Rule, row_Cond] at hx'
      have hf := fill_len (List.map row l) [D.z, D.z, D.z, D.z, D.z, D.z, D.z] (k := k) (by simp; omega)
      refine ⟨?_, fun _ _ => trivial⟩
      simp [wtoRuleS.l1, cell_map hx, lt_k hk, w64_k hk (by omega), hf, hx', hs])
    (fun _ _ => by simp [wtoRuleS.l1]) () trivial
  rw [unit_go] at key
  have hz := fill_zero (List.map row l) [D.z, D.z, D.z, D.z, D.z, D.z, D.z]
  have he := fill_end (List.map row l) [D.z, D.z, D.z, D.z, D.z, D.z, D.z]
  rw [List.length_map] at hz he
  rw [he] at key
  simp only [wtoRuleS.t, wtoRuleS.b, res_zero, res_succ, r_rows, i_int, List.length_map, le_0, le_self, show leI (l.length : Int) 4294967296 = true from leI_iff.2 (by omega), Bool.and_self, Bool.and_true, cond_true, hz]
  exact loop_some key
theorem wtoPolicy_ok (x : Policy) (h_x : ok x) : wtoPolicy.t [D.st (row x)] = some [D.st (row x)] := by
  have g0 := wtoRuleS_ok x.Rules h_x
  simp [wtoPolicy.t, wtoPolicy.b, g0]
theorem wtoEpoch_ok (x : Epoch) (h_x : ok x) : wtoEpoch.t [D.st (row x)] = some [D.st (row x)] := by
  have g0 := wtoIncludesS_ok x.Pairs h_x.1
  have g1 := wtoPolicy_ok x.Policy h_x.2
  simp only [row_Policy] at g1
  simp [wtoEpoch.t, wtoEpoch.b, g0, g1]
theorem wtoFact_ok (x : Fact) : wtoFact.t [D.st (row x)] = some [D.st (row x)] := by
  simp [wtoFact.t, wtoFact.b]
theorem wtoFactS_ok (l : List Fact) (h_l : ok l) : wtoFactS.t [D.rows (List.map row l)] = some [D.rows (List.map row l)] := by
  have hl : l.length ≤ 16777216 := h_l.1
  have key := iter_list (f := wtoFactS.l1) l (fun k (_ : Unit) => [D.int (k : Int), D.rows (List.map row l), D.rows (fillTo (List.map row l) [D.z, D.z, D.z, D.z, D.z, D.z] k)]) (fun _ _ => True) (fun _ _ _ => .inl ()) (fun _ => .inl [D.rows (fillTo (List.map row l) [D.z, D.z, D.z, D.z, D.z, D.z] l.length)])
    (fun k x _ hx _ => by
      have hk : k < l.length := (List.getElem?_eq_some_iff.1 hx).1
      have hr : (List.map row l)[k]? = some (row x) := by simp [hx]
      have hs := fill_set (Z := [D.z, D.z, D.z, D.z, D.z, D.z]) hr rfl
      simp only [row_Fact] at hs
      have hx' := wtoFact_ok x
      simp only [row_Fact] at hx'
      have hf := fill_len (List.map row l) [D.z, D.z, D.z, D.z, D.z, D.z] (k := k) (by simp; omega)
      refine ⟨?_, fun _ _ => trivial⟩
      simp [wtoFactS.l1, cell_map hx, lt_k hk, w64_k hk (by omega), hf, hx', hs])
    (fun _ _ => by simp [wtoFactS.l1]) () trivial
  rw [unit_go] at key
  have hz := fill_zero (List.map row l) [D.z, D.z, D.z, D.z, D.z, D.z]
  have he := fill_end (List.map row l) [D.z, D.z, D.z, D.z, D.z, D.z]
  rw [List.length_map] at hz he
  rw [he] at key
  simp only [wtoFactS.t, wtoFactS.b, res_zero, res_succ, r_rows, i_int, List.length_map, le_0, le_self, show leI (l.length : Int) 4294967296 = true from leI_iff.2 (by omega), Bool.and_self, Bool.and_true, cond_true, hz]
  exact loop_some key
theorem wtoRevoked_ok (x : Revoked) : wtoRevoked.t [D.st (row x)] = some [D.st (row x)] := by
  simp [wtoRevoked.t, wtoRevoked.b]
theorem wtoRevokedS_ok (l : List Revoked) (h_l : ok l) : wtoRevokedS.t [D.rows (List.map row l)] = some [D.rows (List.map row l)] := by
  have hl : l.length ≤ 16777216 := h_l.1
  have key := iter_list (f := wtoRevokedS.l1) l (fun k (_ : Unit) => [D.int (k : Int), D.rows (List.map row l), D.rows (fillTo (List.map row l) [D.z, D.z] k)]) (fun _ _ => True) (fun _ _ _ => .inl ()) (fun _ => .inl [D.rows (fillTo (List.map row l) [D.z, D.z] l.length)])
    (fun k x _ hx _ => by
      have hk : k < l.length := (List.getElem?_eq_some_iff.1 hx).1
      have hr : (List.map row l)[k]? = some (row x) := by simp [hx]
      have hs := fill_set (Z := [D.z, D.z]) hr rfl
      simp only [row_Revoked] at hs
      have hx' := wtoRevoked_ok x
      simp only [row_Revoked] at hx'
      have hf := fill_len (List.map row l) [D.z, D.z] (k := k) (by simp; omega)
      refine ⟨?_, fun _ _ => trivial⟩
      simp [wtoRevokedS.l1, cell_map hx, lt_k hk, w64_k hk (by omega), hf, hx', hs])
    (fun _ _ => by simp [wtoRevokedS.l1]) () trivial
  rw [unit_go] at key
  have hz := fill_zero (List.map row l) [D.z, D.z]
  have he := fill_end (List.map row l) [D.z, D.z]
  rw [List.length_map] at hz he
  rw [he] at key
  simp only [wtoRevokedS.t, wtoRevokedS.b, res_zero, res_succ, r_rows, i_int, List.length_map, le_0, le_self, show leI (l.length : Int) 4294967296 = true from leI_iff.2 (by omega), Bool.and_self, Bool.and_true, cond_true, hz]
  exact loop_some key
theorem wtoSaved_ok (x : Saved) : wtoSaved.t [D.st (row x)] = some [D.st (row x)] := by
  have g0 := wtoRequest_ok x.Ask 
  simp only [row_Request] at g0
  simp [wtoSaved.t, wtoSaved.b, g0]
theorem wtoSavedS_ok (l : List Saved) (h_l : ok l) : wtoSavedS.t [D.rows (List.map row l)] = some [D.rows (List.map row l)] := by
  have hl : l.length ≤ 16777216 := h_l.1
  have key := iter_list (f := wtoSavedS.l1) l (fun k (_ : Unit) => [D.int (k : Int), D.rows (List.map row l), D.rows (fillTo (List.map row l) [D.z, D.z, D.z, D.z, D.z, D.z, D.z, D.z] k)]) (fun _ _ => True) (fun _ _ _ => .inl ()) (fun _ => .inl [D.rows (fillTo (List.map row l) [D.z, D.z, D.z, D.z, D.z, D.z, D.z, D.z] l.length)])
    (fun k x _ hx _ => by
      have hk : k < l.length := (List.getElem?_eq_some_iff.1 hx).1
      have hr : (List.map row l)[k]? = some (row x) := by simp [hx]
      have hs := fill_set (Z := [D.z, D.z, D.z, D.z, D.z, D.z, D.z, D.z]) hr rfl
      simp only [row_Saved, row_Request] at hs
      have hx' := wtoSaved_ok x
      simp only [row_Saved, row_Request] at hx'
      have hf := fill_len (List.map row l) [D.z, D.z, D.z, D.z, D.z, D.z, D.z, D.z] (k := k) (by simp; omega)
      refine ⟨?_, fun _ _ => trivial⟩
      simp [wtoSavedS.l1, cell_map hx, lt_k hk, w64_k hk (by omega), hf, hx', hs])
    (fun _ _ => by simp [wtoSavedS.l1]) () trivial
  rw [unit_go] at key
  have hz := fill_zero (List.map row l) [D.z, D.z, D.z, D.z, D.z, D.z, D.z, D.z]
  have he := fill_end (List.map row l) [D.z, D.z, D.z, D.z, D.z, D.z, D.z, D.z]
  rw [List.length_map] at hz he
  rw [he] at key
  simp only [wtoSavedS.t, wtoSavedS.b, res_zero, res_succ, r_rows, i_int, List.length_map, le_0, le_self, show leI (l.length : Int) 4294967296 = true from leI_iff.2 (by omega), Bool.and_self, Bool.and_true, cond_true, hz]
  exact loop_some key
theorem wtoPoint_ok (x : Point) (h_x : ok x) : wtoPoint.t [D.st (row x)] = some [D.st (row x)] := by
  have g0 := wtoEpoch_ok x.Epoch h_x.1
  simp only [row_Epoch, row_Policy] at g0
  have g1 := wtoFactS_ok x.Store h_x.2.1
  have g2 := wtoRevokedS_ok x.Revoked h_x.2.2.1
  have g3 := wtoSavedS_ok x.Saved h_x.2.2.2
  simp [wtoPoint.t, wtoPoint.b, g0, g1, g2, g3]
theorem wtoPointS_ok (l : List Point) (h_l : ok l) : wtoPointS.t [D.rows (List.map row l)] = some [D.rows (List.map row l)] := by
  have hl : l.length ≤ 16777216 := h_l.1
  have key := iter_list (f := wtoPointS.l1) l (fun k (_ : Unit) => [D.int (k : Int), D.rows (List.map row l), D.rows (fillTo (List.map row l) [D.z, D.z, D.z, D.z, D.z, D.z, D.z, D.z, D.z, D.z] k)]) (fun _ _ => True) (fun _ _ _ => .inl ()) (fun _ => .inl [D.rows (fillTo (List.map row l) [D.z, D.z, D.z, D.z, D.z, D.z, D.z, D.z, D.z, D.z] l.length)])
    (fun k x _ hx _ => by
      have hk : k < l.length := (List.getElem?_eq_some_iff.1 hx).1
      have hr : (List.map row l)[k]? = some (row x) := by simp [hx]
      have hs := fill_set (Z := [D.z, D.z, D.z, D.z, D.z, D.z, D.z, D.z, D.z, D.z]) hr rfl
      simp only [row_Point, row_Epoch, row_Policy] at hs
      have hx' := wtoPoint_ok x (h_l.2 x (List.mem_of_getElem? hx))
      simp only [row_Point, row_Epoch, row_Policy] at hx'
      have hf := fill_len (List.map row l) [D.z, D.z, D.z, D.z, D.z, D.z, D.z, D.z, D.z, D.z] (k := k) (by simp; omega)
      refine ⟨?_, fun _ _ => trivial⟩
      simp [wtoPointS.l1, cell_map hx, lt_k hk, w64_k hk (by omega), hf, hx', hs])
    (fun _ _ => by simp [wtoPointS.l1]) () trivial
  rw [unit_go] at key
  have hz := fill_zero (List.map row l) [D.z, D.z, D.z, D.z, D.z, D.z, D.z, D.z, D.z, D.z]
  have he := fill_end (List.map row l) [D.z, D.z, D.z, D.z, D.z, D.z, D.z, D.z, D.z, D.z]
  rw [List.length_map] at hz he
  rw [he] at key
  simp only [wtoPointS.t, wtoPointS.b, res_zero, res_succ, r_rows, i_int, List.length_map, le_0, le_self, show leI (l.length : Int) 4294967296 = true from leI_iff.2 (by omega), Bool.and_self, Bool.and_true, cond_true, hz]
  exact loop_some key
theorem wtoCert_ok (x : Cert) : wtoCert.t [D.st (row x)] = some [D.st (row x)] := by
  simp [wtoCert.t, wtoCert.b]
theorem wtoCertS_ok (l : List Cert) (h_l : ok l) : wtoCertS.t [D.rows (List.map row l)] = some [D.rows (List.map row l)] := by
  have hl : l.length ≤ 16777216 := h_l.1
  have key := iter_list (f := wtoCertS.l1) l (fun k (_ : Unit) => [D.int (k : Int), D.rows (List.map row l), D.rows (fillTo (List.map row l) [D.z, D.z, D.z, D.z, D.z, D.z] k)]) (fun _ _ => True) (fun _ _ _ => .inl ()) (fun _ => .inl [D.rows (fillTo (List.map row l) [D.z, D.z, D.z, D.z, D.z, D.z] l.length)])
    (fun k x _ hx _ => by
      have hk : k < l.length := (List.getElem?_eq_some_iff.1 hx).1
      have hr : (List.map row l)[k]? = some (row x) := by simp [hx]
      have hs := fill_set (Z := [D.z, D.z, D.z, D.z, D.z, D.z]) hr rfl
      simp only [row_Cert] at hs
      have hx' := wtoCert_ok x
      simp only [row_Cert] at hx'
      have hf := fill_len (List.map row l) [D.z, D.z, D.z, D.z, D.z, D.z] (k := k) (by simp; omega)
      refine ⟨?_, fun _ _ => trivial⟩
      simp [wtoCertS.l1, cell_map hx, lt_k hk, w64_k hk (by omega), hf, hx', hs])
    (fun _ _ => by simp [wtoCertS.l1]) () trivial
  rw [unit_go] at key
  have hz := fill_zero (List.map row l) [D.z, D.z, D.z, D.z, D.z, D.z]
  have he := fill_end (List.map row l) [D.z, D.z, D.z, D.z, D.z, D.z]
  rw [List.length_map] at hz he
  rw [he] at key
  simp only [wtoCertS.t, wtoCertS.b, res_zero, res_succ, r_rows, i_int, List.length_map, le_0, le_self, show leI (l.length : Int) 4294967296 = true from leI_iff.2 (by omega), Bool.and_self, Bool.and_true, cond_true, hz]
  exact loop_some key
theorem weqRequest_ok (x : Request) : weqRequest.t [D.st (row x), D.st (row x)] = some [D.bool true] := by
  simp [weqRequest.t, weqRequest.b]
theorem weqSession_ok (x : Session) : weqSession.t [D.st (row x), D.st (row x)] = some [D.bool true] := by
  have g0 := weqRequest_ok x.Ask 
  simp only [row_Request] at g0
  simp [weqSession.t, weqSession.b, g0]
theorem weqSessionS_ok (l : List Session) (h_l : ok l) : weqSessionS.t [D.rows (List.map row l), D.rows (List.map row l)] = some [D.bool true] := by
  have hl : l.length ≤ 16777216 := h_l.1
  have key := iter_list (f := weqSessionS.l1) l (fun k (_ : Unit) => [D.int (k : Int), D.rows (List.map row l), D.rows (List.map row l)]) (fun _ _ => True) (fun _ _ _ => .inl ()) (fun _ => .inl [])
    (fun k x _ hx _ => by
      have hk : k < l.length := (List.getElem?_eq_some_iff.1 hx).1
      have hx' := weqSession_ok x
      simp only [row_Session, row_Request] at hx'
      refine ⟨?_, fun _ _ => trivial⟩
      simp [weqSessionS.l1, cell_map hx, lt_k hk, w64_k hk (by omega), hx'])
    (fun _ _ => by simp [weqSessionS.l1]) () trivial
  rw [unit_go] at key
  simp only [weqSessionS.t, weqSessionS.b, res_zero, res_succ, r_rows, i_int, List.length_map, bne_self_eq_false, cond_false]
  exact loop_some key
theorem weqIncludes_ok (x : Includes) : weqIncludes.t [D.st (row x), D.st (row x)] = some [D.bool true] := by
  simp [weqIncludes.t, weqIncludes.b]
theorem weqIncludesS_ok (l : List Includes) (h_l : ok l) : weqIncludesS.t [D.rows (List.map row l), D.rows (List.map row l)] = some [D.bool true] := by
  have hl : l.length ≤ 16777216 := h_l.1
  have key := iter_list (f := weqIncludesS.l1) l (fun k (_ : Unit) => [D.int (k : Int), D.rows (List.map row l), D.rows (List.map row l)]) (fun _ _ => True) (fun _ _ _ => .inl ()) (fun _ => .inl [])
    (fun k x _ hx _ => by
      have hk : k < l.length := (List.getElem?_eq_some_iff.1 hx).1
      have hx' := weqIncludes_ok x
      simp only [row_Includes] at hx'
      refine ⟨?_, fun _ _ => trivial⟩
      simp [weqIncludesS.l1, cell_map hx, lt_k hk, w64_k hk (by omega), hx'])
    (fun _ _ => by simp [weqIncludesS.l1]) () trivial
  rw [unit_go] at key
  simp only [weqIncludesS.t, weqIncludesS.b, res_zero, res_succ, r_rows, i_int, List.length_map, bne_self_eq_false, cond_false]
  exact loop_some key
theorem weqRule_ok (x : Rule) (h_x : ok x) : weqRule.t [D.st (row x), D.st (row x)] = some [D.bool true] := by
  have g0 := weqCond_ok x.Cond h_x
  simp only [row_Cond] at g0
  simp [weqRule.t, weqRule.b, g0]
theorem weqRuleS_ok (l : List Rule) (h_l : ok l) : weqRuleS.t [D.rows (List.map row l), D.rows (List.map row l)] = some [D.bool true] := by
  have hl : l.length ≤ 16777216 := h_l.1
  have key := iter_list (f := weqRuleS.l1) l (fun k (_ : Unit) => [D.int (k : Int), D.rows (List.map row l), D.rows (List.map row l)]) (fun _ _ => True) (fun _ _ _ => .inl ()) (fun _ => .inl [])
    (fun k x _ hx _ => by
      have hk : k < l.length := (List.getElem?_eq_some_iff.1 hx).1
      have hx' := weqRule_ok x (h_l.2 x (List.mem_of_getElem? hx))
      simp only [row_Rule, row_Cond] at hx'
      refine ⟨?_, fun _ _ => trivial⟩
      simp [weqRuleS.l1, cell_map hx, lt_k hk, w64_k hk (by omega), hx'])
    (fun _ _ => by simp [weqRuleS.l1]) () trivial
  rw [unit_go] at key
  simp only [weqRuleS.t, weqRuleS.b, res_zero, res_succ, r_rows, i_int, List.length_map, bne_self_eq_false, cond_false]
  exact loop_some key
theorem weqPolicy_ok (x : Policy) (h_x : ok x) : weqPolicy.t [D.st (row x), D.st (row x)] = some [D.bool true] := by
  have g0 := weqRuleS_ok x.Rules h_x
  simp [weqPolicy.t, weqPolicy.b, g0]
theorem weqEpoch_ok (x : Epoch) (h_x : ok x) : weqEpoch.t [D.st (row x), D.st (row x)] = some [D.bool true] := by
  have g0 := weqIncludesS_ok x.Pairs h_x.1
  have g1 := weqPolicy_ok x.Policy h_x.2
  simp only [row_Policy] at g1
  simp [weqEpoch.t, weqEpoch.b, g0, g1]
theorem weqFact_ok (x : Fact) : weqFact.t [D.st (row x), D.st (row x)] = some [D.bool true] := by
  simp [weqFact.t, weqFact.b]
theorem weqFactS_ok (l : List Fact) (h_l : ok l) : weqFactS.t [D.rows (List.map row l), D.rows (List.map row l)] = some [D.bool true] := by
  have hl : l.length ≤ 16777216 := h_l.1
  have key := iter_list (f := weqFactS.l1) l (fun k (_ : Unit) => [D.int (k : Int), D.rows (List.map row l), D.rows (List.map row l)]) (fun _ _ => True) (fun _ _ _ => .inl ()) (fun _ => .inl [])
    (fun k x _ hx _ => by
      have hk : k < l.length := (List.getElem?_eq_some_iff.1 hx).1
      have hx' := weqFact_ok x
      simp only [row_Fact] at hx'
      refine ⟨?_, fun _ _ => trivial⟩
      simp [weqFactS.l1, cell_map hx, lt_k hk, w64_k hk (by omega), hx'])
    (fun _ _ => by simp [weqFactS.l1]) () trivial
  rw [unit_go] at key
  simp only [weqFactS.t, weqFactS.b, res_zero, res_succ, r_rows, i_int, List.length_map, bne_self_eq_false, cond_false]
  exact loop_some key
theorem weqRevoked_ok (x : Revoked) : weqRevoked.t [D.st (row x), D.st (row x)] = some [D.bool true] := by
  simp [weqRevoked.t, weqRevoked.b]
theorem weqRevokedS_ok (l : List Revoked) (h_l : ok l) : weqRevokedS.t [D.rows (List.map row l), D.rows (List.map row l)] = some [D.bool true] := by
  have hl : l.length ≤ 16777216 := h_l.1
  have key := iter_list (f := weqRevokedS.l1) l (fun k (_ : Unit) => [D.int (k : Int), D.rows (List.map row l), D.rows (List.map row l)]) (fun _ _ => True) (fun _ _ _ => .inl ()) (fun _ => .inl [])
    (fun k x _ hx _ => by
      have hk : k < l.length := (List.getElem?_eq_some_iff.1 hx).1
      have hx' := weqRevoked_ok x
      simp only [row_Revoked] at hx'
      refine ⟨?_, fun _ _ => trivial⟩
      simp [weqRevokedS.l1, cell_map hx, lt_k hk, w64_k hk (by omega), hx'])
    (fun _ _ => by simp [weqRevokedS.l1]) () trivial
  rw [unit_go] at key
  simp only [weqRevokedS.t, weqRevokedS.b, res_zero, res_succ, r_rows, i_int, List.length_map, bne_self_eq_false, cond_false]
  exact loop_some key
theorem weqSaved_ok (x : Saved) : weqSaved.t [D.st (row x), D.st (row x)] = some [D.bool true] := by
  have g0 := weqRequest_ok x.Ask 
  simp only [row_Request] at g0
  simp [weqSaved.t, weqSaved.b, g0]
theorem weqSavedS_ok (l : List Saved) (h_l : ok l) : weqSavedS.t [D.rows (List.map row l), D.rows (List.map row l)] = some [D.bool true] := by
  have hl : l.length ≤ 16777216 := h_l.1
  have key := iter_list (f := weqSavedS.l1) l (fun k (_ : Unit) => [D.int (k : Int), D.rows (List.map row l), D.rows (List.map row l)]) (fun _ _ => True) (fun _ _ _ => .inl ()) (fun _ => .inl [])
    (fun k x _ hx _ => by
      have hk : k < l.length := (List.getElem?_eq_some_iff.1 hx).1
      have hx' := weqSaved_ok x
      simp only [row_Saved, row_Request] at hx'
      refine ⟨?_, fun _ _ => trivial⟩
      simp [weqSavedS.l1, cell_map hx, lt_k hk, w64_k hk (by omega), hx'])
    (fun _ _ => by simp [weqSavedS.l1]) () trivial
  rw [unit_go] at key
  simp only [weqSavedS.t, weqSavedS.b, res_zero, res_succ, r_rows, i_int, List.length_map, bne_self_eq_false, cond_false]
  exact loop_some key
theorem weqPoint_ok (x : Point) (h_x : ok x) : weqPoint.t [D.st (row x), D.st (row x)] = some [D.bool true] := by
  have g0 := weqEpoch_ok x.Epoch h_x.1
  simp only [row_Epoch, row_Policy] at g0
  have g1 := weqFactS_ok x.Store h_x.2.1
  have g2 := weqRevokedS_ok x.Revoked h_x.2.2.1
  have g3 := weqSavedS_ok x.Saved h_x.2.2.2
  simp [weqPoint.t, weqPoint.b, g0, g1, g2, g3]
theorem weqPointS_ok (l : List Point) (h_l : ok l) : weqPointS.t [D.rows (List.map row l), D.rows (List.map row l)] = some [D.bool true] := by
  have hl : l.length ≤ 16777216 := h_l.1
  have key := iter_list (f := weqPointS.l1) l (fun k (_ : Unit) => [D.int (k : Int), D.rows (List.map row l), D.rows (List.map row l)]) (fun _ _ => True) (fun _ _ _ => .inl ()) (fun _ => .inl [])
    (fun k x _ hx _ => by
      have hk : k < l.length := (List.getElem?_eq_some_iff.1 hx).1
      have hx' := weqPoint_ok x (h_l.2 x (List.mem_of_getElem? hx))
      simp only [row_Point, row_Epoch, row_Policy] at hx'
      refine ⟨?_, fun _ _ => trivial⟩
      simp [weqPointS.l1, cell_map hx, lt_k hk, w64_k hk (by omega), hx'])
    (fun _ _ => by simp [weqPointS.l1]) () trivial
  rw [unit_go] at key
  simp only [weqPointS.t, weqPointS.b, res_zero, res_succ, r_rows, i_int, List.length_map, bne_self_eq_false, cond_false]
  exact loop_some key
theorem weqCert_ok (x : Cert) : weqCert.t [D.st (row x), D.st (row x)] = some [D.bool true] := by
  simp [weqCert.t, weqCert.b]
theorem weqCertS_ok (l : List Cert) (h_l : ok l) : weqCertS.t [D.rows (List.map row l), D.rows (List.map row l)] = some [D.bool true] := by
  have hl : l.length ≤ 16777216 := h_l.1
  have key := iter_list (f := weqCertS.l1) l (fun k (_ : Unit) => [D.int (k : Int), D.rows (List.map row l), D.rows (List.map row l)]) (fun _ _ => True) (fun _ _ _ => .inl ()) (fun _ => .inl [])
    (fun k x _ hx _ => by
      have hk : k < l.length := (List.getElem?_eq_some_iff.1 hx).1
      have hx' := weqCert_ok x
      simp only [row_Cert] at hx'
      refine ⟨?_, fun _ _ => trivial⟩
      simp [weqCertS.l1, cell_map hx, lt_k hk, w64_k hk (by omega), hx'])
    (fun _ _ => by simp [weqCertS.l1]) () trivial
  rw [unit_go] at key
  simp only [weqCertS.t, weqCertS.b, res_zero, res_succ, r_rows, i_int, List.length_map, bne_self_eq_false, cond_false]
  exact loop_some key
def markSession (k : Int) (x : Session) : Session × Int :=
  (⟨k, k + 1, k + 1 + 1, ⟨k + 1 + 1 + 1, k + 1 + 1 + 1 + 1, k + 1 + 1 + 1 + 1 + 1, k + 1 + 1 + 1 + 1 + 1 + 1, k + 1 + 1 + 1 + 1 + 1 + 1 + 1, k + 1 + 1 + 1 + 1 + 1 + 1 + 1 + 1⟩, ((k + 1 + 1 + 1 + 1 + 1 + 1 + 1 + 1 + 1).tmod 3 == 0)⟩, k + 1 + 1 + 1 + 1 + 1 + 1 + 1 + 1 + 1 + 1)
theorem markSession_bound (k : Int) (x : Session) : k ≤ (markSession k x).2 ∧ (markSession k x).2 ≤ k + 32 * (1 + wg x) := by
  simp only [markSession, wg_Session, wg_Request]
  omega
theorem wmarkSessionS_ok (l : List Session) (k0 : Int) (h_l : ok l) (h0 : 0 ≤ k0) (h1 : k0 + 32 * wg l ≤ 1099511627776) : wmarkSessionS.t [D.rows (List.map row l), D.int k0] = some [D.int (markList markSession k0 l).2, D.rows (List.map row (markList markSession k0 l).1)] := by
  have hl : l.length ≤ 16777216 := h_l.1
  have key := iter_list (f := wmarkSessionS.l1) l (fun i (s : Int × List Session) => [D.int s.1, D.int (i : Int), D.rows (List.map row (s.2 ++ l.drop i))]) (fun i s => s.2.length = i ∧ 0 ≤ s.1 ∧ s.1 + 32 * wg (l.drop i) ≤ 1099511627776)
    (fun _ x s => .inl ((markSession s.1 x).2, s.2 ++ [(markSession s.1 x).1])) (fun s => .inl [D.int s.1, D.rows (List.map row s.2)])
    (fun i x s hx hI => by
      have hk : i < l.length := (List.getElem?_eq_some_iff.1 hx).1
      have hxl := List.mem_of_getElem? hx
      obtain ⟨hi, hs0, hs1⟩ := hI
      have hd : l.drop i = x :: l.drop (i + 1) := by rw [List.drop_eq_getElem_cons hk]; congr 1; exact (List.getElem?_eq_some_iff.1 hx).2
      have hb := markSession_bound s.1 x
      rw [hd, wg_cons] at hs1
      have hwx := hs1
      simp only [wg_Session, wg_Request] at hwx
      have hA : (List.map row s.2).length = i := by simp [hi]
      have e1 := set_at (List.map row s.2) (List.map row (l.drop (i + 1)))
      have e2 := cell_at (List.map row s.2) (List.map row (l.drop (i + 1)))
      have e3 := setIn_at (List.map row s.2) (List.map row (l.drop (i + 1)))
      simp only [hA] at e1 e2 e3
      have e4 : ∀ r : List D, (List.map row s.2 ++ r :: List.map row (l.drop (i + 1))).length = l.length := by intro r; simp; omega
      refine ⟨?_, ?_⟩
      · simp only [hd, List.map_append, List.map_cons]
        simp (disch := omega) only [wmarkSessionS.l1, arg_zero, arg_succ, i_int, r_rows, Int.toNat_natCast, e4, lt_k hk, le_0, Bool.and_self, cond_true, e1, e2, e3, w64_ok, row_Session, row_Request, splice, List.take, List.drop, List.length_cons, List.length_nil, List.append_eq, List.nil_append, List.cons_append, Nat.zero_add, Nat.reduceAdd, upd, nth_zero, nth_succ, res_zero, res_succ, bind_some]
        simp [markSession]
      · simp only [Sum.inl.injEq]; rintro s' rfl
        refine ⟨by simp [hi], by simp only; omega, by simp only; omega⟩)
    (fun s hI => by obtain ⟨hi, _, _⟩ := hI; simp [wmarkSessionS.l1, hi]) (k0, []) ⟨rfl, h0, h1⟩
  rw [mark_go markSession (fun l => D.rows (List.map row l)) (fun s => [D.int s.1, D.rows (List.map row s.2)])] at key
  simp only [List.nil_append, List.drop_zero] at key
  simp only [wmarkSessionS.t, wmarkSessionS.b, res_zero, res_succ, r_rows, i_int]
  exact loop_some key
def markIncludes (k : Int) (x : Includes) : Includes × Int :=
  (⟨k, k + 1⟩, k + 1 + 1)
theorem markIncludes_bound (k : Int) (x : Includes) : k ≤ (markIncludes k x).2 ∧ (markIncludes k x).2 ≤ k + 32 * (1 + wg x) := by
  simp only [markIncludes, wg_Includes]
  omega
theorem wmarkIncludesS_ok (l : List Includes) (k0 : Int) (h_l : ok l) (h0 : 0 ≤ k0) (h1 : k0 + 32 * wg l ≤ 1099511627776) : wmarkIncludesS.t [D.rows (List.map row l), D.int k0] = some [D.int (markList markIncludes k0 l).2, D.rows (List.map row (markList markIncludes k0 l).1)] := by
  have hl : l.length ≤ 16777216 := h_l.1
  have key := iter_list (f := wmarkIncludesS.l1) l (fun i (s : Int × List Includes) => [D.int s.1, D.int (i : Int), D.rows (List.map row (s.2 ++ l.drop i))]) (fun i s => s.2.length = i ∧ 0 ≤ s.1 ∧ s.1 + 32 * wg (l.drop i) ≤ 1099511627776)
    (fun _ x s => .inl ((markIncludes s.1 x).2, s.2 ++ [(markIncludes s.1 x).1])) (fun s => .inl [D.int s.1, D.rows (List.map row s.2)])
    (fun i x s hx hI => by
      have hk : i < l.length := (List.getElem?_eq_some_iff.1 hx).1
      have hxl := List.mem_of_getElem? hx
      obtain ⟨hi, hs0, hs1⟩ := hI
      have hd : l.drop i = x :: l.drop (i + 1) := by rw [List.drop_eq_getElem_cons hk]; congr 1; exact (List.getElem?_eq_some_iff.1 hx).2
      have hb := markIncludes_bound s.1 x
      rw [hd, wg_cons] at hs1
      have hwx := hs1
      simp only [wg_Includes] at hwx
      have hA : (List.map row s.2).length = i := by simp [hi]
      have e1 := set_at (List.map row s.2) (List.map row (l.drop (i + 1)))
      have e2 := cell_at (List.map row s.2) (List.map row (l.drop (i + 1)))
      have e3 := setIn_at (List.map row s.2) (List.map row (l.drop (i + 1)))
      simp only [hA] at e1 e2 e3
      have e4 : ∀ r : List D, (List.map row s.2 ++ r :: List.map row (l.drop (i + 1))).length = l.length := by intro r; simp; omega
      refine ⟨?_, ?_⟩
      · simp only [hd, List.map_append, List.map_cons]
        simp (disch := omega) only [wmarkIncludesS.l1, arg_zero, arg_succ, i_int, r_rows, Int.toNat_natCast, e4, lt_k hk, le_0, Bool.and_self, cond_true, e1, e2, e3, w64_ok, row_Includes, splice, List.take, List.drop, List.length_cons, List.length_nil, List.append_eq, List.nil_append, List.cons_append, Nat.zero_add, Nat.reduceAdd, upd, nth_zero, nth_succ, res_zero, res_succ, bind_some]
        simp [markIncludes]
      · simp only [Sum.inl.injEq]; rintro s' rfl
        refine ⟨by simp [hi], by simp only; omega, by simp only; omega⟩)
    (fun s hI => by obtain ⟨hi, _, _⟩ := hI; simp [wmarkIncludesS.l1, hi]) (k0, []) ⟨rfl, h0, h1⟩
  rw [mark_go markIncludes (fun l => D.rows (List.map row l)) (fun s => [D.int s.1, D.rows (List.map row s.2)])] at key
  simp only [List.nil_append, List.drop_zero] at key
  simp only [wmarkIncludesS.t, wmarkIncludesS.b, res_zero, res_succ, r_rows, i_int]
  exact loop_some key
def markRule (k : Int) (x : Rule) : Rule × Int :=
  let m0 := markList markCond (k + 1 + 1 + 1 + 1 + 1 + 1) x.Cond.Args
  (⟨k, k + 1, k + 1 + 1, (Cond.mk (k + 1 + 1 + 1) (k + 1 + 1 + 1 + 1) (k + 1 + 1 + 1 + 1 + 1) m0.1)⟩, m0.2)
theorem markRule_bound (k : Int) (x : Rule) : k ≤ (markRule k x).2 ∧ (markRule k x).2 ≤ k + 32 * (1 + wg x) := by
  have b0 := mark_bound markCond markCond_bound x.Cond.Args (k + 1 + 1 + 1 + 1 + 1 + 1)
  simp only [markRule, wg_Rule, wg_Cond]
  omega
theorem wmarkRuleS_ok (l : List Rule) (k0 : Int) (h_l : ok l) (h0 : 0 ≤ k0) (h1 : k0 + 32 * wg l ≤ 1099511627776) : wmarkRuleS.t [D.rows (List.map row l), D.int k0] = some [D.int (markList markRule k0 l).2, D.rows (List.map row (markList markRule k0 l).1)] := by
  have hl : l.length ≤ 16777216 := h_l.1
  have key := iter_list (f := wmarkRuleS.l1) l (fun i (s : Int × List Rule) => [D.int s.1, D.int (i : Int), D.rows (List.map row (s.2 ++ l.drop i))]) (fun i s => s.2.length = i ∧ 0 ≤ s.1 ∧ s.1 + 32 * wg (l.drop i) ≤ 1099511627776)
    (fun _ x s => .inl ((markRule s.1 x).2, s.2 ++ [(markRule s.1 x).1])) (fun s => .inl [D.int s.1, D.rows (List.map row s.2)])
    (fun i x s hx hI => by
      have hk : i < l.length := (List.getElem?_eq_some_iff.1 hx).1
      have hxl := List.mem_of_getElem? hx
      have hok := h_l.2 x hxl
      obtain ⟨hi, hs0, hs1⟩ := hI
      have hd : l.drop i = x :: l.drop (i + 1) := by rw [List.drop_eq_getElem_cons hk]; congr 1; exact (List.getElem?_eq_some_iff.1 hx).2
      have hb := markRule_bound s.1 x
      rw [hd, wg_cons] at hs1
      have hwx := hs1
      simp only [wg_Rule, wg_Cond] at hwx
      have hA : (List.map row s.2).length = i := by simp [hi]
      have e1 := set_at (List.map row s.2) (List.map row (l.drop (i + 1)))
      have e2 := cell_at (List.map row s.2) (List.map row (l.drop (i + 1)))
      have e3 := setIn_at (List.map row s.2) (List.map row (l.drop (i + 1)))
      simp only [hA] at e1 e2 e3
      have e4 : ∀ r : List D, (List.map row s.2 ++ r :: List.map row (l.drop (i + 1))).length = l.length := by intro r; simp; omega
      have b0 := mark_bound markCond markCond_bound x.Cond.Args (s.1 + 1 + 1 + 1 + 1 + 1 + 1)
      have g0 := wmarkCondS_ok x.Cond.Args (s.1 + 1 + 1 + 1 + 1 + 1 + 1) (by have h := ok_cs hok; omega) (by omega) (by omega)
      refine ⟨?_, ?_⟩
      · simp only [hd, List.map_append, List.map_cons]
        simp (disch := omega) only [wmarkRuleS.l1, arg_zero, arg_succ, i_int, r_rows, Int.toNat_natCast, e4, lt_k hk, le_0, Bool.and_self, cond_true, e1, e2, e3, w64_ok, row_Rule, row_Cond, splice, List.take, List.drop, List.length_cons, List.length_nil, List.append_eq, List.nil_append, List.cons_append, Nat.zero_add, Nat.reduceAdd, upd, nth_zero, nth_succ, res_zero, res_succ, bind_some, g0]
        simp [markRule]
      · simp only [Sum.inl.injEq]; rintro s' rfl
        refine ⟨by simp [hi], by simp only; omega, by simp only; omega⟩)
    (fun s hI => by obtain ⟨hi, _, _⟩ := hI; simp [wmarkRuleS.l1, hi]) (k0, []) ⟨rfl, h0, h1⟩
  rw [mark_go markRule (fun l => D.rows (List.map row l)) (fun s => [D.int s.1, D.rows (List.map row s.2)])] at key
  simp only [List.nil_append, List.drop_zero] at key
  simp only [wmarkRuleS.t, wmarkRuleS.b, res_zero, res_succ, r_rows, i_int]
  exact loop_some key
def markFact (k : Int) (x : Fact) : Fact × Int :=
  (⟨k, k + 1, k + 1 + 1, k + 1 + 1 + 1, k + 1 + 1 + 1 + 1, k + 1 + 1 + 1 + 1 + 1⟩, k + 1 + 1 + 1 + 1 + 1 + 1)
theorem markFact_bound (k : Int) (x : Fact) : k ≤ (markFact k x).2 ∧ (markFact k x).2 ≤ k + 32 * (1 + wg x) := by
  simp only [markFact, wg_Fact]
  omega
theorem wmarkFactS_ok (l : List Fact) (k0 : Int) (h_l : ok l) (h0 : 0 ≤ k0) (h1 : k0 + 32 * wg l ≤ 1099511627776) : wmarkFactS.t [D.rows (List.map row l), D.int k0] = some [D.int (markList markFact k0 l).2, D.rows (List.map row (markList markFact k0 l).1)] := by
  have hl : l.length ≤ 16777216 := h_l.1
  have key := iter_list (f := wmarkFactS.l1) l (fun i (s : Int × List Fact) => [D.int s.1, D.int (i : Int), D.rows (List.map row (s.2 ++ l.drop i))]) (fun i s => s.2.length = i ∧ 0 ≤ s.1 ∧ s.1 + 32 * wg (l.drop i) ≤ 1099511627776)
    (fun _ x s => .inl ((markFact s.1 x).2, s.2 ++ [(markFact s.1 x).1])) (fun s => .inl [D.int s.1, D.rows (List.map row s.2)])
    (fun i x s hx hI => by
      have hk : i < l.length := (List.getElem?_eq_some_iff.1 hx).1
      have hxl := List.mem_of_getElem? hx
      obtain ⟨hi, hs0, hs1⟩ := hI
      have hd : l.drop i = x :: l.drop (i + 1) := by rw [List.drop_eq_getElem_cons hk]; congr 1; exact (List.getElem?_eq_some_iff.1 hx).2
      have hb := markFact_bound s.1 x
      rw [hd, wg_cons] at hs1
      have hwx := hs1
      simp only [wg_Fact] at hwx
      have hA : (List.map row s.2).length = i := by simp [hi]
      have e1 := set_at (List.map row s.2) (List.map row (l.drop (i + 1)))
      have e2 := cell_at (List.map row s.2) (List.map row (l.drop (i + 1)))
      have e3 := setIn_at (List.map row s.2) (List.map row (l.drop (i + 1)))
      simp only [hA] at e1 e2 e3
      have e4 : ∀ r : List D, (List.map row s.2 ++ r :: List.map row (l.drop (i + 1))).length = l.length := by intro r; simp; omega
      refine ⟨?_, ?_⟩
      · simp only [hd, List.map_append, List.map_cons]
        simp (disch := omega) only [wmarkFactS.l1, arg_zero, arg_succ, i_int, r_rows, Int.toNat_natCast, e4, lt_k hk, le_0, Bool.and_self, cond_true, e1, e2, e3, w64_ok, row_Fact, splice, List.take, List.drop, List.length_cons, List.length_nil, List.append_eq, List.nil_append, List.cons_append, Nat.zero_add, Nat.reduceAdd, upd, nth_zero, nth_succ, res_zero, res_succ, bind_some]
        simp [markFact]
      · simp only [Sum.inl.injEq]; rintro s' rfl
        refine ⟨by simp [hi], by simp only; omega, by simp only; omega⟩)
    (fun s hI => by obtain ⟨hi, _, _⟩ := hI; simp [wmarkFactS.l1, hi]) (k0, []) ⟨rfl, h0, h1⟩
  rw [mark_go markFact (fun l => D.rows (List.map row l)) (fun s => [D.int s.1, D.rows (List.map row s.2)])] at key
  simp only [List.nil_append, List.drop_zero] at key
  simp only [wmarkFactS.t, wmarkFactS.b, res_zero, res_succ, r_rows, i_int]
  exact loop_some key
def markRevoked (k : Int) (x : Revoked) : Revoked × Int :=
  (⟨k, k + 1⟩, k + 1 + 1)
theorem markRevoked_bound (k : Int) (x : Revoked) : k ≤ (markRevoked k x).2 ∧ (markRevoked k x).2 ≤ k + 32 * (1 + wg x) := by
  simp only [markRevoked, wg_Revoked]
  omega
theorem wmarkRevokedS_ok (l : List Revoked) (k0 : Int) (h_l : ok l) (h0 : 0 ≤ k0) (h1 : k0 + 32 * wg l ≤ 1099511627776) : wmarkRevokedS.t [D.rows (List.map row l), D.int k0] = some [D.int (markList markRevoked k0 l).2, D.rows (List.map row (markList markRevoked k0 l).1)] := by
  have hl : l.length ≤ 16777216 := h_l.1
  have key := iter_list (f := wmarkRevokedS.l1) l (fun i (s : Int × List Revoked) => [D.int s.1, D.int (i : Int), D.rows (List.map row (s.2 ++ l.drop i))]) (fun i s => s.2.length = i ∧ 0 ≤ s.1 ∧ s.1 + 32 * wg (l.drop i) ≤ 1099511627776)
    (fun _ x s => .inl ((markRevoked s.1 x).2, s.2 ++ [(markRevoked s.1 x).1])) (fun s => .inl [D.int s.1, D.rows (List.map row s.2)])
    (fun i x s hx hI => by
      have hk : i < l.length := (List.getElem?_eq_some_iff.1 hx).1
      have hxl := List.mem_of_getElem? hx
      obtain ⟨hi, hs0, hs1⟩ := hI
      have hd : l.drop i = x :: l.drop (i + 1) := by rw [List.drop_eq_getElem_cons hk]; congr 1; exact (List.getElem?_eq_some_iff.1 hx).2
      have hb := markRevoked_bound s.1 x
      rw [hd, wg_cons] at hs1
      have hwx := hs1
      simp only [wg_Revoked] at hwx
      have hA : (List.map row s.2).length = i := by simp [hi]
      have e1 := set_at (List.map row s.2) (List.map row (l.drop (i + 1)))
      have e2 := cell_at (List.map row s.2) (List.map row (l.drop (i + 1)))
      have e3 := setIn_at (List.map row s.2) (List.map row (l.drop (i + 1)))
      simp only [hA] at e1 e2 e3
      have e4 : ∀ r : List D, (List.map row s.2 ++ r :: List.map row (l.drop (i + 1))).length = l.length := by intro r; simp; omega
      refine ⟨?_, ?_⟩
      · simp only [hd, List.map_append, List.map_cons]
        simp (disch := omega) only [wmarkRevokedS.l1, arg_zero, arg_succ, i_int, r_rows, Int.toNat_natCast, e4, lt_k hk, le_0, Bool.and_self, cond_true, e1, e2, e3, w64_ok, row_Revoked, splice, List.take, List.drop, List.length_cons, List.length_nil, List.append_eq, List.nil_append, List.cons_append, Nat.zero_add, Nat.reduceAdd, upd, nth_zero, nth_succ, res_zero, res_succ, bind_some]
        simp [markRevoked]
      · simp only [Sum.inl.injEq]; rintro s' rfl
        refine ⟨by simp [hi], by simp only; omega, by simp only; omega⟩)
    (fun s hI => by obtain ⟨hi, _, _⟩ := hI; simp [wmarkRevokedS.l1, hi]) (k0, []) ⟨rfl, h0, h1⟩
  rw [mark_go markRevoked (fun l => D.rows (List.map row l)) (fun s => [D.int s.1, D.rows (List.map row s.2)])] at key
  simp only [List.nil_append, List.drop_zero] at key
  simp only [wmarkRevokedS.t, wmarkRevokedS.b, res_zero, res_succ, r_rows, i_int]
  exact loop_some key
def markSaved (k : Int) (x : Saved) : Saved × Int :=
  (⟨⟨k, k + 1, k + 1 + 1, k + 1 + 1 + 1, k + 1 + 1 + 1 + 1, k + 1 + 1 + 1 + 1 + 1⟩, k + 1 + 1 + 1 + 1 + 1 + 1, k + 1 + 1 + 1 + 1 + 1 + 1 + 1⟩, k + 1 + 1 + 1 + 1 + 1 + 1 + 1 + 1)
theorem markSaved_bound (k : Int) (x : Saved) : k ≤ (markSaved k x).2 ∧ (markSaved k x).2 ≤ k + 32 * (1 + wg x) := by
  simp only [markSaved, wg_Saved, wg_Request]
  omega
theorem wmarkSavedS_ok (l : List Saved) (k0 : Int) (h_l : ok l) (h0 : 0 ≤ k0) (h1 : k0 + 32 * wg l ≤ 1099511627776) : wmarkSavedS.t [D.rows (List.map row l), D.int k0] = some [D.int (markList markSaved k0 l).2, D.rows (List.map row (markList markSaved k0 l).1)] := by
  have hl : l.length ≤ 16777216 := h_l.1
  have key := iter_list (f := wmarkSavedS.l1) l (fun i (s : Int × List Saved) => [D.int s.1, D.int (i : Int), D.rows (List.map row (s.2 ++ l.drop i))]) (fun i s => s.2.length = i ∧ 0 ≤ s.1 ∧ s.1 + 32 * wg (l.drop i) ≤ 1099511627776)
    (fun _ x s => .inl ((markSaved s.1 x).2, s.2 ++ [(markSaved s.1 x).1])) (fun s => .inl [D.int s.1, D.rows (List.map row s.2)])
    (fun i x s hx hI => by
      have hk : i < l.length := (List.getElem?_eq_some_iff.1 hx).1
      have hxl := List.mem_of_getElem? hx
      obtain ⟨hi, hs0, hs1⟩ := hI
      have hd : l.drop i = x :: l.drop (i + 1) := by rw [List.drop_eq_getElem_cons hk]; congr 1; exact (List.getElem?_eq_some_iff.1 hx).2
      have hb := markSaved_bound s.1 x
      rw [hd, wg_cons] at hs1
      have hwx := hs1
      simp only [wg_Saved, wg_Request] at hwx
      have hA : (List.map row s.2).length = i := by simp [hi]
      have e1 := set_at (List.map row s.2) (List.map row (l.drop (i + 1)))
      have e2 := cell_at (List.map row s.2) (List.map row (l.drop (i + 1)))
      have e3 := setIn_at (List.map row s.2) (List.map row (l.drop (i + 1)))
      simp only [hA] at e1 e2 e3
      have e4 : ∀ r : List D, (List.map row s.2 ++ r :: List.map row (l.drop (i + 1))).length = l.length := by intro r; simp; omega
      refine ⟨?_, ?_⟩
      · simp only [hd, List.map_append, List.map_cons]
        simp (disch := omega) only [wmarkSavedS.l1, arg_zero, arg_succ, i_int, r_rows, Int.toNat_natCast, e4, lt_k hk, le_0, Bool.and_self, cond_true, e1, e2, e3, w64_ok, row_Saved, row_Request, splice, List.take, List.drop, List.length_cons, List.length_nil, List.append_eq, List.nil_append, List.cons_append, Nat.zero_add, Nat.reduceAdd, upd, nth_zero, nth_succ, res_zero, res_succ, bind_some]
        simp [markSaved]
      · simp only [Sum.inl.injEq]; rintro s' rfl
        refine ⟨by simp [hi], by simp only; omega, by simp only; omega⟩)
    (fun s hI => by obtain ⟨hi, _, _⟩ := hI; simp [wmarkSavedS.l1, hi]) (k0, []) ⟨rfl, h0, h1⟩
  rw [mark_go markSaved (fun l => D.rows (List.map row l)) (fun s => [D.int s.1, D.rows (List.map row s.2)])] at key
  simp only [List.nil_append, List.drop_zero] at key
  simp only [wmarkSavedS.t, wmarkSavedS.b, res_zero, res_succ, r_rows, i_int]
  exact loop_some key
def markPoint (k : Int) (x : Point) : Point × Int :=
  let m0 := markList markIncludes (k + 1 + 1 + 1) x.Epoch.Pairs
  let m1 := markList markRule (m0.2 + 1) x.Epoch.Policy.Rules
  let m2 := markList markFact (m1.2) x.Store
  let m3 := markList markRevoked (m2.2) x.Revoked
  let m4 := markList markSaved (m3.2 + 1) x.Saved
  (⟨k, ⟨k + 1, k + 1 + 1, m0.1, ⟨m0.2, m1.1⟩⟩, m2.1, m3.1, m3.2, m4.1⟩, m4.2)
theorem markPoint_bound (k : Int) (x : Point) : k ≤ (markPoint k x).2 ∧ (markPoint k x).2 ≤ k + 32 * (1 + wg x) := by
  have b0 := mark_bound markIncludes markIncludes_bound x.Epoch.Pairs (k + 1 + 1 + 1)
  have b1 := mark_bound markRule markRule_bound x.Epoch.Policy.Rules ((markList markIncludes (k + 1 + 1 + 1) x.Epoch.Pairs).2 + 1)
  have b2 := mark_bound markFact markFact_bound x.Store ((markList markRule ((markList markIncludes (k + 1 + 1 + 1) x.Epoch.Pairs).2 + 1) x.Epoch.Policy.Rules).2)
  have b3 := mark_bound markRevoked markRevoked_bound x.Revoked ((markList markFact ((markList markRule ((markList markIncludes (k + 1 + 1 + 1) x.Epoch.Pairs).2 + 1) x.Epoch.Policy.Rules).2) x.Store).2)
  have b4 := mark_bound markSaved markSaved_bound x.Saved ((markList markRevoked ((markList markFact ((markList markRule ((markList markIncludes (k + 1 + 1 + 1) x.Epoch.Pairs).2 + 1) x.Epoch.Policy.Rules).2) x.Store).2) x.Revoked).2 + 1)
  simp only [markPoint, wg_Point, wg_Epoch, wg_Policy]
  omega
theorem wmarkPointS_ok (l : List Point) (k0 : Int) (h_l : ok l) (h0 : 0 ≤ k0) (h1 : k0 + 32 * wg l ≤ 1099511627776) : wmarkPointS.t [D.rows (List.map row l), D.int k0] = some [D.int (markList markPoint k0 l).2, D.rows (List.map row (markList markPoint k0 l).1)] := by
  have hl : l.length ≤ 16777216 := h_l.1
  have key := iter_list (f := wmarkPointS.l1) l (fun i (s : Int × List Point) => [D.int s.1, D.int (i : Int), D.rows (List.map row (s.2 ++ l.drop i))]) (fun i s => s.2.length = i ∧ 0 ≤ s.1 ∧ s.1 + 32 * wg (l.drop i) ≤ 1099511627776)
    (fun _ x s => .inl ((markPoint s.1 x).2, s.2 ++ [(markPoint s.1 x).1])) (fun s => .inl [D.int s.1, D.rows (List.map row s.2)])
    (fun i x s hx hI => by
      have hk : i < l.length := (List.getElem?_eq_some_iff.1 hx).1
      have hxl := List.mem_of_getElem? hx
      have hok := h_l.2 x hxl
      obtain ⟨hi, hs0, hs1⟩ := hI
      have hd : l.drop i = x :: l.drop (i + 1) := by rw [List.drop_eq_getElem_cons hk]; congr 1; exact (List.getElem?_eq_some_iff.1 hx).2
      have hb := markPoint_bound s.1 x
      rw [hd, wg_cons] at hs1
      have hwx := hs1
      simp only [wg_Point, wg_Epoch, wg_Policy] at hwx
      have hA : (List.map row s.2).length = i := by simp [hi]
      have e1 := set_at (List.map row s.2) (List.map row (l.drop (i + 1)))
      have e2 := cell_at (List.map row s.2) (List.map row (l.drop (i + 1)))
      have e3 := setIn_at (List.map row s.2) (List.map row (l.drop (i + 1)))
      simp only [hA] at e1 e2 e3
      have e4 : ∀ r : List D, (List.map row s.2 ++ r :: List.map row (l.drop (i + 1))).length = l.length := by intro r; simp; omega
      have b0 := mark_bound markIncludes markIncludes_bound x.Epoch.Pairs (s.1 + 1 + 1 + 1)
      have g0 := wmarkIncludesS_ok x.Epoch.Pairs (s.1 + 1 + 1 + 1) hok.1.1 (by omega) (by omega)
      have b1 := mark_bound markRule markRule_bound x.Epoch.Policy.Rules ((markList markIncludes (s.1 + 1 + 1 + 1) x.Epoch.Pairs).2 + 1)
      have g1 := wmarkRuleS_ok x.Epoch.Policy.Rules ((markList markIncludes (s.1 + 1 + 1 + 1) x.Epoch.Pairs).2 + 1) hok.1.2 (by omega) (by omega)
      have b2 := mark_bound markFact markFact_bound x.Store ((markList markRule ((markList markIncludes (s.1 + 1 + 1 + 1) x.Epoch.Pairs).2 + 1) x.Epoch.Policy.Rules).2)
      have g2 := wmarkFactS_ok x.Store ((markList markRule ((markList markIncludes (s.1 + 1 + 1 + 1) x.Epoch.Pairs).2 + 1) x.Epoch.Policy.Rules).2) hok.2.1 (by omega) (by omega)
      have b3 := mark_bound markRevoked markRevoked_bound x.Revoked ((markList markFact ((markList markRule ((markList markIncludes (s.1 + 1 + 1 + 1) x.Epoch.Pairs).2 + 1) x.Epoch.Policy.Rules).2) x.Store).2)
      have g3 := wmarkRevokedS_ok x.Revoked ((markList markFact ((markList markRule ((markList markIncludes (s.1 + 1 + 1 + 1) x.Epoch.Pairs).2 + 1) x.Epoch.Policy.Rules).2) x.Store).2) hok.2.2.1 (by omega) (by omega)
      have b4 := mark_bound markSaved markSaved_bound x.Saved ((markList markRevoked ((markList markFact ((markList markRule ((markList markIncludes (s.1 + 1 + 1 + 1) x.Epoch.Pairs).2 + 1) x.Epoch.Policy.Rules).2) x.Store).2) x.Revoked).2 + 1)
      have g4 := wmarkSavedS_ok x.Saved ((markList markRevoked ((markList markFact ((markList markRule ((markList markIncludes (s.1 + 1 + 1 + 1) x.Epoch.Pairs).2 + 1) x.Epoch.Policy.Rules).2) x.Store).2) x.Revoked).2 + 1) hok.2.2.2 (by omega) (by omega)
      refine ⟨?_, ?_⟩
      · simp only [hd, List.map_append, List.map_cons]
        simp (disch := omega) only [wmarkPointS.l1, arg_zero, arg_succ, i_int, r_rows, Int.toNat_natCast, e4, lt_k hk, le_0, Bool.and_self, cond_true, e1, e2, e3, w64_ok, row_Point, row_Epoch, row_Policy, splice, List.take, List.drop, List.length_cons, List.length_nil, List.append_eq, List.nil_append, List.cons_append, Nat.zero_add, Nat.reduceAdd, upd, nth_zero, nth_succ, res_zero, res_succ, bind_some, g0, g1, g2, g3, g4]
        simp [markPoint]
      · simp only [Sum.inl.injEq]; rintro s' rfl
        refine ⟨by simp [hi], by simp only; omega, by simp only; omega⟩)
    (fun s hI => by obtain ⟨hi, _, _⟩ := hI; simp [wmarkPointS.l1, hi]) (k0, []) ⟨rfl, h0, h1⟩
  rw [mark_go markPoint (fun l => D.rows (List.map row l)) (fun s => [D.int s.1, D.rows (List.map row s.2)])] at key
  simp only [List.nil_append, List.drop_zero] at key
  simp only [wmarkPointS.t, wmarkPointS.b, res_zero, res_succ, r_rows, i_int]
  exact loop_some key
def markCert (k : Int) (x : Cert) : Cert × Int :=
  (⟨k, k + 1, k + 1 + 1, k + 1 + 1 + 1, k + 1 + 1 + 1 + 1, k + 1 + 1 + 1 + 1 + 1⟩, k + 1 + 1 + 1 + 1 + 1 + 1)
theorem markCert_bound (k : Int) (x : Cert) : k ≤ (markCert k x).2 ∧ (markCert k x).2 ≤ k + 32 * (1 + wg x) := by
  simp only [markCert, wg_Cert]
  omega
theorem wmarkCertS_ok (l : List Cert) (k0 : Int) (h_l : ok l) (h0 : 0 ≤ k0) (h1 : k0 + 32 * wg l ≤ 1099511627776) : wmarkCertS.t [D.rows (List.map row l), D.int k0] = some [D.int (markList markCert k0 l).2, D.rows (List.map row (markList markCert k0 l).1)] := by
  have hl : l.length ≤ 16777216 := h_l.1
  have key := iter_list (f := wmarkCertS.l1) l (fun i (s : Int × List Cert) => [D.int s.1, D.int (i : Int), D.rows (List.map row (s.2 ++ l.drop i))]) (fun i s => s.2.length = i ∧ 0 ≤ s.1 ∧ s.1 + 32 * wg (l.drop i) ≤ 1099511627776)
    (fun _ x s => .inl ((markCert s.1 x).2, s.2 ++ [(markCert s.1 x).1])) (fun s => .inl [D.int s.1, D.rows (List.map row s.2)])
    (fun i x s hx hI => by
      have hk : i < l.length := (List.getElem?_eq_some_iff.1 hx).1
      have hxl := List.mem_of_getElem? hx
      obtain ⟨hi, hs0, hs1⟩ := hI
      have hd : l.drop i = x :: l.drop (i + 1) := by rw [List.drop_eq_getElem_cons hk]; congr 1; exact (List.getElem?_eq_some_iff.1 hx).2
      have hb := markCert_bound s.1 x
      rw [hd, wg_cons] at hs1
      have hwx := hs1
      simp only [wg_Cert] at hwx
      have hA : (List.map row s.2).length = i := by simp [hi]
      have e1 := set_at (List.map row s.2) (List.map row (l.drop (i + 1)))
      have e2 := cell_at (List.map row s.2) (List.map row (l.drop (i + 1)))
      have e3 := setIn_at (List.map row s.2) (List.map row (l.drop (i + 1)))
      simp only [hA] at e1 e2 e3
      have e4 : ∀ r : List D, (List.map row s.2 ++ r :: List.map row (l.drop (i + 1))).length = l.length := by intro r; simp; omega
      refine ⟨?_, ?_⟩
      · simp only [hd, List.map_append, List.map_cons]
        simp (disch := omega) only [wmarkCertS.l1, arg_zero, arg_succ, i_int, r_rows, Int.toNat_natCast, e4, lt_k hk, le_0, Bool.and_self, cond_true, e1, e2, e3, w64_ok, row_Cert, splice, List.take, List.drop, List.length_cons, List.length_nil, List.append_eq, List.nil_append, List.cons_append, Nat.zero_add, Nat.reduceAdd, upd, nth_zero, nth_succ, res_zero, res_succ, bind_some]
        simp [markCert]
      · simp only [Sum.inl.injEq]; rintro s' rfl
        refine ⟨by simp [hi], by simp only; omega, by simp only; omega⟩)
    (fun s hI => by obtain ⟨hi, _, _⟩ := hI; simp [wmarkCertS.l1, hi]) (k0, []) ⟨rfl, h0, h1⟩
  rw [mark_go markCert (fun l => D.rows (List.map row l)) (fun s => [D.int s.1, D.rows (List.map row s.2)])] at key
  simp only [List.nil_append, List.drop_zero] at key
  simp only [wmarkCertS.t, wmarkCertS.b, res_zero, res_succ, r_rows, i_int]
  exact loop_some key
theorem wheldSessionS_ok (l : List Session) (k0 : Int) (h_l : ok l) (h0 : 0 ≤ k0) (h1 : k0 + 32 * wg l ≤ 1099511627776) : wheldSessionS.t [D.rows (List.map row (markList markSession k0 l).1), D.int k0] = some [D.int (markList markSession k0 l).2] := by
  have hl : l.length ≤ 16777216 := h_l.1
  have hml := markList_len markSession l k0
  have key := iter_list (f := wheldSessionS.l1) (markList markSession k0 l).1 (fun i (s : Int) => [D.int s, D.int (i : Int), D.rows (List.map row (markList markSession k0 l).1)]) (fun i s => s = (markList markSession k0 (l.take i)).2)
    (fun i _ _ => .inl (markList markSession k0 (l.take (i + 1))).2) (fun s => .inl [D.int s])
    (fun i x s hx hI => by
      have hk : i < (markList markSession k0 l).1.length := (List.getElem?_eq_some_iff.1 hx).1
      obtain ⟨y, hy, hxe, hnx⟩ := mark_get markSession l k0 i x hx
      rw [← hI] at hxe hnx
      have hb0 := mark_bound markSession markSession_bound (l.take i) k0
      rw [← hI] at hb0
      have hb := markSession_bound s y
      have hwx := wg_take l i y hy
      have hs1 : s + 32 * (1 + wg y) ≤ 1099511627776 := by omega
      simp only [wg_Session, wg_Request] at hs1
      refine ⟨?_, fun s' h => ?_⟩
      · rw [hnx]
        simp (disch := omega) only [wheldSessionS.l1, arg_zero, arg_succ, i_int, b_bool, r_rows, Int.toNat_natCast, List.length_map, lt_k hk, le_0, Bool.and_self, cond_true, cell_map hx, w64_ok, row_Session, row_Request, hxe, markSession, nth_zero, nth_succ, bne_self_eq_false, beq_self_eq_true, Bool.not_true, cond_false, res_zero, res_succ, bind_some]
        simp
      · simp only [Sum.inl.injEq] at h; exact h.symm)
    (fun s hI => by simp [wheldSessionS.l1]) k0 (by simp [markList])
  have h0e : k0 = (markList markSession k0 (l.take 0)).2 := by simp [markList]
  have hgo := at_go (B := List D ⊕ List D) (fun i => (markList markSession k0 (l.take i)).2) (e := fun s => .inl [D.int s]) (markList markSession k0 l).1 0
  try simp only at hgo
  rw [← h0e] at hgo
  rw [hgo] at key
  simp only [Nat.zero_add, hml, List.take_length] at key
  simp only [wheldSessionS.t, wheldSessionS.b, res_zero, res_succ, r_rows, i_int]
  exact loop_some key
def smarkPolicy (k : Int) (x : Policy) : Policy × Int :=
  let m0 := markList markRule (k) x.Rules
  (⟨x.Version, m0.1⟩, m0.2)
@[simp] theorem smarkPolicy_Version (k : Int) (x : Policy) : (smarkPolicy k x).1.Version = x.Version := rfl
theorem smarkPolicy_bound (k : Int) (x : Policy) : k ≤ (smarkPolicy k x).2 ∧ (smarkPolicy k x).2 ≤ k + 32 * wg x := by
  have b0 := mark_bound markRule markRule_bound x.Rules (k)
  simp only [smarkPolicy, wg_Policy]
  omega
theorem wmarkPolicy_ok (x : Policy) (k0 : Int) (h_x : ok x) (h0 : 0 ≤ k0) (h1 : k0 + 32 * wg x ≤ 1099511627776) : wmarkPolicy.t [D.st (row x), D.int k0] = some [D.int (smarkPolicy k0 x).2, D.st (row (smarkPolicy k0 x).1)] := by
  rw [wg_Policy] at h1
  have b0 := mark_bound markRule markRule_bound x.Rules (k0)
  have g0 := wmarkRuleS_ok x.Rules (k0) h_x (by omega) (by omega)
  simp [wmarkPolicy.t, wmarkPolicy.b, smarkPolicy, g0]
def smarkEpoch (k : Int) (x : Epoch) : Epoch × Int :=
  let m0 := markList markIncludes (k) x.Pairs
  let m1 := smarkPolicy (m0.2) x.Policy
  (⟨x.Number, x.At, m0.1, m1.1⟩, m1.2)
@[simp] theorem smarkEpoch_Number (k : Int) (x : Epoch) : (smarkEpoch k x).1.Number = x.Number := rfl
@[simp] theorem smarkEpoch_At (k : Int) (x : Epoch) : (smarkEpoch k x).1.At = x.At := rfl
@[simp] theorem smarkEpoch_Policy_Version (k : Int) (x : Epoch) : (smarkEpoch k x).1.Policy.Version = x.Policy.Version := rfl
theorem smarkEpoch_bound (k : Int) (x : Epoch) : k ≤ (smarkEpoch k x).2 ∧ (smarkEpoch k x).2 ≤ k + 32 * wg x := by
  have b0 := mark_bound markIncludes markIncludes_bound x.Pairs (k)
  have b1 := smarkPolicy_bound ((markList markIncludes (k) x.Pairs).2) x.Policy
  simp only [smarkEpoch, wg_Epoch]
  omega
theorem wmarkEpoch_ok (x : Epoch) (k0 : Int) (h_x : ok x) (h0 : 0 ≤ k0) (h1 : k0 + 32 * wg x ≤ 1099511627776) : wmarkEpoch.t [D.st (row x), D.int k0] = some [D.int (smarkEpoch k0 x).2, D.st (row (smarkEpoch k0 x).1)] := by
  rw [wg_Epoch] at h1
  have b0 := mark_bound markIncludes markIncludes_bound x.Pairs (k0)
  have g0 := wmarkIncludesS_ok x.Pairs (k0) h_x.1 (by omega) (by omega)
  have b1 := smarkPolicy_bound ((markList markIncludes (k0) x.Pairs).2) x.Policy
  have g1 := wmarkPolicy_ok x.Policy ((markList markIncludes (k0) x.Pairs).2) h_x.2 (by omega) (by omega)
  simp only [row_Policy, smarkPolicy_Version] at g1
  simp [wmarkEpoch.t, wmarkEpoch.b, smarkEpoch, g0, g1]
def smarkPoint (k : Int) (x : Point) : Point × Int :=
  let m0 := smarkEpoch (k) x.Epoch
  let m1 := markList markFact (m0.2) x.Store
  let m2 := markList markRevoked (m1.2) x.Revoked
  let m3 := markList markSaved (m2.2) x.Saved
  (⟨x.Id, m0.1, m1.1, m2.1, x.SyncedAt, m3.1⟩, m3.2)
@[simp] theorem smarkPoint_Id (k : Int) (x : Point) : (smarkPoint k x).1.Id = x.Id := rfl
@[simp] theorem smarkPoint_Epoch_Number (k : Int) (x : Point) : (smarkPoint k x).1.Epoch.Number = x.Epoch.Number := rfl
@[simp] theorem smarkPoint_Epoch_At (k : Int) (x : Point) : (smarkPoint k x).1.Epoch.At = x.Epoch.At := rfl
@[simp] theorem smarkPoint_Epoch_Policy_Version (k : Int) (x : Point) : (smarkPoint k x).1.Epoch.Policy.Version = x.Epoch.Policy.Version := rfl
@[simp] theorem smarkPoint_SyncedAt (k : Int) (x : Point) : (smarkPoint k x).1.SyncedAt = x.SyncedAt := rfl
theorem smarkPoint_bound (k : Int) (x : Point) : k ≤ (smarkPoint k x).2 ∧ (smarkPoint k x).2 ≤ k + 32 * wg x := by
  have b0 := smarkEpoch_bound (k) x.Epoch
  have b1 := mark_bound markFact markFact_bound x.Store ((smarkEpoch (k) x.Epoch).2)
  have b2 := mark_bound markRevoked markRevoked_bound x.Revoked ((markList markFact ((smarkEpoch (k) x.Epoch).2) x.Store).2)
  have b3 := mark_bound markSaved markSaved_bound x.Saved ((markList markRevoked ((markList markFact ((smarkEpoch (k) x.Epoch).2) x.Store).2) x.Revoked).2)
  simp only [smarkPoint, wg_Point]
  omega
theorem wmarkPoint_ok (x : Point) (k0 : Int) (h_x : ok x) (h0 : 0 ≤ k0) (h1 : k0 + 32 * wg x ≤ 1099511627776) : wmarkPoint.t [D.st (row x), D.int k0] = some [D.int (smarkPoint k0 x).2, D.st (row (smarkPoint k0 x).1)] := by
  rw [wg_Point] at h1
  have b0 := smarkEpoch_bound (k0) x.Epoch
  have g0 := wmarkEpoch_ok x.Epoch (k0) h_x.1 (by omega) (by omega)
  simp only [row_Epoch, row_Policy, smarkEpoch_Number, smarkEpoch_At, smarkEpoch_Policy_Version] at g0
  have b1 := mark_bound markFact markFact_bound x.Store ((smarkEpoch (k0) x.Epoch).2)
  have g1 := wmarkFactS_ok x.Store ((smarkEpoch (k0) x.Epoch).2) h_x.2.1 (by omega) (by omega)
  have b2 := mark_bound markRevoked markRevoked_bound x.Revoked ((markList markFact ((smarkEpoch (k0) x.Epoch).2) x.Store).2)
  have g2 := wmarkRevokedS_ok x.Revoked ((markList markFact ((smarkEpoch (k0) x.Epoch).2) x.Store).2) h_x.2.2.1 (by omega) (by omega)
  have b3 := mark_bound markSaved markSaved_bound x.Saved ((markList markRevoked ((markList markFact ((smarkEpoch (k0) x.Epoch).2) x.Store).2) x.Revoked).2)
  have g3 := wmarkSavedS_ok x.Saved ((markList markRevoked ((markList markFact ((smarkEpoch (k0) x.Epoch).2) x.Store).2) x.Revoked).2) h_x.2.2.2 (by omega) (by omega)
  simp [wmarkPoint.t, wmarkPoint.b, smarkPoint, g0, g1, g2, g3]
theorem wheldIncludesS_ok (l : List Includes) (k0 : Int) (h_l : ok l) (h0 : 0 ≤ k0) (h1 : k0 + 32 * wg l ≤ 1099511627776) : wheldIncludesS.t [D.rows (List.map row (markList markIncludes k0 l).1), D.int k0] = some [D.int (markList markIncludes k0 l).2] := by
  have hl : l.length ≤ 16777216 := h_l.1
  have hml := markList_len markIncludes l k0
  have key := iter_list (f := wheldIncludesS.l1) (markList markIncludes k0 l).1 (fun i (s : Int) => [D.int s, D.int (i : Int), D.rows (List.map row (markList markIncludes k0 l).1)]) (fun i s => s = (markList markIncludes k0 (l.take i)).2)
    (fun i _ _ => .inl (markList markIncludes k0 (l.take (i + 1))).2) (fun s => .inl [D.int s])
    (fun i x s hx hI => by
      have hk : i < (markList markIncludes k0 l).1.length := (List.getElem?_eq_some_iff.1 hx).1
      obtain ⟨y, hy, hxe, hnx⟩ := mark_get markIncludes l k0 i x hx
      rw [← hI] at hxe hnx
      have hb0 := mark_bound markIncludes markIncludes_bound (l.take i) k0
      rw [← hI] at hb0
      have hb := markIncludes_bound s y
      have hwx := wg_take l i y hy
      have hs1 : s + 32 * (1 + wg y) ≤ 1099511627776 := by omega
      simp only [wg_Includes] at hs1
      refine ⟨?_, fun s' h => ?_⟩
      · rw [hnx]
        simp (disch := omega) only [wheldIncludesS.l1, arg_zero, arg_succ, i_int, b_bool, r_rows, Int.toNat_natCast, List.length_map, lt_k hk, le_0, Bool.and_self, cond_true, cell_map hx, w64_ok, row_Includes, hxe, markIncludes, nth_zero, nth_succ, bne_self_eq_false, beq_self_eq_true, Bool.not_true, cond_false, res_zero, res_succ, bind_some]
        simp
      · simp only [Sum.inl.injEq] at h; exact h.symm)
    (fun s hI => by simp [wheldIncludesS.l1]) k0 (by simp [markList])
  have h0e : k0 = (markList markIncludes k0 (l.take 0)).2 := by simp [markList]
  have hgo := at_go (B := List D ⊕ List D) (fun i => (markList markIncludes k0 (l.take i)).2) (e := fun s => .inl [D.int s]) (markList markIncludes k0 l).1 0
  try simp only at hgo
  rw [← h0e] at hgo
  rw [hgo] at key
  simp only [Nat.zero_add, hml, List.take_length] at key
  simp only [wheldIncludesS.t, wheldIncludesS.b, res_zero, res_succ, r_rows, i_int]
  exact loop_some key
theorem wheldRuleS_ok (l : List Rule) (k0 : Int) (h_l : ok l) (h0 : 0 ≤ k0) (h1 : k0 + 32 * wg l ≤ 1099511627776) : wheldRuleS.t [D.rows (List.map row (markList markRule k0 l).1), D.int k0] = some [D.int (markList markRule k0 l).2] := by
  have hl : l.length ≤ 16777216 := h_l.1
  have hml := markList_len markRule l k0
  have key := iter_list (f := wheldRuleS.l1) (markList markRule k0 l).1 (fun i (s : Int) => [D.int s, D.int (i : Int), D.rows (List.map row (markList markRule k0 l).1)]) (fun i s => s = (markList markRule k0 (l.take i)).2)
    (fun i _ _ => .inl (markList markRule k0 (l.take (i + 1))).2) (fun s => .inl [D.int s])
    (fun i x s hx hI => by
      have hk : i < (markList markRule k0 l).1.length := (List.getElem?_eq_some_iff.1 hx).1
      obtain ⟨y, hy, hxe, hnx⟩ := mark_get markRule l k0 i x hx
      rw [← hI] at hxe hnx
      have hok := h_l.2 y (List.mem_of_getElem? hy)
      have hb0 := mark_bound markRule markRule_bound (l.take i) k0
      rw [← hI] at hb0
      have hb := markRule_bound s y
      have hwx := wg_take l i y hy
      have hs1 : s + 32 * (1 + wg y) ≤ 1099511627776 := by omega
      simp only [wg_Rule, wg_Cond] at hs1
      have b0 := mark_bound markCond markCond_bound y.Cond.Args (s + 1 + 1 + 1 + 1 + 1 + 1)
      have g0 := wheldCondS_ok y.Cond.Args (s + 1 + 1 + 1 + 1 + 1 + 1) (by have h := ok_cs hok; omega) (by omega) (by omega)
      have l0 : ltI (markList markCond (s + 1 + 1 + 1 + 1 + 1 + 1) y.Cond.Args).2 0 = false := lt_sub (by omega)
      refine ⟨?_, fun s' h => ?_⟩
      · rw [hnx]
        simp (disch := omega) only [wheldRuleS.l1, arg_zero, arg_succ, i_int, b_bool, r_rows, Int.toNat_natCast, List.length_map, lt_k hk, le_0, Bool.and_self, cond_true, cell_map hx, w64_ok, row_Rule, row_Cond, hxe, markRule, nth_zero, nth_succ, bne_self_eq_false, beq_self_eq_true, Bool.not_true, cond_false, res_zero, res_succ, bind_some, g0, l0]
        simp [g0, l0]
      · simp only [Sum.inl.injEq] at h; exact h.symm)
    (fun s hI => by simp [wheldRuleS.l1]) k0 (by simp [markList])
  have h0e : k0 = (markList markRule k0 (l.take 0)).2 := by simp [markList]
  have hgo := at_go (B := List D ⊕ List D) (fun i => (markList markRule k0 (l.take i)).2) (e := fun s => .inl [D.int s]) (markList markRule k0 l).1 0
  try simp only at hgo
  rw [← h0e] at hgo
  rw [hgo] at key
  simp only [Nat.zero_add, hml, List.take_length] at key
  simp only [wheldRuleS.t, wheldRuleS.b, res_zero, res_succ, r_rows, i_int]
  exact loop_some key
theorem wheldPolicy_ok (x : Policy) (k0 : Int) (h_x : ok x) (h0 : 0 ≤ k0) (h1 : k0 + 32 * wg x ≤ 1099511627776) : wheldPolicy.t [D.st (row (smarkPolicy k0 x).1), D.int k0] = some [D.int (smarkPolicy k0 x).2] := by
  rw [wg_Policy] at h1
  have b0 := mark_bound markRule markRule_bound x.Rules (k0)
  have g0 := wheldRuleS_ok x.Rules (k0) h_x (by omega) (by omega)
  have l0 : ltI (markList markRule (k0) x.Rules).2 0 = false := lt_sub (by omega)
  simp [wheldPolicy.t, wheldPolicy.b, smarkPolicy, g0, l0]
theorem wheldEpoch_ok (x : Epoch) (k0 : Int) (h_x : ok x) (h0 : 0 ≤ k0) (h1 : k0 + 32 * wg x ≤ 1099511627776) : wheldEpoch.t [D.st (row (smarkEpoch k0 x).1), D.int k0] = some [D.int (smarkEpoch k0 x).2] := by
  rw [wg_Epoch] at h1
  have b0 := mark_bound markIncludes markIncludes_bound x.Pairs (k0)
  have g0 := wheldIncludesS_ok x.Pairs (k0) h_x.1 (by omega) (by omega)
  have l0 : ltI (markList markIncludes (k0) x.Pairs).2 0 = false := lt_sub (by omega)
  have b1 := smarkPolicy_bound ((markList markIncludes (k0) x.Pairs).2) x.Policy
  have g1 := wheldPolicy_ok x.Policy ((markList markIncludes (k0) x.Pairs).2) h_x.2 (by omega) (by omega)
  simp only [row_Policy, smarkPolicy_Version] at g1
  have l1 : ltI (smarkPolicy ((markList markIncludes (k0) x.Pairs).2) x.Policy).2 0 = false := lt_sub (by omega)
  simp [wheldEpoch.t, wheldEpoch.b, smarkEpoch, g0, l0, g1, l1]
theorem wheldFactS_ok (l : List Fact) (k0 : Int) (h_l : ok l) (h0 : 0 ≤ k0) (h1 : k0 + 32 * wg l ≤ 1099511627776) : wheldFactS.t [D.rows (List.map row (markList markFact k0 l).1), D.int k0] = some [D.int (markList markFact k0 l).2] := by
  have hl : l.length ≤ 16777216 := h_l.1
  have hml := markList_len markFact l k0
  have key := iter_list (f := wheldFactS.l1) (markList markFact k0 l).1 (fun i (s : Int) => [D.int s, D.int (i : Int), D.rows (List.map row (markList markFact k0 l).1)]) (fun i s => s = (markList markFact k0 (l.take i)).2)
    (fun i _ _ => .inl (markList markFact k0 (l.take (i + 1))).2) (fun s => .inl [D.int s])
    (fun i x s hx hI => by
      have hk : i < (markList markFact k0 l).1.length := (List.getElem?_eq_some_iff.1 hx).1
      obtain ⟨y, hy, hxe, hnx⟩ := mark_get markFact l k0 i x hx
      rw [← hI] at hxe hnx
      have hb0 := mark_bound markFact markFact_bound (l.take i) k0
      rw [← hI] at hb0
      have hb := markFact_bound s y
      have hwx := wg_take l i y hy
      have hs1 : s + 32 * (1 + wg y) ≤ 1099511627776 := by omega
      simp only [wg_Fact] at hs1
      refine ⟨?_, fun s' h => ?_⟩
      · rw [hnx]
        simp (disch := omega) only [wheldFactS.l1, arg_zero, arg_succ, i_int, b_bool, r_rows, Int.toNat_natCast, List.length_map, lt_k hk, le_0, Bool.and_self, cond_true, cell_map hx, w64_ok, row_Fact, hxe, markFact, nth_zero, nth_succ, bne_self_eq_false, beq_self_eq_true, Bool.not_true, cond_false, res_zero, res_succ, bind_some]
        simp
      · simp only [Sum.inl.injEq] at h; exact h.symm)
    (fun s hI => by simp [wheldFactS.l1]) k0 (by simp [markList])
  have h0e : k0 = (markList markFact k0 (l.take 0)).2 := by simp [markList]
  have hgo := at_go (B := List D ⊕ List D) (fun i => (markList markFact k0 (l.take i)).2) (e := fun s => .inl [D.int s]) (markList markFact k0 l).1 0
  try simp only at hgo
  rw [← h0e] at hgo
  rw [hgo] at key
  simp only [Nat.zero_add, hml, List.take_length] at key
  simp only [wheldFactS.t, wheldFactS.b, res_zero, res_succ, r_rows, i_int]
  exact loop_some key
theorem wheldRevokedS_ok (l : List Revoked) (k0 : Int) (h_l : ok l) (h0 : 0 ≤ k0) (h1 : k0 + 32 * wg l ≤ 1099511627776) : wheldRevokedS.t [D.rows (List.map row (markList markRevoked k0 l).1), D.int k0] = some [D.int (markList markRevoked k0 l).2] := by
  have hl : l.length ≤ 16777216 := h_l.1
  have hml := markList_len markRevoked l k0
  have key := iter_list (f := wheldRevokedS.l1) (markList markRevoked k0 l).1 (fun i (s : Int) => [D.int s, D.int (i : Int), D.rows (List.map row (markList markRevoked k0 l).1)]) (fun i s => s = (markList markRevoked k0 (l.take i)).2)
    (fun i _ _ => .inl (markList markRevoked k0 (l.take (i + 1))).2) (fun s => .inl [D.int s])
    (fun i x s hx hI => by
      have hk : i < (markList markRevoked k0 l).1.length := (List.getElem?_eq_some_iff.1 hx).1
      obtain ⟨y, hy, hxe, hnx⟩ := mark_get markRevoked l k0 i x hx
      rw [← hI] at hxe hnx
      have hb0 := mark_bound markRevoked markRevoked_bound (l.take i) k0
      rw [← hI] at hb0
      have hb := markRevoked_bound s y
      have hwx := wg_take l i y hy
      have hs1 : s + 32 * (1 + wg y) ≤ 1099511627776 := by omega
      simp only [wg_Revoked] at hs1
      refine ⟨?_, fun s' h => ?_⟩
      · rw [hnx]
        simp (disch := omega) only [wheldRevokedS.l1, arg_zero, arg_succ, i_int, b_bool, r_rows, Int.toNat_natCast, List.length_map, lt_k hk, le_0, Bool.and_self, cond_true, cell_map hx, w64_ok, row_Revoked, hxe, markRevoked, nth_zero, nth_succ, bne_self_eq_false, beq_self_eq_true, Bool.not_true, cond_false, res_zero, res_succ, bind_some]
        simp
      · simp only [Sum.inl.injEq] at h; exact h.symm)
    (fun s hI => by simp [wheldRevokedS.l1]) k0 (by simp [markList])
  have h0e : k0 = (markList markRevoked k0 (l.take 0)).2 := by simp [markList]
  have hgo := at_go (B := List D ⊕ List D) (fun i => (markList markRevoked k0 (l.take i)).2) (e := fun s => .inl [D.int s]) (markList markRevoked k0 l).1 0
  try simp only at hgo
  rw [← h0e] at hgo
  rw [hgo] at key
  simp only [Nat.zero_add, hml, List.take_length] at key
  simp only [wheldRevokedS.t, wheldRevokedS.b, res_zero, res_succ, r_rows, i_int]
  exact loop_some key
theorem wheldSavedS_ok (l : List Saved) (k0 : Int) (h_l : ok l) (h0 : 0 ≤ k0) (h1 : k0 + 32 * wg l ≤ 1099511627776) : wheldSavedS.t [D.rows (List.map row (markList markSaved k0 l).1), D.int k0] = some [D.int (markList markSaved k0 l).2] := by
  have hl : l.length ≤ 16777216 := h_l.1
  have hml := markList_len markSaved l k0
  have key := iter_list (f := wheldSavedS.l1) (markList markSaved k0 l).1 (fun i (s : Int) => [D.int s, D.int (i : Int), D.rows (List.map row (markList markSaved k0 l).1)]) (fun i s => s = (markList markSaved k0 (l.take i)).2)
    (fun i _ _ => .inl (markList markSaved k0 (l.take (i + 1))).2) (fun s => .inl [D.int s])
    (fun i x s hx hI => by
      have hk : i < (markList markSaved k0 l).1.length := (List.getElem?_eq_some_iff.1 hx).1
      obtain ⟨y, hy, hxe, hnx⟩ := mark_get markSaved l k0 i x hx
      rw [← hI] at hxe hnx
      have hb0 := mark_bound markSaved markSaved_bound (l.take i) k0
      rw [← hI] at hb0
      have hb := markSaved_bound s y
      have hwx := wg_take l i y hy
      have hs1 : s + 32 * (1 + wg y) ≤ 1099511627776 := by omega
      simp only [wg_Saved, wg_Request] at hs1
      refine ⟨?_, fun s' h => ?_⟩
      · rw [hnx]
        simp (disch := omega) only [wheldSavedS.l1, arg_zero, arg_succ, i_int, b_bool, r_rows, Int.toNat_natCast, List.length_map, lt_k hk, le_0, Bool.and_self, cond_true, cell_map hx, w64_ok, row_Saved, row_Request, hxe, markSaved, nth_zero, nth_succ, bne_self_eq_false, beq_self_eq_true, Bool.not_true, cond_false, res_zero, res_succ, bind_some]
        simp
      · simp only [Sum.inl.injEq] at h; exact h.symm)
    (fun s hI => by simp [wheldSavedS.l1]) k0 (by simp [markList])
  have h0e : k0 = (markList markSaved k0 (l.take 0)).2 := by simp [markList]
  have hgo := at_go (B := List D ⊕ List D) (fun i => (markList markSaved k0 (l.take i)).2) (e := fun s => .inl [D.int s]) (markList markSaved k0 l).1 0
  try simp only at hgo
  rw [← h0e] at hgo
  rw [hgo] at key
  simp only [Nat.zero_add, hml, List.take_length] at key
  simp only [wheldSavedS.t, wheldSavedS.b, res_zero, res_succ, r_rows, i_int]
  exact loop_some key
theorem wheldPoint_ok (x : Point) (k0 : Int) (h_x : ok x) (h0 : 0 ≤ k0) (h1 : k0 + 32 * wg x ≤ 1099511627776) : wheldPoint.t [D.st (row (smarkPoint k0 x).1), D.int k0] = some [D.int (smarkPoint k0 x).2] := by
  rw [wg_Point] at h1
  have b0 := smarkEpoch_bound (k0) x.Epoch
  have g0 := wheldEpoch_ok x.Epoch (k0) h_x.1 (by omega) (by omega)
  simp only [row_Epoch, row_Policy, smarkEpoch_Number, smarkEpoch_At, smarkEpoch_Policy_Version] at g0
  have l0 : ltI (smarkEpoch (k0) x.Epoch).2 0 = false := lt_sub (by omega)
  have b1 := mark_bound markFact markFact_bound x.Store ((smarkEpoch (k0) x.Epoch).2)
  have g1 := wheldFactS_ok x.Store ((smarkEpoch (k0) x.Epoch).2) h_x.2.1 (by omega) (by omega)
  have l1 : ltI (markList markFact ((smarkEpoch (k0) x.Epoch).2) x.Store).2 0 = false := lt_sub (by omega)
  have b2 := mark_bound markRevoked markRevoked_bound x.Revoked ((markList markFact ((smarkEpoch (k0) x.Epoch).2) x.Store).2)
  have g2 := wheldRevokedS_ok x.Revoked ((markList markFact ((smarkEpoch (k0) x.Epoch).2) x.Store).2) h_x.2.2.1 (by omega) (by omega)
  have l2 : ltI (markList markRevoked ((markList markFact ((smarkEpoch (k0) x.Epoch).2) x.Store).2) x.Revoked).2 0 = false := lt_sub (by omega)
  have b3 := mark_bound markSaved markSaved_bound x.Saved ((markList markRevoked ((markList markFact ((smarkEpoch (k0) x.Epoch).2) x.Store).2) x.Revoked).2)
  have g3 := wheldSavedS_ok x.Saved ((markList markRevoked ((markList markFact ((smarkEpoch (k0) x.Epoch).2) x.Store).2) x.Revoked).2) h_x.2.2.2 (by omega) (by omega)
  have l3 : ltI (markList markSaved ((markList markRevoked ((markList markFact ((smarkEpoch (k0) x.Epoch).2) x.Store).2) x.Revoked).2) x.Saved).2 0 = false := lt_sub (by omega)
  simp [wheldPoint.t, wheldPoint.b, smarkPoint, g0, l0, g1, l1, g2, l2, g3, l3]
end Acc
end
section
/- FnExactStartSession. -/
namespace Acc
open Go Go.Ev
theorem AskPoint_cases (p : Point) (s : Int) (x : Cert) (q : Request) : (AskPoint p s x q).1 = p ∨ ∃ y, (AskPoint p s x q).1 = { p with Saved := PutSaved p.Saved y } := by
  unfold AskPoint
  cases IsRequest q && (CheckCert s x q.Now && x.Subject == q.Device)
  · exact .inl rfl
  cases IsCurrent p q.Now
  · exact .inl rfl
  cases IsRevoked p.Revoked x.Serial q.Now
  · cases p.Saved.find? (savedFits q)
    · exact .inr ⟨_, rfl⟩
    · exact .inl rfl
  · exact .inl rfl
theorem AskPoint_wg (p : Point) (s : Int) (x : Cert) (q : Request) : wg (AskPoint p s x q).1 ≤ wg p + 1 := by
  rcases AskPoint_cases p s x q with e | ⟨y, e⟩
  · rw [e]; omega
  · rw [e, wg_Point, wg_Point]
    have h1 := wg_flat (fun _ : Saved => rfl) p.Saved
    have h2 := wg_flat (fun _ : Saved => rfl) (PutSaved p.Saved y)
    have h3 := PutSaved_le p.Saved y
    show wg p.Epoch + wg p.Store + wg p.Revoked + wg (PutSaved p.Saved y) ≤ _
    omega
theorem AskPoint_okP (p : Point) (s : Int) (x : Cert) (q : Request) (h : wg p ≤ 1048576) : ok (AskPoint p s x q).1 := by
  have hp := ok_Point p h
  rcases AskPoint_cases p s x q with e | ⟨y, e⟩
  · rw [e]; exact hp
  · rw [e]
    obtain ⟨h1, h2, h3, h4⟩ := hp
    rw [wg_Point] at h
    have h5 := wg_len p.Saved
    exact ⟨h1, h2, h3, by have := PutSaved_le p.Saved y; show (PutSaved p.Saved y).length ≤ _; omega, fun _ _ => trivial⟩
theorem StartSession_wg (l : List Session) (p : Point) (s : Int) (x : Cert) (q : Request) (hl : l.length ≤ 1048576) (hp : wg p ≤ 1048576) :
    (StartSession l p s x q).1.length ≤ l.length + 1 ∧ wg (StartSession l p s x q).2.1 ≤ wg p + 1 ∧ ok (StartSession l p s x q).2.1 := by
  unfold StartSession
  cases AreSessions l && (!leI 10 (l.length : Int) && !ltI p.Id 1)
  · exact ⟨by simp, by simp, ok_Point p hp⟩
  · refine ⟨?_, AskPoint_wg p s x q, AskPoint_okP p s x q hp⟩
    cases (AskPoint p s x q).2 == 1 <;> simp
theorem FnExactStartSession_true (l : List Session) (p : Point) (s : Int) (x : Cert) (q : Request) (h1 : lb l) (h2 : lb p) :
    wFnExactStartSession.t [D.rows (List.map row l), D.st (row p), D.int s, D.st (row x), D.st (row q)] = some [D.bool true] := by
  simp only [wFnExactStartSession.t, wFnExactStartSession.b, res_zero, res_succ, r_rows, i_int, f_st, row_Point, row_Cert, row_Request]
  rw [wszSessionS_ok l 1048576 h1 (by omega) (by omega)]
  by_cases e1 : (wg l : Int) ≤ 1048576
  · rw [szf_le e1]
    simp only [bind_some, res_zero, i_int, lt_sub (x := 1048576 - (wg l : Int)) (by omega), cond_false]
    have z2 := wszPoint_ok p (1048576 - (wg l : Int)) h2 (by omega) (by omega)
    simp only [row_Point] at z2
    rw [z2]
    by_cases e2 : (wg p : Int) ≤ 1048576 - wg l
    · rw [szf_le e2]
      simp only [bind_some, res_zero, i_int, lt_sub (x := 1048576 - (wg l : Int) - wg p) (by omega), cond_false]
      have k1 : ok l := ok_list ok_Session (by omega)
      have k2 : ok p := ok_Point p (by omega)
      have m1 := mark_bound markSession markSession_bound l 1
      have m2 := smarkPoint_bound (markList markSession 1 l).2 p
      have hl := wg_len l
      obtain ⟨b1, b2, b3⟩ := StartSession_wg l p s x q (by omega) (by omega)
      have hI := iStartSession_ok l p s x q k1 k2
      have hS := sStartSession_ok l p s x q k1 k2
      generalize StartSession l p s x q = R at *
      obtain ⟨R1, R2, R3⟩ := R
      simp only at b1 b2 b3 hI hS
      have k4 : ok R1 := ⟨by omega, fun _ _ => trivial⟩
      have w4 : wg R1 = R1.length := wg_flat (fun _ => rfl) _
      have m4 := mark_bound markSession markSession_bound R1 1
      have m5 := smarkPoint_bound (markList markSession 1 R1).2 R2
      have t1 := wtoSessionS_ok l k1
      have t2 := wtoPoint_ok p k2
      have t3 := wtoCert_ok x
      have t4 := wtoRequest_ok q
      have q1 := weqSessionS_ok l k1
      have q2 := weqPoint_ok p k2
      have q3 := weqSessionS_ok R1 k4
      have q4 := weqPoint_ok R2 b3
      have g1 := wmarkSessionS_ok l 1 k1 (by omega) (by omega)
      have g2 := wmarkPoint_ok p (markList markSession 1 l).2 k2 (by omega) (by omega)
      have g3 := wmarkSessionS_ok R1 1 k4 (by omega) (by omega)
      have g4 := wmarkPoint_ok R2 (markList markSession 1 R1).2 b3 (by omega) (by omega)
      have d3 := wheldSessionS_ok R1 1 k4 (by omega) (by omega)
      have d4 := wheldPoint_ok R2 (markList markSession 1 R1).2 b3 (by omega) (by omega)
      have l1 : ltI (smarkPoint (markList markSession 1 l).2 p).2 0 = false := lt_sub (by omega)
      have l2 : ltI (markList markSession 1 R1).2 0 = false := lt_sub (by omega)
      have l3 : ltI (smarkPoint (markList markSession 1 R1).2 R2).2 0 = false := lt_sub (by omega)
      simp only [row_Point, row_Cert, row_Request] at t2 t3 t4 hI hS q2 q4 g2 g4 d4
      simp only [smarkPoint_Id, smarkPoint_Epoch_Number, smarkPoint_Epoch_At, smarkPoint_Epoch_Policy_Version, smarkPoint_SyncedAt] at g2 g4 d4
      simp only [t1, t2, t3, t4, bind_some, res_zero, res_succ, r_rows, i_int, b_bool, f_st, hI, hS, q1, q2, q3, q4, Bool.not_true, cond_false, bne_self_eq_false, g1, g2, g3, g4, d3, d4, l1, l2, l3]
    · rw [szf_gt e2]; rfl
  · rw [szf_gt e1]; rfl
end Acc
end
section
/- Well-typed data are rows of plain values. -/
namespace Acc
open Go Go.Ev
section
variable {tt : Tt} {n : Nat} {t : TypeId} {ds : List D}
theorem wt_int (hd : (tt.at t).d = .prim) (hk : (tt.at t).ks = [.int .i64]) (h : Wt tt n t ds) : ∃ x : Int, ds = row x ∧ lb x := by
  cases n with
  | zero => exact absurd h id
  | succ n =>
    simp only [Wt, hd, hk, WtP] at h
    obtain ⟨i, rfl, hw⟩ := h
    exact ⟨i, rfl, by
      have h1 : IntKind.min .i64 = -9223372036854775808 := by decide
      have h2 : IntKind.max .i64 = 9223372036854775807 := by decide
      simp [Lit.wf] at hw; exact ⟨by omega, by omega⟩⟩
theorem wt_bool (hd : (tt.at t).d = .prim) (hk : (tt.at t).ks = [.bool]) (h : Wt tt n t ds) : ∃ x : Bool, ds = row x ∧ lb x := by
  cases n with
  | zero => exact absurd h id
  | succ n =>
    simp only [Wt, hd, hk, WtP] at h
    obtain ⟨i, rfl⟩ := h
    exact ⟨i, rfl, trivial⟩
theorem wt_str (hd : (tt.at t).d = .prim) (hk : (tt.at t).ks = [.str]) (h : Wt tt n t ds) : ∃ x : ByteArray, ds = row x ∧ lb x := by
  cases n with
  | zero => exact absurd h id
  | succ n =>
    simp only [Wt, hd, hk, WtP] at h
    obtain ⟨i, rfl, hs⟩ := h
    exact ⟨i, rfl, hs⟩
theorem rows_of {α : Type} [Rw α] [Lb α] : ∀ {rows : List (List D)}, (∀ r ∈ rows, ∃ x : α, r = row x ∧ lb x) → ∃ l : List α, rows = List.map row l ∧ l.length = rows.length ∧ ∀ x ∈ l, lb x
  | [], _ => ⟨[], rfl, rfl, by simp⟩
  | r :: rows, h => by
    obtain ⟨x, rfl, hx⟩ := h r (by simp)
    obtain ⟨l, rfl, h2, h3⟩ := rows_of (rows := rows) fun r hr => h r (List.mem_cons_of_mem _ hr)
    exact ⟨x :: l, rfl, by simp, fun y hy => by rcases List.mem_cons.1 hy with rfl | hy; exact hx; exact h3 y hy⟩
theorem wt_sl_lt {α : Type} [Rw α] [Lb α] {e : TypeId} (hd : (tt.at t).d = .sl e) (he : ∀ m, m < n → ∀ ds, Wt tt m e ds → ∃ x : α, ds = row x ∧ lb x) (h : Wt tt n t ds) : ∃ l : List α, ds = [D.rows (List.map row l)] ∧ lb l := by
  cases n with
  | zero => exact absurd h id
  | succ n =>
    simp only [Wt, hd] at h
    obtain ⟨rows, rfl, hl, hr⟩ := h
    obtain ⟨l, rfl, h2, h3⟩ := rows_of fun r hr' => he n (by omega) r (hr r hr')
    refine ⟨l, rfl, ?_, h3⟩
    have : maxLen = 9223372036854775807 := by decide
    omega
theorem wt_sl {α : Type} [Rw α] [Lb α] {e : TypeId} (hd : (tt.at t).d = .sl e) (he : ∀ m ds, Wt tt m e ds → ∃ x : α, ds = row x ∧ lb x) (h : Wt tt n t ds) : ∃ l : List α, ds = [D.rows (List.map row l)] ∧ lb l :=
  wt_sl_lt hd (fun m _ ds h => he m ds h) h
end
theorem wt3 {n : Nat} {ds : List D} (h : Wt tt n 3 ds) : ∃ x : Int, ds = row x ∧ lb x := wt_int (by rfl) (by rfl) h
theorem wt57 {n : Nat} {ds : List D} (h : Wt tt n 57 ds) : ∃ x : Request, ds = row x ∧ lb x := by
  cases n with
  | zero => exact absurd h id
  | succ n =>
    have h : WtFs (Wt tt n) [(0, 3), (1, 3), (2, 3), (3, 3), (4, 3), (5, 3)] ds := h
    obtain ⟨_, _, rfl, h0, _, _, rfl, h1, _, _, rfl, h2, _, _, rfl, h3, _, _, rfl, h4, _, _, rfl, h5, rfl⟩ := h
    obtain ⟨x0, rfl, g0⟩ := wt3 h0
    obtain ⟨x1, rfl, g1⟩ := wt3 h1
    obtain ⟨x2, rfl, g2⟩ := wt3 h2
    obtain ⟨x3, rfl, g3⟩ := wt3 h3
    obtain ⟨x4, rfl, g4⟩ := wt3 h4
    obtain ⟨x5, rfl, g5⟩ := wt3 h5
    exact ⟨⟨x0, x1, x2, x3, x4, x5⟩, by simp, trivial⟩
theorem wt4 {n : Nat} {ds : List D} (h : Wt tt n 4 ds) : ∃ x : Bool, ds = row x ∧ lb x := wt_bool (by rfl) (by rfl) h
theorem wt120 {n : Nat} {ds : List D} (h : Wt tt n 120 ds) : ∃ x : Session, ds = row x ∧ lb x := by
  cases n with
  | zero => exact absurd h id
  | succ n =>
    have h : WtFs (Wt tt n) [(0, 3), (1, 3), (2, 3), (3, 57), (9, 4)] ds := h
    obtain ⟨_, _, rfl, h0, _, _, rfl, h1, _, _, rfl, h2, _, _, rfl, h3, _, _, rfl, h4, rfl⟩ := h
    obtain ⟨x0, rfl, g0⟩ := wt3 h0
    obtain ⟨x1, rfl, g1⟩ := wt3 h1
    obtain ⟨x2, rfl, g2⟩ := wt3 h2
    obtain ⟨x3, rfl, g3⟩ := wt57 h3
    obtain ⟨x4, rfl, g4⟩ := wt4 h4
    exact ⟨⟨x0, x1, x2, x3, x4⟩, by simp, trivial⟩
theorem wt22 {n : Nat} {ds : List D} (h : Wt tt n 22 ds) : ∃ l : List Session, ds = [D.rows (List.map row l)] ∧ lb l := wt_sl (by rfl) (fun _ _ h => wt120 h) h
theorem wt305 {n : Nat} {ds : List D} (h : Wt tt n 305 ds) : ∃ x : Includes, ds = row x ∧ lb x := by
  cases n with
  | zero => exact absurd h id
  | succ n =>
    have h : WtFs (Wt tt n) [(0, 3), (1, 3)] ds := h
    obtain ⟨_, _, rfl, h0, _, _, rfl, h1, rfl⟩ := h
    obtain ⟨x0, rfl, g0⟩ := wt3 h0
    obtain ⟨x1, rfl, g1⟩ := wt3 h1
    exact ⟨⟨x0, x1⟩, by simp, trivial⟩
theorem wt43 {n : Nat} {ds : List D} (h : Wt tt n 43 ds) : ∃ l : List Includes, ds = [D.rows (List.map row l)] ∧ lb l := wt_sl (by rfl) (fun _ _ h => wt305 h) h
theorem wt356 : ∀ {n : Nat} {ds : List D}, Wt tt n 356 ds → ∃ x : Cond, ds = row x ∧ lb x := by
  intro n
  induction n using Nat.strongRecOn with
  | ind n ih =>
    intro ds h
    cases n with
    | zero => exact absurd h id
    | succ n =>
      have h : WtFs (Wt tt n) [(0, 3), (1, 3), (2, 3), (3, 354)] ds := h
      obtain ⟨_, _, rfl, h1, _, _, rfl, h2, _, _, rfl, h3, _, _, rfl, h4, rfl⟩ := h
      obtain ⟨a, rfl, _⟩ := wt3 h1
      obtain ⟨b, rfl, _⟩ := wt3 h2
      obtain ⟨c, rfl, _⟩ := wt3 h3
      obtain ⟨l, rfl, hl⟩ := wt_sl_lt (n := n) (α := Cond) (e := 356) (by rfl) (fun m hm ds h => ih m (by omega) h) h4
      exact ⟨.mk a b c l, by simp, CondLb.mk hl.1 hl.2⟩
theorem wt358 {n : Nat} {ds : List D} (h : Wt tt n 358 ds) : ∃ x : Rule, ds = row x ∧ lb x := by
  cases n with
  | zero => exact absurd h id
  | succ n =>
    have h : WtFs (Wt tt n) [(0, 3), (1, 3), (2, 3), (3, 356)] ds := h
    obtain ⟨_, _, rfl, h0, _, _, rfl, h1, _, _, rfl, h2, _, _, rfl, h3, rfl⟩ := h
    obtain ⟨x0, rfl, g0⟩ := wt3 h0
    obtain ⟨x1, rfl, g1⟩ := wt3 h1
    obtain ⟨x2, rfl, g2⟩ := wt3 h2
    obtain ⟨x3, rfl, g3⟩ := wt356 h3
    exact ⟨⟨x0, x1, x2, x3⟩, by simp, g3⟩
theorem wt44 {n : Nat} {ds : List D} (h : Wt tt n 44 ds) : ∃ l : List Rule, ds = [D.rows (List.map row l)] ∧ lb l := wt_sl (by rfl) (fun _ _ h => wt358 h) h
theorem wt46 {n : Nat} {ds : List D} (h : Wt tt n 46 ds) : ∃ x : Policy, ds = row x ∧ lb x := by
  cases n with
  | zero => exact absurd h id
  | succ n =>
    have h : WtFs (Wt tt n) [(0, 3), (1, 44)] ds := h
    obtain ⟨_, _, rfl, h0, _, _, rfl, h1, rfl⟩ := h
    obtain ⟨x0, rfl, g0⟩ := wt3 h0
    obtain ⟨x1, rfl, g1⟩ := wt44 h1
    exact ⟨⟨x0, x1⟩, by simp, g1⟩
theorem wt48 {n : Nat} {ds : List D} (h : Wt tt n 48 ds) : ∃ x : Epoch, ds = row x ∧ lb x := by
  cases n with
  | zero => exact absurd h id
  | succ n =>
    have h : WtFs (Wt tt n) [(0, 3), (1, 3), (2, 43), (3, 46)] ds := h
    obtain ⟨_, _, rfl, h0, _, _, rfl, h1, _, _, rfl, h2, _, _, rfl, h3, rfl⟩ := h
    obtain ⟨x0, rfl, g0⟩ := wt3 h0
    obtain ⟨x1, rfl, g1⟩ := wt3 h1
    obtain ⟨x2, rfl, g2⟩ := wt43 h2
    obtain ⟨x3, rfl, g3⟩ := wt46 h3
    exact ⟨⟨x0, x1, x2, x3⟩, by simp, ⟨g2, g3⟩⟩
theorem wt231 {n : Nat} {ds : List D} (h : Wt tt n 231 ds) : ∃ x : Fact, ds = row x ∧ lb x := by
  cases n with
  | zero => exact absurd h id
  | succ n =>
    have h : WtFs (Wt tt n) [(0, 3), (1, 3), (2, 3), (3, 3), (4, 3), (5, 3)] ds := h
    obtain ⟨_, _, rfl, h0, _, _, rfl, h1, _, _, rfl, h2, _, _, rfl, h3, _, _, rfl, h4, _, _, rfl, h5, rfl⟩ := h
    obtain ⟨x0, rfl, g0⟩ := wt3 h0
    obtain ⟨x1, rfl, g1⟩ := wt3 h1
    obtain ⟨x2, rfl, g2⟩ := wt3 h2
    obtain ⟨x3, rfl, g3⟩ := wt3 h3
    obtain ⟨x4, rfl, g4⟩ := wt3 h4
    obtain ⟨x5, rfl, g5⟩ := wt3 h5
    exact ⟨⟨x0, x1, x2, x3, x4, x5⟩, by simp, trivial⟩
theorem wt49 {n : Nat} {ds : List D} (h : Wt tt n 49 ds) : ∃ l : List Fact, ds = [D.rows (List.map row l)] ∧ lb l := wt_sl (by rfl) (fun _ _ h => wt231 h) h
theorem wt233 {n : Nat} {ds : List D} (h : Wt tt n 233 ds) : ∃ x : Revoked, ds = row x ∧ lb x := by
  cases n with
  | zero => exact absurd h id
  | succ n =>
    have h : WtFs (Wt tt n) [(0, 3), (1, 3)] ds := h
    obtain ⟨_, _, rfl, h0, _, _, rfl, h1, rfl⟩ := h
    obtain ⟨x0, rfl, g0⟩ := wt3 h0
    obtain ⟨x1, rfl, g1⟩ := wt3 h1
    exact ⟨⟨x0, x1⟩, by simp, trivial⟩
theorem wt50 {n : Nat} {ds : List D} (h : Wt tt n 50 ds) : ∃ l : List Revoked, ds = [D.rows (List.map row l)] ∧ lb l := wt_sl (by rfl) (fun _ _ h => wt233 h) h
theorem wt236 {n : Nat} {ds : List D} (h : Wt tt n 236 ds) : ∃ x : Saved, ds = row x ∧ lb x := by
  cases n with
  | zero => exact absurd h id
  | succ n =>
    have h : WtFs (Wt tt n) [(0, 57), (6, 3), (7, 3)] ds := h
    obtain ⟨_, _, rfl, h0, _, _, rfl, h1, _, _, rfl, h2, rfl⟩ := h
    obtain ⟨x0, rfl, g0⟩ := wt57 h0
    obtain ⟨x1, rfl, g1⟩ := wt3 h1
    obtain ⟨x2, rfl, g2⟩ := wt3 h2
    exact ⟨⟨x0, x1, x2⟩, by simp, trivial⟩
theorem wt51 {n : Nat} {ds : List D} (h : Wt tt n 51 ds) : ∃ l : List Saved, ds = [D.rows (List.map row l)] ∧ lb l := wt_sl (by rfl) (fun _ _ h => wt236 h) h
theorem wt53 {n : Nat} {ds : List D} (h : Wt tt n 53 ds) : ∃ x : Point, ds = row x ∧ lb x := by
  cases n with
  | zero => exact absurd h id
  | succ n =>
    have h : WtFs (Wt tt n) [(0, 3), (1, 48), (6, 49), (7, 50), (8, 3), (9, 51)] ds := h
    obtain ⟨_, _, rfl, h0, _, _, rfl, h1, _, _, rfl, h2, _, _, rfl, h3, _, _, rfl, h4, _, _, rfl, h5, rfl⟩ := h
    obtain ⟨x0, rfl, g0⟩ := wt3 h0
    obtain ⟨x1, rfl, g1⟩ := wt48 h1
    obtain ⟨x2, rfl, g2⟩ := wt49 h2
    obtain ⟨x3, rfl, g3⟩ := wt50 h3
    obtain ⟨x4, rfl, g4⟩ := wt3 h4
    obtain ⟨x5, rfl, g5⟩ := wt51 h5
    exact ⟨⟨x0, x1, x2, x3, x4, x5⟩, by simp, ⟨g1, g2, g3, g5⟩⟩
theorem wt55 {n : Nat} {ds : List D} (h : Wt tt n 55 ds) : ∃ x : Cert, ds = row x ∧ lb x := by
  cases n with
  | zero => exact absurd h id
  | succ n =>
    have h : WtFs (Wt tt n) [(0, 3), (1, 3), (2, 3), (3, 3), (4, 3), (5, 3)] ds := h
    obtain ⟨_, _, rfl, h0, _, _, rfl, h1, _, _, rfl, h2, _, _, rfl, h3, _, _, rfl, h4, _, _, rfl, h5, rfl⟩ := h
    obtain ⟨x0, rfl, g0⟩ := wt3 h0
    obtain ⟨x1, rfl, g1⟩ := wt3 h1
    obtain ⟨x2, rfl, g2⟩ := wt3 h2
    obtain ⟨x3, rfl, g3⟩ := wt3 h3
    obtain ⟨x4, rfl, g4⟩ := wt3 h4
    obtain ⟨x5, rfl, g5⟩ := wt3 h5
    exact ⟨⟨x0, x1, x2, x3, x4, x5⟩, by simp, trivial⟩
end Acc
end
