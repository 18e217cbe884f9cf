/- The evaluator: the library's sort and compact over integers. The evaluator: what the printed texts use: words, functions out of functions, recursion, closures. The evaluator: what comes into a law is well-typed data; a law's row. -/
import Derived.Test.YtcfncgapdmpjmaaGreatEvTwo
import Derived.Shelf.Sort.Plain
import Derived.Shelf.Slices.In.SortNone
import Derived.Shelf.Slices.CompactI
import Derived.WalkKit
import Derived.ProofKit
import Derived.OpenShut
import Derived.Below
import Derived.ChangeOld
import Derived.JoinedOf
import Derived.Handed
set_option linter.unusedVariables false
set_option linter.unusedSimpArgs false
section
/- The evaluator: the library's sort and compact over integers. -/
set_option linter.unusedSimpArgs false
namespace Go.Ev
section
variable {tt : Tt} {cl : Cl} {w w' : World}
def zsOf (rows : List (List D)) : List Int := rows.map fun r => (nth D.z r 0).i
def ofZs (zs : List Int) : List (List D) := zs.map fun z => [D.int z]
theorem zsOf_length (rows : List (List D)) : (zsOf rows).length = rows.length := by simp [zsOf]
theorem ints_at {own : Bool} {b o : Nat} {rows : List (List D)} {B : Bs} (h : Rd tt w own (.R [.int .i64] b o rows) B) {j : Nat} (hj : j < rows.length) :
    w.cell? ⟨b, o + j, none⟩ = some (.int .i64 (nth D.z (nth [] rows j) 0).i) := by
  have h1 := R_get h hj
  obtain ⟨v, h2, h3⟩ := S_get h1 (j := 0) (by simp)
  simp only [List.length_cons, List.length_nil, Nat.zero_add, Nat.mul_one, Nat.add_zero] at h2
  cases h3
  exact h2
theorem zs_get {rows : List (List D)} {j : Nat} (hj : j < rows.length) : (zsOf rows).toArray[j]! = (nth D.z (nth [] rows j) 0).i := by
  rw [getElem!_pos _ j (by simpa [zsOf] using hj)]
  simp [zsOf, nth_eq, List.getD_eq_getElem?_getD, hj]
theorem ints_R {own : Bool} {b : Nat} {B : Bs} : ∀ {zs : List Int} {o : Nat}, (∀ j, j < zs.length → w.cell? ⟨b, o + j, none⟩ = some (.int .i64 (zs.getD j 0))) → Rd tt w own (.R [.int .i64] b o (ofZs zs)) B
  | [], o, _ => .rnil
  | z :: zs, o, h => by
    have h0 := h 0 (by simp)
    simp only [Nat.add_zero, List.getD_cons_zero] at h0
    refine .rcons (B1 := fun _ => False) (B2 := fun _ => False) (.scons (B1 := fun _ => False) (B2 := fun _ => False) h0 (Rd.int (x := D.int z)) .snil (fun _ h => h) (fun _ h => h) fun _ _ h => h.elim) ?_ (fun _ h => h.elim) (fun _ h => h.elim) fun _ _ h => h.elim
    refine (ints_R (zs := zs) (o := o + [Ck.int .i64].length) fun j hj => ?_).mono fun _ h => h
    have := h (j + 1) (by simp; omega)
    simp only [List.getD_cons_succ] at this
    rw [show o + [Ck.int .i64].length + j = o + (j + 1) by simp; omega]
    exact this
theorem putRow_ne {α : Type} [Inhabited α] (enc : α → Value) {w : World} {b o c : Nat} {d : Array α} (h : c ≠ b) : (Sort.putRow enc w b o d).heap[c]? = w.heap[c]? := by
  simp only [Sort.putRow, Sort.mapBlock, Array.getElem?_modify]
  rw [if_neg (fun e => h e.symm)]
theorem putRow_at {α : Type} [Inhabited α] (enc : α → Value) {w : World} {b o : Nat} {d : Array α} {c : Array Value} {e : TypeId} {fr : Nat × Nat} (h : w.heap[b]? = some (.cells c e fr)) :
    (Sort.putRow enc w b o d).heap[b]? = some (.cells (Sort.putCells enc o d c) e fr) := by
  simp [Sort.putRow, Sort.mapBlock, Array.getElem?_modify, h, Sort.onCells]
theorem putRow_room {α : Type} [Inhabited α] (enc : α → Value) {w : World} {b o m : Nat} {d : Array α} (h : Room w b m) : Room (Sort.putRow enc w b o d) b m := by
  obtain ⟨c, e, h1, h2⟩ := h
  exact ⟨_, e, putRow_at enc h1, by simpa [Sort.putCells] using h2⟩
theorem grow_at {w : World} {os : Array Obj} {c : Nat} (h : c < w.heap.size) : (Sort.grow w os).heap[c]? = w.heap[c]? := by
  simp only [Sort.grow]; exact Array.getElem?_append_left h
/-- a row of integers in memory -/
structure IntRow (w : World) (b o cap : Nat) (zs : List Int) : Prop where
  room : Room w b (o + cap)
  len : zs.length ≤ cap
  cells : ∀ j, j < zs.length → w.cell? ⟨b, o + j, none⟩ = some (.int .i64 (zs.getD j 0))
theorem IntRow.block {b o cap : Nat} {zs : List Int} (h : IntRow w b o cap zs) : b < w.heap.size := by
  obtain ⟨c, e, h1, _⟩ := h.room
  rcases Nat.lt_or_ge b w.heap.size with q | q
  · exact q
  · rw [Array.getElem?_eq_none q] at h1; cases h1
theorem IntRow.holds {b o cap : Nat} {zs : List Int} (h : IntRow w b o cap zs) : Sort.Holds (Value.int .i64) w b o zs.toArray := by
  intro j hj
  have hj' : j < zs.length := by simpa using hj
  refine ⟨?_, ?_⟩
  · rw [h.cells j hj', getElem!_pos _ j hj]; simp [List.getD_eq_getElem?_getD, hj']
  · obtain ⟨c, e, h1, _⟩ := h.room
    simp [World.frozen?, h1]
theorem IntRow.rd {b o cap : Nat} {zs : List Int} (h : IntRow w b o cap zs) {ks : List Ck} (hks : ks = [.int .i64]) : Rd tt w true (.W ks (some ⟨b, o, none⟩) cap (ofZs zs)) (fun c => c = b) := by
  subst hks
  exact .w (B' := fun _ => False) (by simpa [ofZs] using h.len) (fun _ => by simpa using h.room) (ints_R h.cells) rfl (fun _ h => h.elim) (fun _ h => h.elim)
theorem intRow_of {ks : List Ck} (hks : ks = [.int .i64]) {a : Option Addr} {cap : Nat} {rows : List (List D)} {B : Bs} (h : Rd tt w true (.W ks a cap rows) B) (hne : rows ≠ []) :
    ∃ b o, a = some ⟨b, o, none⟩ ∧ B b ∧ IntRow w b o cap (zsOf rows) := by
  subst hks
  cases h with
  | wnil => exact absurd rfl hne
  | w hc hr hR hb hs hn =>
    refine ⟨_, _, rfl, hb, by simpa using hr rfl, by rw [zsOf_length]; exact hc, fun j hj => ?_⟩
    rw [zsOf_length] at hj
    rw [ints_at hR hj]
    simp [zsOf, nth_eq, List.getD_eq_getElem?_getD, hj]
theorem after_row {b o cap n : Nat} {zs ys : List Int} {os : Array Obj} (h : IntRow w b o cap zs) (hl : ys.length = zs.length) {k : Nat} (hk : k ≤ ys.length) :
    IntRow (Sort.grow (Sort.putRow (Value.int .i64) (Sort.ahead w n) b o ys.toArray) os) b o cap (ys.take k) ∧ Ext w (Sort.grow (Sort.putRow (Value.int .i64) (Sort.ahead w n) b o ys.toArray) os) (fun c => c = b) := by
  have hb := h.block
  have hsz : (Sort.putRow (Value.int .i64) (Sort.ahead w n) b o ys.toArray).heap.size = w.heap.size := by simp [Sort.ahead]
  have hg : ∀ c, c < w.heap.size → (Sort.grow (Sort.putRow (Value.int .i64) (Sort.ahead w n) b o ys.toArray) os).heap[c]? = (Sort.putRow (Value.int .i64) (Sort.ahead w n) b o ys.toArray).heap[c]? :=
    fun c hc => grow_at (by rw [hsz]; exact hc)
  refine ⟨⟨(putRow_room _ (w := Sort.ahead w n) h.room).same (hg b hb), by simp; have := h.len; omega, fun j hj => ?_⟩, ?_, ?_, rfl, rfl, rfl⟩
  · rw [cell_same (hg b hb)]
    have hj2 : j < ys.length := by simp at hj; omega
    have := Sort.cell?_putRow (Value.int .i64) (Sort.ahead w n) b o zs.toArray ys.toArray h.holds (by simp [hl]) j (by simpa using hj2)
    rw [this, getElem!_pos _ j (by simpa using hj2)]
    have hj3 : j < k := by simp at hj; omega
    simp [List.getD_eq_getElem?_getD, List.getElem?_take, hj3, hj2]
  · simp [Sort.grow, hsz]
  · intro c hc hn
    rw [hg c hc, putRow_ne _ hn]; rfl
end
def sortF (args : List D) : Option (List D) :=
  bif decide ((zsOf (nth D.z args 0).r).length ≤ 4294967296) then some [D.rows (ofZs ((zsOf (nth D.z args 0).r).mergeSort fun x y => decide (x ≤ y)))] else none
def compactF (args : List D) : Option (List D) :=
  bif decide ((zsOf (nth D.z args 0).r).length ≤ 4294967296) then some [D.rows (ofZs (Lib.compact (zsOf (nth D.z args 0).r)))] else none
theorem compact_le (zs : List Int) : (Lib.compact zs).length ≤ zs.length := by
  unfold Lib.compact Lib.compactUpTo
  rw [List.length_map]
  exact Nat.le_trans (List.length_filter_le ..) (by simp)
theorem args_one {P : Program} {tt : Tt} {cl : Cl} {w : World} {m : Pm} {r : Rt} {vs : List Value} {args : List D} {U B : Bs} (h : ArgsR tt cl w [m] [r] vs args U B) :
    ∃ v x B1, vs = [v] ∧ args = [x] ∧ ArgR tt cl w m r v x U B1 ∧ Sub B1 B := by
  match vs, args, h with
  | [v], [x], h => obtain ⟨B1, B2, a1, _, s1, _⟩ := h; exact ⟨v, x, B1, rfl, rfl, a1, s1⟩
  | [], [], h => simp [ArgsR] at h
  | [], _ :: _, h => simp [ArgsR] at h
  | [_], [], h => simp [ArgsR] at h
  | [_], _ :: _ :: _, h => obtain ⟨_, _, _, h, _⟩ := h; simp [ArgsR] at h
  | _ :: _ :: _, [], h => simp [ArgsR] at h
  | _ :: _ :: _, [_], h => obtain ⟨_, _, _, h, _⟩ := h; simp [ArgsR] at h
  | _ :: _ :: _, _ :: _ :: _, h => obtain ⟨_, _, _, h, _⟩ := h; simp [ArgsR] at h
theorem sort_ok {P : Program} {tt : Tt} {cl : Cl} {f : FuncId} {e : TypeId} (hc : Callable P f) (hks : (tt.at e).ks = [.int .i64])
    (h1 : ∀ (blk off cap : Nat) (zs : List Int) (w : World), Sort.Holds (Value.int .i64) w blk off zs.toArray → blk < w.heap.size → zs.length < 4611686018427387904 →
      Calls P f #[.slice (some ⟨blk, off, none⟩) zs.length cap] w fun e w' => e = .returned (.tuple #[]) ∧ ∃ n os, w' = Sort.grow (Sort.putRow (Value.int .i64) (Sort.ahead w n) blk off (zs.mergeSort fun x y => decide (x ≤ y)).toArray) os)
    (h2 : ∀ (p : Option Addr) (cap : Nat) (w : World), Calls P f #[.slice p 0 cap] w fun e w' => e = .returned (.tuple #[]) ∧ w' = w) :
    FnOk P tt cl f ⟨[.io], [⟨false, [.sl e]⟩], [], sortF⟩ := by
  refine ⟨hc, ?_⟩
  intro args out hf w vs U B ha hd hlt
  obtain ⟨v, x, B1, rfl, rfl, a1, s1⟩ := args_one (P := P) ha
  · have hf : (bif decide ((zsOf x.r).length ≤ 4294967296) then some [D.rows (ofZs ((zsOf x.r).mergeSort fun x y => decide (x ≤ y)))] else none) = some out := hf
    by_cases hsz : (zsOf x.r).length ≤ 4294967296
    case neg => exfalso; simp only [decide_eq_false hsz, cond_false] at hf; cases hf
    case pos =>
      simp only [decide_eq_true hsz, cond_true, Option.some.injEq] at hf
      subst hf
      simp only [ArgR, nth] at a1
      cases a1
      rename_i a cap hW
      by_cases hne : x.r = []
      · have hl : x.r.length = 0 := by simp [hne]
        rw [hl]
        refine (h2 a cap w).mono ?_
        rintro en w' ⟨rfl, rfl⟩
        have hz : ofZs ((zsOf x.r).mergeSort fun x y => decide (x ≤ y)) = [] := by rw [hne]; simp [zsOf, ofZs]
        refine ⟨[], fun _ => False, B1, rfl, Ext.refl _ _, trivial, ?_, fun _ h => h.elim, ?_⟩
        · refine ⟨B1, fun _ => False, ?_, by simp [IosR], fun _ h => h, fun _ h => h.elim, fun _ _ h => h.elim⟩
          simp only [ArgR, nth, List.length_nil, List.drop_zero]
          rw [hz]
          have := Rd.sl (x := D.rows []) (e := e) (a := a) (cap := cap) (B := B1) (tt := tt) (w := w') (own := true) (by rw [hne] at hW; exact hW)
          simpa [D.rows, D.r] using this
        · rintro c (h | h)
          · exact h.elim
          · exact ⟨hlt c (.inr (s1 c h)), .inl (s1 c h)⟩
      · obtain ⟨b, o, rfl, hb, hr⟩ := intRow_of hks hW hne
        have hcall := h1 b o cap (zsOf x.r) w hr.holds hr.block (by omega)
        rw [zsOf_length] at hcall
        refine hcall.mono ?_
        rintro en w' ⟨rfl, n, os, rfl⟩
        have hlen : ((zsOf x.r).mergeSort fun x y => decide (x ≤ y)).length = (zsOf x.r).length := by simp
        obtain ⟨g1, g2⟩ := after_row (n := n) (os := os) hr hlen (Nat.le_refl _)
        rw [List.take_length] at g1
        have g3 : Ext w _ B := ⟨g2.size, fun c hc hn => g2.same c hc (fun e => hn (by rw [e]; exact s1 b hb)), g2.os, g2.tape, g2.out⟩
        refine ⟨[], fun _ => False, fun c => c = b, rfl, g3, trivial, ?_, fun _ h => h.elim, ?_⟩
        · refine ⟨fun c => c = b, fun _ => False, ?_, by simp [IosR], fun _ h => h, fun _ h => h.elim, fun _ _ h => h.elim⟩
          simp only [ArgR, nth, List.length_nil, List.drop_zero]
          have := Rd.sl (x := D.rows (ofZs ((zsOf x.r).mergeSort fun x y => decide (x ≤ y)))) (e := e) (tt := tt) (by simpa [D.rows, D.r] using g1.rd (tt := tt) hks)
          have hl : (D.rows (ofZs ((zsOf x.r).mergeSort fun x y => decide (x ≤ y)))).r.length = x.r.length := by simp [D.rows, D.r, ofZs, zsOf]
          rw [hl] at this
          exact this
        · rintro c (h | rfl)
          · exact h.elim
          · exact ⟨Nat.lt_of_lt_of_le hr.block g2.size, .inl (s1 _ hb)⟩
theorem compact_ok {P : Program} {tt : Tt} {cl : Cl} {f : FuncId} {e : TypeId} (hc : Callable P f) (hks : (tt.at e).ks = [.int .i64])
    (h1 : ∀ (blk off cap : Nat) (zs : List Int) (w : World), Sort.Holds (Value.int .i64) w blk off zs.toArray → zs.length ≤ 9223372036854775807 → zs.length ≤ cap →
      Calls P f #[.slice (some ⟨blk, off, none⟩) zs.length cap] w fun e w' => e = .returned (.slice (some ⟨blk, off, none⟩) (Lib.compact zs).length cap) ∧
        ∃ q, w' = Sort.putRow (Value.int .i64) (Sort.ahead w q) blk off (Lib.compact zs ++ List.replicate (zs.length - (Lib.compact zs).length) 0).toArray)
    (h2 : ∀ (a : Option Addr) (cap : Nat) (w : World), Calls P f #[.slice a 0 cap] w fun e w' => e = .returned (.slice a 0 cap) ∧ w' = w) :
    FnOk P tt cl f ⟨[.own], [⟨false, [.sl e]⟩], [⟨false, [.sl e]⟩], compactF⟩ := by
  refine ⟨hc, ?_⟩
  intro args out hf w vs U B ha hd hlt
  obtain ⟨v, x, B1, rfl, rfl, a1, s1⟩ := args_one (P := P) ha
  · have hf : (bif decide ((zsOf x.r).length ≤ 4294967296) then some [D.rows (ofZs (Lib.compact (zsOf x.r)))] else none) = some out := hf
    by_cases hsz : (zsOf x.r).length ≤ 4294967296
    case neg => exfalso; simp only [decide_eq_false hsz, cond_false] at hf; cases hf
    case pos =>
      simp only [decide_eq_true hsz, cond_true, Option.some.injEq] at hf
      subst hf
      simp only [ArgR, nth] at a1
      cases a1
      rename_i a cap hW
      by_cases hne : x.r = []
      · have hl : x.r.length = 0 := by simp [hne]
        rw [hl]
        refine (h2 a cap w).mono ?_
        rintro en w' ⟨rfl, rfl⟩
        have hz : ofZs (Lib.compact (zsOf x.r)) = [] := by
          have := compact_le (zsOf x.r)
          rw [zsOf_length, hl] at this
          have : Lib.compact (zsOf x.r) = [] := List.eq_nil_of_length_eq_zero (by omega)
          rw [this]; rfl
        refine ⟨[.slice a 0 cap], B1, fun _ => False, rfl, Ext.refl _ _, ?_, by simp [IosR], fun _ _ h => h.elim, ?_⟩
        · refine ⟨B1, fun _ => False, ?_, by simp [RessR], fun _ h => h, fun _ h => h.elim, fun _ _ h => h.elim⟩
          simp only [ResR, cond_false, nth]
          rw [hz]
          have := Rd.sl (x := D.rows []) (e := e) (a := a) (cap := cap) (B := B1) (tt := tt) (w := w') (own := true) (by rw [hne] at hW; exact hW)
          simpa [D.rows, D.r] using this
        · rintro c (h | h)
          · exact ⟨hlt c (.inr (s1 c h)), .inl (s1 c h)⟩
          · exact h.elim
      · obtain ⟨b, o, rfl, hb, hr⟩ := intRow_of hks hW hne
        have hle := compact_le (zsOf x.r)
        have hcall := h1 b o cap (zsOf x.r) w hr.holds (by omega) hr.len
        rw [zsOf_length] at hcall
        refine hcall.mono ?_
        rintro en w' ⟨rfl, n, rfl⟩
        have hlen : (Lib.compact (zsOf x.r) ++ List.replicate (x.r.length - (Lib.compact (zsOf x.r)).length) 0).length = (zsOf x.r).length := by
          rw [zsOf_length] at hle ⊢; simp; omega
        obtain ⟨g1, g2⟩ := after_row (n := n) (os := #[]) (k := (Lib.compact (zsOf x.r)).length) hr hlen (by simp)
        rw [Sort.grow_empty] at g1 g2
        rw [List.take_left] at g1
        have g3 : Ext w _ B := ⟨g2.size, fun c hc hn => g2.same c hc (fun e => hn (by rw [e]; exact s1 b hb)), g2.os, g2.tape, g2.out⟩
        refine ⟨[.slice (some ⟨b, o, none⟩) (Lib.compact (zsOf x.r)).length cap], fun c => c = b, fun _ => False, rfl, g3, ?_, by simp [IosR], fun _ _ h => h.elim, ?_⟩
        · refine ⟨fun c => c = b, fun _ => False, ?_, by simp [RessR], fun _ h => h, fun _ h => h.elim, fun _ _ h => h.elim⟩
          simp only [ResR, cond_false, nth]
          have := Rd.sl (x := D.rows (ofZs (Lib.compact (zsOf x.r)))) (e := e) (tt := tt) (by simpa [D.rows, D.r] using g1.rd (tt := tt) hks)
          have hl : (D.rows (ofZs (Lib.compact (zsOf x.r)))).r.length = (Lib.compact (zsOf x.r)).length := by simp [D.rows, D.r, ofZs]
          rw [hl] at this
          exact this
        · rintro c (rfl | h)
          · exact ⟨Nat.lt_of_lt_of_le hr.block g2.size, .inl (s1 _ hb)⟩
          · exact h.elim
end Go.Ev
end
section
/- The evaluator: what the printed texts use: words, functions out of functions, recursion, closures. -/
set_option linter.unusedSimpArgs false
namespace Go.Ev
/-! words of the printed texts -/
abbrev GT := Nat → List D → Option (List D)
abbrev GF := Int → List D → Option (List D)
abbrev LR := Option (List D ⊕ (List D ⊕ List D))
abbrev N0 : List (List D) := []
def res : List D → Nat → D
  | l, 0 => nth D.z l 0
  | l, j + 1 => res (l.drop 1) j
def D.f (x : D) (j : Nat) : D := res x.cs j
def cell (rows : List (List D)) (i c : Nat) : D := nth D.z (nth [] rows i) c
def setIn (rows : List (List D)) (i c : Nat) (new : List (List D)) : List (List D) := upd rows i (upd (nth [] rows i) c (D.rows new))
def byteAt (s : ByteArray) (i : Nat) : Int := ((nth 0 s.data.toList i).toNat : Int)
def bitsAnd (k : IntKind) (x y : Int) : Int := k.wrap ((BitVec.ofInt k.bits x &&& BitVec.ofInt k.bits y).toNat : Int)
def bitsOr (k : IntKind) (x y : Int) : Int := k.wrap ((BitVec.ofInt k.bits x ||| BitVec.ofInt k.bits y).toNat : Int)
def bitsXor (k : IntKind) (x y : Int) : Int := k.wrap ((BitVec.ofInt k.bits x ^^^ BitVec.ofInt k.bits y).toNat : Int)
def ltI (x y : Int) : Bool := decide (x < y)
def leI (x y : Int) : Bool := decide (x ≤ y)
def gtI (x y : Int) : Bool := decide (x > y)
def geI (x y : Int) : Bool := decide (x ≥ y)
def eqI (x y : Int) : Bool := decide (x = y)
def leN (x y : Nat) : Bool := decide (x ≤ y)
def maxI (x y : Int) : Int := if x < y then y else x
def minI (x y : Int) : Int := if y < x then y else x
def w64 (x : Int) : Int := IntKind.wrap .i64 x
noncomputable def loop (f : List D → LR) (s : List D) {R : Type} (k : List D → Option R) (r : List D → Option R) : Option R := Option.bind (iter f s) (Sum.elim k r)

/-! functions out of functions -/
section
variable {P : Program} {tt : Tt} {cl : Cl}
def AllOk (P : Program) (tt : Tt) (cl : Cl) : List (Nat × Sig) → Prop
  | [] => True
  | x :: l => FnOk P tt cl x.1 x.2 ∧ AllOk P tt cl l
theorem AllOk.find : ∀ {l : List (Nat × Sig)}, AllOk P tt cl l → ∀ {f s}, find l f = some s → FnOk P tt cl f s
  | [], _, f, s, h => by simp [Ev.find] at h
  | (k, x) :: l, ha, f, s, h => by
    simp only [Ev.find] at h
    cases hb : Nat.beq k f with
    | true =>
      simp only [hb, cond_true, Option.some.injEq] at h
      subst h
      cases Nat.eq_of_beq_eq_true hb
      exact ha.1
    | false => simp only [hb, cond_false] at h; exact ha.2.find h
def callableB (P : Program) (f : FuncId) : Bool := match P.funcs[f]? with | some fn => !fn.body.isNone && !(fn.name == "runtime.NumGoroutine") | none => false
theorem callable_of {f : FuncId} (h : callableB P f = true) : Callable P f := by
  unfold callableB at h
  split at h
  · rename_i fn hfn
    simp only [Bool.and_eq_true, Bool.not_eq_true'] at h
    exact ⟨fn, hfn, h.1, h.2⟩
  · cases h
theorem FnOk.none {f : FuncId} (hc : Callable P f) {ms : List Pm} {ps rs : List Rt} {g : List D → Option (List D)} (hg : ∀ a, g a = Option.none) : FnOk P tt cl f ⟨ms, ps, rs, g⟩ :=
  ⟨hc, fun args out h => by have h : g args = some out := h; rw [hg] at h; cases h⟩
theorem FnOk.of {f : FuncId} {ms : List Pm} {ps rs : List Rt} {g g' : List D → Option (List D)} (h : FnOk P tt cl f ⟨ms, ps, rs, g⟩) (hg : ∀ a out, g' a = some out → g a = some out) : FnOk P tt cl f ⟨ms, ps, rs, g'⟩ :=
  ⟨h.callable, fun args out ho => h.does args out (hg _ _ ho)⟩
/-! closures -/
def gf (l : List (Nat × (List D → Option (List D)))) : GF := fun i => look (fun _ => Option.none) l i.toNat
def AllCl (P : Program) (tt : Tt) (cl : Cl) : List (Nat × (List D → Option (List D))) → Prop
  | [] => True
  | x :: l => (∀ t es ps rs, find cl x.1 = some (t, es) → (tt.at t).d = .fn ps rs → FnOk P tt cl x.1 (clSig tt (fun _ => x.2) x.1 es ps rs)) ∧ AllCl P tt cl l
theorem gok {l : List (Nat × (List D → Option (List D)))} (hc : cl.all (fun x => callableB P x.1) = true) (h : AllCl P tt cl l) : GOk P tt cl (gf l) := by
  refine ⟨fun f t es ps rs hf hd => ?_⟩
  have hcall : Callable P f := by
    have hm : ∀ {l : Cl}, find l f = some (t, es) → (f, (t, es)) ∈ l := by
      intro l
      induction l with
      | nil => intro h; simp [find] at h
      | cons x l ih =>
        intro h
        obtain ⟨k, y⟩ := x
        simp only [find] at h
        cases hb : Nat.beq k f with
        | true => simp only [hb, cond_true, Option.some.injEq] at h; subst h; cases Nat.eq_of_beq_eq_true hb; simp
        | false => simp only [hb, cond_false] at h; exact List.mem_cons_of_mem _ (ih h)
    have := List.all_eq_true.1 hc _ (hm hf)
    exact callable_of this
  have key : ∀ {l : List (Nat × (List D → Option (List D)))}, AllCl P tt cl l → FnOk P tt cl f (clSig tt (gf l) f es ps rs) := by
    intro l
    induction l with
    | nil => intro _; exact FnOk.none hcall fun _ => rfl
    | cons x l ih =>
      intro h
      obtain ⟨k, y⟩ := x
      cases hb : Nat.beq k f with
      | true =>
        cases Nat.eq_of_beq_eq_true hb
        have := h.1 t es ps rs hf hd
        simpa [clSig, gf, look] using this
      | false =>
        have := ih h.2
        simpa [clSig, gf, look, hb] using this
  exact key h
theorem cl_ok {f : FuncId} (t : TypeId) (es ps rs : List TypeId) {g : List D → Option (List D)} {s : Sig} (hf : find cl f = some (t, es)) (hd : (tt.at t).d = .fn ps rs)
    (hs : s = ⟨(ps.map fun _ => Pm.val) ++ es.map fun _ => Pm.val, ps.map (Rt.of tt) ++ es.map fun e => ⟨false, [.ptr e]⟩, rs.map (Rt.of tt), g⟩) (h : FnOk P tt cl f s) :
    ∀ t es ps rs, find cl f = some (t, es) → (tt.at t).d = .fn ps rs → FnOk P tt cl f (clSig tt (fun _ => g) f es ps rs) := by
  intro t' es' ps' rs' hf' hd'
  rw [hf] at hf'; cases hf'
  rw [hd] at hd'; cases hd'
  rw [hs] at h
  exact h
/-! one function -/
def fnChk (fn : Func) (fx : Fx) (body : Code) : Bool := !(fn.name == "runtime.NumGoroutine") && fits fn.ntmps body && (Nat.ble fx.ms.length fn.ntmps && Nat.ble fn.ntmps 499999)
theorem fn_mk {Γ : List (Nat × Sig)} {G : GF} (hT : ttOk P tt = true) (hmix : P.follows .mixedOrders = true) (hG : GOk P tt cl G) (hΓ : AllOk P tt cl Γ) {f : FuncId} {fn : Func} {body : Code} {fx : Fx}
    (hf : P.funcs[f]? = some fn) (hb : fn.body = some body) (hres : fn.results.toList = fx.results) (hc : fnChk fn fx body = true) {g : List D → Option (List D)} (hd : ∀ args, denF ⟨tt, cl, Γ, G⟩ fx body args = g args) :
    FnOk P tt cl f ⟨fx.ms, fx.ps, fx.rts, g⟩ := by
  simp only [fnChk, Bool.and_eq_true, Bool.not_eq_true'] at hc
  exact fn_ok (cx := ⟨tt, cl, Γ, G⟩) ⟨hT, fun f s h => hΓ.find h, hG⟩ hmix hf hb hc.1.1 hres hc.1.2 (by simp only [Bool.and_eq_true]; exact hc.2) fun args out h => (hd args).trans h
end
/-! recursion -/
open Classical in
noncomputable def lim {B : Type} (f : Nat → Option B) : Option B := if h : ∃ b, ∃ n, ∀ m, n ≤ m → f m = some b then some (Classical.choose h) else none
theorem lim_eq {B : Type} {f : Nat → Option B} {b : B} (n : Nat) (h : ∀ m, n ≤ m → f m = some b) : lim f = some b := by
  have hex : ∃ b, ∃ n, ∀ m, n ≤ m → f m = some b := ⟨b, n, h⟩
  unfold lim
  rw [dif_pos hex]
  obtain ⟨k, hk⟩ := Classical.choose_spec hex
  have h1 := hk (max n k) (Nat.le_max_right ..)
  have h2 := h (max n k) (Nat.le_max_left ..)
  rw [h1] at h2
  exact h2
theorem lim_some {B : Type} {f : Nat → Option B} {b : B} (h : lim f = some b) : ∃ n, f n = some b := by
  unfold lim at h
  split at h
  · rename_i hex
    obtain ⟨k, hk⟩ := Classical.choose_spec hex
    simp only [Option.some.injEq] at h
    exact ⟨k, by rw [← h]; exact hk k (Nat.le_refl _)⟩
  · cases h
theorem FnOk.lim {P : Program} {tt : Tt} {cl : Cl} {f : FuncId} {ms : List Pm} {ps rs : List Rt} {g : Nat → List D → Option (List D)} (h : ∀ n, FnOk P tt cl f ⟨ms, ps, rs, g n⟩) :
    FnOk P tt cl f ⟨ms, ps, rs, fun a => Ev.lim fun n => g n a⟩ := by
  refine ⟨(h 0).callable, fun args out ho => ?_⟩
  obtain ⟨n, hn⟩ := lim_some ho
  exact (h n).does args out hn
/-! loops -/
theorem iterN_mono {S B : Type} {f : S → Option (S ⊕ B)} : ∀ {n m : Nat} {s : S} {b : B}, iterN f n s = some b → n ≤ m → iterN f m s = some b
  | 0, _, _, _, h, _ => by simp [iterN] at h
  | n + 1, 0, _, _, _, hm => by omega
  | n + 1, m + 1, s, b, h, hm => by
    simp only [iterN] at h ⊢
    split at h
    · cases h
    · exact iterN_mono h (by omega)
    · exact h
theorem iter_of {S B : Type} {f : S → Option (S ⊕ B)} {s : S} {b : B} {n : Nat} (h : iterN f n s = some b) : iter f s = some b := by
  have hex : ∃ n, (iterN f n s).isSome = true := ⟨n, by rw [h]; rfl⟩
  unfold iter
  rw [dif_pos hex]
  have hs := Classical.choose_spec hex
  generalize Classical.choose hex = k at hs ⊢
  cases hk : iterN f k s with
  | none => rw [hk] at hs; cases hs
  | some b' =>
    have h1 := iterN_mono hk (Nat.le_max_left k n)
    have h2 := iterN_mono h (Nat.le_max_right k n)
    rw [h1] at h2; exact h2
theorem iter_inr {S B : Type} {f : S → Option (S ⊕ B)} {s : S} {b : B} (h : f s = some (.inr b)) : iter f s = some b := iter_of (n := 1) (by simp [iterN, h])
theorem iter_inl {S B : Type} {f : S → Option (S ⊕ B)} {s s' : S} {b : B} (h : f s = some (.inl s')) (h' : iter f s' = some b) : iter f s = some b := by
  obtain ⟨n, hn⟩ := iter_some h'
  exact iter_of (n := n + 1) (by simp [iterN, h, hn])
/-- a loop over a list: g answers one element; e ends -/
def goList {α S B : Type} (g : Nat → α → S → S ⊕ B) (e : S → B) : List α → Nat → S → B
  | [], _, s => e s
  | x :: l, k, s => match g k x s with
    | .inl s' => goList g e l (k + 1) s'
    | .inr b => b
theorem iter_list {α S T B : Type} {f : T → Option (T ⊕ B)} (l : List α) (st : Nat → S → T) (I : Nat → S → Prop) (g : Nat → α → S → S ⊕ B) (e : S → B)
    (h1 : ∀ k x s, l[k]? = some x → I k s → f (st k s) = some (match g k x s with | .inl s' => .inl (st (k + 1) s') | .inr b => .inr b) ∧ ∀ s', g k x s = .inl s' → I (k + 1) s')
    (h2 : ∀ s, I l.length s → f (st l.length s) = some (.inr (e s))) (s : S) (h0 : I 0 s) : iter f (st 0 s) = some (goList g e l 0 s) := by
  have key : ∀ (suf : List α) (k : Nat) (s : S), l.drop k = suf → k ≤ l.length → I k s → iter f (st k s) = some (goList g e suf k s) := by
    intro suf
    induction suf with
    | nil =>
      intro k s hd hk hI
      have : k = l.length := by
        have := congrArg List.length hd
        simp at this; omega
      subst this
      exact iter_inr (h2 s hI)
    | cons x suf ih =>
      intro k s hd hk hI
      have hx : l[k]? = some x := by
        have := congrArg (fun l => l[0]?) hd
        simpa using this
      obtain ⟨q1, q2⟩ := h1 k x s hx hI
      have hlt : k < l.length := (List.getElem?_eq_some_iff.1 hx).1
      have hd' : l.drop (k + 1) = suf := by
        rw [← List.drop_drop, hd]; rfl
      simp only [goList]
      cases hg : g k x s with
      | inl s' =>
        rw [hg] at q1
        exact iter_inl q1 (ih (k + 1) s' hd' hlt (q2 s' hg))
      | inr b => rw [hg] at q1; exact iter_inr q1
  exact key l 0 s rfl (Nat.zero_le _) h0
end Go.Ev
end
section
/- The evaluator: what comes into a law is well-typed data; a law's row. -/
set_option linter.unusedSimpArgs false
open Go.WideShapes Go.ChangeShapes
namespace Go.Ev
section
/-- cells of a type -/
def WtFs (wt : TypeId → List D → Prop) : List (Nat × TypeId) → List D → Prop
  | [], ds => ds = []
  | (_, t) :: fs, ds => ∃ a b, ds = a ++ b ∧ wt t a ∧ WtFs wt fs b
def WtRep (wt : List D → Prop) : Nat → List D → Prop
  | 0, ds => ds = []
  | n + 1, ds => ∃ a b, ds = a ++ b ∧ wt a ∧ WtRep wt n b
def WtP : List Ck → List D → Prop
  | [.int k], ds => ∃ i, ds = [D.int i] ∧ (Lit.int k i).wf = true
  | [.bool], ds => ∃ b, ds = [D.bool b]
  | [.str], ds => ∃ s : ByteArray, ds = [D.str s] ∧ s.size ≤ maxLen
  | _, _ => False
def Wt (tt : Tt) : Nat → TypeId → List D → Prop
  | 0, _, _ => False
  | n + 1, t, ds => match (tt.at t).d with
    | .prim => WtP (tt.at t).ks ds
    | .sl e => ∃ rows, ds = [D.rows rows] ∧ rows.length ≤ maxLen ∧ ∀ r ∈ rows, Wt tt n e r
    | .struct fs => WtFs (Wt tt n) fs ds
    | .arr k e => WtRep (Wt tt n e) k ds
    | _ => False
end
section
variable {H : Type} {enc : TypeId × Value → H} {P : Program} {tt : Tt} {cl : Cl} {w : World} {base : Nat} {spare : Nat → Bool} {held : Bool}
def TW (enc : TypeId × Value → H) (P : Program) (tt : Tt) (w : World) (base : Nat) (spare : Nat → Bool) (held : Bool) (m : Nat) (t : TypeId) : Prop :=
  ∀ (cs : List Value) (d : DataW H) (ps : List MemPlace), DataW.trod enc P w base spare held m t cs = some (d, ps) → Wt tt m t (cellsD tt m t d)
theorem prim_wt (hP : ttOk P tt = true) {m : Nat} {t : TypeId} (hd : (tt.at t).d = .prim) : TW enc P tt w base spare held (m + 1) t := by
  intro cs d ps h
  · skip
    simp only [Wt, hd]
    rcases prim_und hP hd with ⟨k, hu, hk⟩ | ⟨hu, hk⟩ | ⟨hu, hk⟩
    · simp only [DataW.trod, hu] at h
      split at h <;> simp_all
      obtain ⟨⟨rfl, hw⟩, rfl, _⟩ := h
      simp only [cellsD, hd, WtP]
      exact ⟨_, rfl, hw⟩
    · simp only [DataW.trod, hu] at h
      split at h <;> simp_all
      obtain ⟨rfl, _⟩ := h
      simp only [cellsD, hd, WtP]
      exact ⟨_, rfl⟩
    · simp only [DataW.trod, hu] at h
      split at h <;> simp_all
      obtain ⟨hs, rfl, _⟩ := h
      simp only [cellsD, hd, WtP]
      exact ⟨_, rfl, by show (Array.size _) ≤ maxLen; rw [Array.toArray_toList]; exact hs⟩
theorem fields_wt {m : Nat} {r : TypeId → List Value → Option (DataW H × List MemPlace)} {cs : List Value} : ∀ {fs : List (Nat × TypeId)} {xs : List (DataW H × List MemPlace)},
    (∀ f ∈ fs, ∀ cs x, r f.2 cs = some x → Wt tt m f.2 (cellsD tt m f.2 x.1)) →
    (fs.mapM fun f => r f.2 ((cs.drop f.1).take (P.cellsOf f.2))) = some xs → WtFs (Wt tt m) fs (List.zipWith (fun (f : Nat × TypeId) p => cellsD tt m f.2 p) fs (xs.map (·.1))).flatten
  | [], xs, _, h => by simp at h; subst h; simp [WtFs]
  | (off, ft) :: fs, xs, hr, h => by
    rw [List.mapM_cons] at h
    cases e1 : r ft ((cs.drop off).take (P.cellsOf ft)) with
    | none => simp [e1] at h
    | some y =>
      cases e2 : fs.mapM fun f => r f.2 ((cs.drop f.1).take (P.cellsOf f.2)) with
      | none => simp [e1, e2] at h
      | some ys =>
        simp [e1, e2] at h
        subst h
        have g1 := hr _ (List.mem_cons_self ..) _ _ e1
        have g2 := fields_wt (fun f hf => hr f (List.mem_cons_of_mem _ hf)) e2
        exact ⟨_, _, by simp, g1, g2⟩
theorem times_wt {m : Nat} {e : TypeId} {r : List Value → Option (DataW H × List MemPlace)} {f : Nat → List Value} (hr : ∀ cs x, r cs = some x → Wt tt m e (cellsD tt m e x.1)) :
    ∀ {n k : Nat} {xs : List (DataW H × List MemPlace)}, ((List.range' k n).mapM fun i => r (f i)) = some xs → WtRep (Wt tt m e) n ((xs.map (·.1)).map (cellsD tt m e)).flatten
  | 0, k, xs, h => by simp at h; subst h; simp [WtRep]
  | n + 1, k, xs, h => by
    rw [List.range'_succ, List.mapM_cons] at h
    cases e1 : r (f k) with
    | none => simp [e1] at h
    | some y =>
      cases e2 : (List.range' (k + 1) n).mapM fun i => r (f i) with
      | none => simp [e1, e2] at h
      | some ys =>
        simp [e1, e2] at h
        subst h
        exact ⟨_, _, by simp, hr _ _ e1, times_wt hr e2⟩
theorem trod_wt (hP : ttOk P tt = true) (hsp : spare = fun _ => true) {S : List TypeId} (hS : tysOk tt S = true) : ∀ (m : Nat) (t : TypeId), inS S t = true → TW enc P tt w base spare held m t
  | 0, t, h => by intro cs d ps h; simp [DataW.trod] at h
  | m + 1, t, h => by
    have h' := in_ok hS h
    unfold tyOk at h'
    split at h'
    · rename_i hd; exact prim_wt hP hd
    · rename_i e hd
      simp only [Bool.and_eq_true] at h'
      obtain ⟨⟨h1, h2⟩, h3⟩ := h'
      have ih := trod_wt hP hsp hS m _ h1
      intro cs d ps h
      subst hsp
      · skip
        have hu := und_sl hP hd
        rw [DataW.trod_step] at h
        simp only [Wt, hd]
        rcases trod_sl hu h with ⟨rfl, hx⟩ | ⟨a, len, cap, rfl, hx⟩
        · cases hx
          simp only [cellsD, hd]
          exact ⟨[], rfl, by simp, by simp⟩
        · simp only at hx
          split at hx
          · rename_i hc
            simp only [if_true] at hx
            rw [Option.bind_eq_some_iff] at hx
            obtain ⟨elems, g1, hx⟩ := hx
            rw [Option.map_eq_some_iff] at hx
            obtain ⟨rest, g2, hx⟩ := hx
            simp only [Prod.mk.injEq] at hx
            obtain ⟨rfl, _⟩ := hx
            simp only [cellsD, hd]
            have hlen : elems.length = len := by have := (mapM_at g1).1; simpa using this
            refine ⟨_, rfl, by simp [hlen]; omega, fun r hr => ?_⟩
            simp only [List.map_map, List.mem_map, Function.comp_apply] at hr
            obtain ⟨y, hy, rfl⟩ := hr
            obtain ⟨i, hi⟩ := List.getElem?_of_mem hy
            have hlt : i < len := by have := (List.getElem?_eq_some_iff.1 hi).1; omega
            obtain ⟨z, q1, q2⟩ := (mapM_at g1).2 i i (by rw [List.getElem?_range (by omega)])
            rw [hi] at q1; cases q1
            rw [Option.bind_eq_some_iff] at q2
            obtain ⟨cs0, _, q3⟩ := q2
            exact ih cs0 y.1 y.2 q3
          · cases hx
    · rename_i fs hd
      intro cs d ps h
      · skip
        have hh : tt.has t = true := by simp [Tt.has, hd]
        have hdesc := (type_facts hP hh).desc
        unfold descOk at hdesc
        rw [hd] at hdesc
        split at hdesc
        all_goals first | (simp at hdesc; done) | skip
        · rename_i fs' l hu hl
          cases hl
          simp only [Bool.and_eq_true, decide_eq_true_eq] at hdesc
          obtain ⟨⟨⟨⟨_, hfs⟩, _⟩, _⟩, _⟩ := hdesc
          rw [DataW.trod_step] at h
          obtain ⟨g1, xs, g2, g3⟩ := trod_agg hu h
          simp only at g3
          subst g3
          simp only [Wt, cellsD, hd]
          have hall : ∀ f ∈ fs, inS S f.2 = true := by
            have : ∀ {fs : List (Nat × TypeId)} {cur : Nat} {ks : List Ck}, fieldsOk tt (inS S) fs cur ks = true → ∀ f ∈ fs, inS S f.2 = true := by
              intro fs
              induction fs with
              | nil => intro _ _ _ f hf; simp at hf
              | cons x fs ih =>
                intro cur ks hk f hf
                obtain ⟨off, ft⟩ := x
                simp only [fieldsOk, Bool.and_eq_true] at hk
                rcases List.mem_cons.1 hf with rfl | hf
                · exact hk.1.1.2
                · exact ih hk.2 f hf
            exact this h'
          exact fields_wt (P := P) (r := DataW.trod enc P w base spare held m) (fun f hf cs x hx => trod_wt hP hsp hS m f.2 (hall f hf) cs x.1 x.2 hx) (cs := cs) (xs := xs) (by rw [← hfs]; simpa [List.mapM_map, Function.comp_def] using g2)
        all_goals simp_all
    · rename_i k e hd
      simp only [Bool.and_eq_true] at h'
      intro cs d ps h
      · skip
        have hh : tt.has t = true := by simp [Tt.has, hd]
        have hdesc := (type_facts hP hh).desc
        unfold descOk at hdesc
        rw [hd] at hdesc
        split at hdesc
        all_goals first | (simp at hdesc; done) | skip
        · simp_all
        · rename_i k' e' m' f' hu hl
          cases hl
          simp only [Bool.and_eq_true] at hdesc
          obtain ⟨⟨_, h1⟩, h2⟩ := hdesc
          have := Nat.eq_of_beq_eq_true h1; subst this
          have := Nat.eq_of_beq_eq_true h2; subst this
          rw [DataW.trod_step] at h
          obtain ⟨g1, xs, g2, g3⟩ := trod_arr hu h
          simp only at g3
          subst g3
          simp only [Wt, cellsD, hd]
          rw [List.range_eq_range'] at g2
          exact times_wt (r := DataW.trod enc P w base spare held m _) (fun cs x hx => trod_wt hP hsp hS m _ h'.1 cs x.1 x.2 hx) g2
        all_goals simp_all
    · cases h'
/-- a law's arguments -/
def WtArg (tt : Tt) (t : TypeId) (x : D) : Prop := bif (tt.at t).agg then ∃ n cs, x = D.st cs ∧ Wt tt n t cs else ∃ n, Wt tt n t [x]
def WtArgs (tt : Tt) : List TypeId → List D → Prop
  | [], xs => xs = []
  | t :: ts, xs => ∃ x ys, xs = x :: ys ∧ WtArg tt t x ∧ WtArgs tt ts ys
theorem arg_in (hP : ttOk P tt = true) {S : List TypeId} (hS : tysOk tt S = true) {t : TypeId} (htS : inS S t = true) (hnf : (match (tt.at t).d with | .ptr _ => false | .fn _ _ => false | _ => true) = true) {v : Value} {d : DataW H} {ps : List MemPlace}
    (hval : Value.okWide P w .any base t v) (h : DataW.Trod enc P w 0 (fun _ => true) held t v d ps) : ∃ x, ArgR tt cl w .val (Rt.of tt t) v x (All_ w) (fun _ => False) ∧ WtArg tt t x := by
  obtain ⟨n, h⟩ := h
  have ht := in_ok hS htS
  have h1 := trod_rd (w := w) hP rfl hS n t htS _ d ps h
  have h2 := trod_wt (w := w) hP rfl hS n t htS _ d ps h
  have hh := tyOk_has ht
  have hdesc := (type_facts hP hh).desc
  unfold descOk at hdesc
  have ht' := ht
  unfold tyOk at ht'
  have plainCase : ∀ (c : Value), v.cells.toList = [c] → v = c → (tt.at t).agg = false → (∃ k, (tt.at t).ks = [k] ∧ (∀ e, k ≠ .ptr e) ∧ ∀ e, k ≠ .fn e) → ∃ x, ArgR tt cl w .val (Rt.of tt t) v x (All_ w) (fun _ => False) ∧ WtArg tt t x := by
    rintro c hc rfl hagg ⟨k, hk, hk1, hk2⟩
    rw [hc] at h1
    rw [hk] at h1
    obtain ⟨x, hx⟩ : ∃ x, cellsD tt n t d = [x] := by
      cases hcd : cellsD tt n t d with
      | nil => rw [hcd] at h1; simp [RVs] at h1
      | cons x l =>
        cases l with
        | nil => exact ⟨x, rfl⟩
        | cons y l => rw [hcd] at h1; obtain ⟨_, _, _, h, _⟩ := h1; simp [RVs] at h
    rw [hx] at h1 h2
    obtain ⟨B1, B2, g1, _, s1, _⟩ := h1
    refine ⟨x, ?_, by simp only [WtArg, hagg, cond_false]; exact ⟨n, h2⟩⟩
    simp only [ArgR, Rt.of, hagg, cond_false, hk, nth]
    cases k
    case ptr e => exact absurd rfl (hk1 e)
    case fn e => exact absurd rfl (hk2 e)
    all_goals exact g1.mono s1
  split at ht'
  · rename_i hd
    have hagg : (tt.at t).agg = false := by
      rw [hd] at hdesc
      split at hdesc <;> simp_all
    rcases prim_und hP hd with ⟨k, hu, hk⟩ | ⟨hu, hk⟩ | ⟨hu, hk⟩
    · obtain ⟨i, rfl⟩ := okWide_int hu hval
      exact plainCase _ rfl rfl hagg ⟨_, hk, by simp, by simp⟩
    · obtain ⟨i, rfl⟩ := okWide_bool hu hval
      exact plainCase _ rfl rfl hagg ⟨_, hk, by simp, by simp⟩
    · obtain ⟨i, rfl⟩ := okWide_string hu hval
      exact plainCase _ rfl rfl hagg ⟨_, hk, by simp, by simp⟩
  · rename_i e hd
    have hu := und_sl hP hd
    simp only [Bool.and_eq_true] at ht'
    obtain ⟨⟨_, _⟩, h3⟩ := ht'
    split at h3
    · rename_i e' hk
      have hagg : (tt.at t).agg = false := by rw [hd, hu] at hdesc; simp_all
      obtain ⟨a, l, c, rfl⟩ := okWide_slice hu hval
      exact plainCase _ rfl rfl hagg ⟨_, hk, by simp, by simp⟩
    · cases h3
  · rename_i fs hd
    rw [hd] at hdesc
    split at hdesc
    all_goals first | (simp at hdesc; done) | skip
    · rename_i fs' l hu hl
      cases hl
      simp only [Bool.and_eq_true] at hdesc
      have hagg := hdesc.1.1.1.1
      obtain ⟨cs, rfl, _⟩ := okWide_struct hu hval
      refine ⟨D.st (cellsD tt n t d), ?_, by simp only [WtArg, hagg, cond_true]; exact ⟨n, _, rfl, h2⟩⟩
      simp only [ArgR, Rt.of, hagg, cond_true]
      exact ⟨cs, rfl, h1⟩
    all_goals simp_all
  · rename_i k e hd
    rw [hd] at hdesc
    split at hdesc
    all_goals first | (simp at hdesc; done) | skip
    · simp_all
    · rename_i k' e' m' f' hu hl
      cases hl
      simp only [Bool.and_eq_true] at hdesc
      have hagg := hdesc.1.1
      have : ∃ cs, v = .agg cs := by
        simp only [Value.okWide, hu] at hval
        obtain ⟨cs, h1, _⟩ := hval
        exact ⟨cs, h1⟩
      obtain ⟨cs, rfl⟩ := this
      refine ⟨D.st (cellsD tt n t d), ?_, by simp only [WtArg, hagg, cond_true]; exact ⟨n, _, rfl, h2⟩⟩
      simp only [ArgR, Rt.of, hagg, cond_true]
      exact ⟨cs, rfl, h1⟩
    all_goals simp_all
  · cases ht'
def lawTy (tt : Tt) (S : List TypeId) (t : TypeId) : Bool := inS S t && (match (tt.at t).d with | .ptr _ => false | .fn _ _ => false | _ => true)
theorem args_in (hP : ttOk P tt = true) {S : List TypeId} (hS : tysOk tt S = true) : ∀ {ts : List TypeId} {vs : List Value} {ds : List (DataW H)} {ps : List MemPlace}, (∀ t ∈ ts, lawTy tt S t = true) →
    (∀ (j : Nat) t v, ts[j]? = some t → vs[j]? = some v → Value.okWide P w .any base t v) → DataW.TrodAll enc P w 0 (fun _ => true) held ts vs ds ps →
    ∃ xs, ArgsR tt cl w (ts.map fun _ => .val) (ts.map (Rt.of tt)) vs xs (All_ w) (fun _ => False) ∧ WtArgs tt ts xs
  | [], vs, ds, ps, _, _, h => by
    obtain ⟨rfl, rfl, rfl⟩ := trodAll_nil h
    exact ⟨[], trivial, rfl⟩
  | t :: ts, vs, ds, ps, ht, hv, h => by
    obtain ⟨v, vs', d, ds', p, q, rfl, rfl, rfl, h1, h2⟩ := trodAll_cons h
    obtain ⟨xs, g1, g2⟩ := args_in hP hS (fun t ht' => ht t (List.mem_cons_of_mem _ ht')) (fun j t v q1 q2 => hv (j + 1) t v (by simpa using q1) (by simpa using q2)) h2
    have hl := ht t (List.mem_cons_self ..)
    simp only [lawTy, Bool.and_eq_true] at hl
    obtain ⟨x, k1, k2⟩ := arg_in (cl := cl) hP hS hl.1 hl.2 (hv 0 t v rfl rfl) h1
    exact ⟨x :: xs, ⟨fun _ => False, fun _ => False, k1, g1, fun _ h => h, fun _ h => h, fun _ h => h.elim⟩, x, xs, rfl, k2, g2⟩
/-- a law that answers true answers true -/
theorem law_calls (hP : ttOk P tt = true) {S : List TypeId} (hS : tysOk tt S = true) {f : FuncId} {ts : List TypeId} {g : List D → Option (List D)} {s : Sig} (hok : FnOk P tt cl f s) (hs : s = ⟨ts.map fun _ => .val, ts.map (Rt.of tt), [⟨false, [.bool]⟩], g⟩)
    (hg : ∀ xs, WtArgs tt ts xs → g xs = some [D.bool true]) (ht : ∀ t ∈ ts, lawTy tt S t = true) {vs : List Value} {ds : List (DataW H)} {ps : List MemPlace}
    (hv : ∀ (j : Nat) t v, ts[j]? = some t → vs[j]? = some v → Value.okWide P w .any base t v) (h : DataW.TrodAll enc P w 0 (fun _ => true) held ts vs ds ps) :
    Calls P f vs.toArray w fun e w' => e = .returned (.bool true) ∧ RowKit.Below w.heap.size w w' := by
  subst hs
  obtain ⟨xs, h1, h2⟩ := args_in (cl := cl) hP hS ht hv h
  refine (hok.does xs _ (hg xs h2) w vs (All_ w) (fun _ => False) h1 (fun _ _ h => h) (by rintro c (h | h); exact h; exact h.elim)).mono ?_
  rintro e w' ⟨us, B1, B2, rfl, hext, hres, _⟩
  refine ⟨?_, ⟨hext.os, hext.tape, hext.out, hext.size, fun k hk => hext.same k hk fun h => h⟩⟩
  match us, hres with
  | [u], hres =>
    obtain ⟨C1, C2, k1, _⟩ := hres
    simp only [ResR, cond_false, nth] at k1
    cases k1
    rfl
  | _ :: _ :: _, hres => obtain ⟨C1, C2, _, k2, _⟩ := hres; exact k2.elim
theorem args_back (hl : laidOutB P = true) {W W' : World} (hb : RowKit.Below W.heap.size W W') : ∀ {ts : List TypeId} {vs : List Value} {ds : List (DataW H)} {ps : List MemPlace},
    (∀ t ∈ ts, P.readableRec t = true ∧ t < P.types.size) → DataW.TrodAll enc P W 0 (fun _ => true) true ts vs ds ps → DataW.TrodAll enc P W' 0 (fun b => decide (b < W.heap.size)) true ts vs ds ps
  | [], vs, ds, ps, _, h => by
    obtain ⟨rfl, rfl, rfl⟩ := trodAll_nil h
    exact h
  | t :: ts, vs, ds, ps, ht, h => by
    obtain ⟨v, vs', d, ds', p, q, rfl, rfl, rfl, h1, h2⟩ := trodAll_cons h
    have := args_back hl hb (fun t ht' => ht t (List.mem_cons_of_mem _ ht')) h2
    obtain ⟨r1, r2⟩ := ht t (List.mem_cons_self ..)
    have hlt : ∀ x ∈ p, x.block < W.heap.size := by obtain ⟨m, hm⟩ := h1; exact DataW.trod_lt m _ _ _ hm
    exact trodAll_cons_mk (RowKit.Below.trod hl r1 r2 h1 hb hlt) this
end
end Go.Ev
end
