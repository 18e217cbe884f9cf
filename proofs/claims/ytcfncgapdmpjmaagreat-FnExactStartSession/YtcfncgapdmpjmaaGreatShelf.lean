/-
  DERIVED: THE SHELF's CONTRACTS AT THIS DUMP, IN PLAIN WORDS (tools/lay-plain.mjs out of 'TryzShelf.lean', which tools/lay-shelf.mjs wrote): THE SAME DECLARATIONS UNDER THE SAME NAMES: 'import', 'namespace', 'open', 'def', 'theorem' AND NOTHING ELSE: no command of the shelf's: FOR A HAND-IN. Each laying: the table of numbers ('.._ren') and one theorem, a field a fact of the dump's own or the kernel's comparison; each contract: ONE APPLICATION.
-/
import Derived.Shelf.Small.Bits
import Derived.Shelf.Strconv.Itoa0
import Derived.Shelf.Sort.Plain
import Derived.Ground.Names2Prog
import Derived.Shelf.Slices.CompactI
import Derived.Shelf.Slices.SearchI
import Derived.Shelf.Slices.Cells
import Derived.Shelf.Slices.In.SortNone
import Derived.Test.YtcfncgapdmpjmaaGreatProg
set_option linter.unusedVariables false
set_option linter.unusedSimpArgs false
namespace Go.Proofs
open Go.Shelf
def Tryz.lays189_ren : Go.Shelf.Ren := ⟨fun | 189 => 455 | 125 => 461 | 257 => 460 | 128 => 474 | 129 => 475 | 294 => 465 | 295 => 466 | 296 => 467 | 297 => 468 | 298 => 469 | 299 => 470 | 216 => 471 | 300 => 472 | 301 => 473 | 328 => 476 | 329 => 477 | 330 => 478 | 331 => 479 | 332 => 480 | 215 => 481 | 343 => 482 | n => n, fun | 28 => 94 | 3 => 3 | 46 => 327 | 0 => 0 | 51 => 452 | 53 => 454 | 4 => 4 | 183 => 446 | 182 => 445 | 131 => 449 | 5 => 5 | 9 => 9 | 218 => 455 | 222 => 459 | 228 => 461 | 229 => 82 | n => n, fun | n => n⟩
theorem Tryz.lays189 : Go.Proofs.Lays.n189 Tryz.prog Tryz.lays189_ren := {
  mixed := by kernel_rfl
  f125 := Tryz.func461.trans (congrArg some (by kernel_rfl))
  f128 := Tryz.func474.trans (congrArg some (by kernel_rfl))
  f129 := Tryz.func475.trans (congrArg some (by kernel_rfl))
  f189 := Tryz.func455.trans (congrArg some (by kernel_rfl))
  f215 := Tryz.func481.trans (congrArg some (by kernel_rfl))
  f216 := Tryz.func471.trans (congrArg some (by kernel_rfl))
  f257 := Tryz.func460.trans (congrArg some (by kernel_rfl))
  f294 := Tryz.func465.trans (congrArg some (by kernel_rfl))
  f295 := Tryz.func466.trans (congrArg some (by kernel_rfl))
  f296 := Tryz.func467.trans (congrArg some (by kernel_rfl))
  f297 := Tryz.func468.trans (congrArg some (by kernel_rfl))
  f298 := Tryz.func469.trans (congrArg some (by kernel_rfl))
  f299 := Tryz.func470.trans (congrArg some (by kernel_rfl))
  f300 := Tryz.func472.trans (congrArg some (by kernel_rfl))
  f301 := Tryz.func473.trans (congrArg some (by kernel_rfl))
  f328 := Tryz.func476.trans (congrArg some (by kernel_rfl))
  f329 := Tryz.func477.trans (congrArg some (by kernel_rfl))
  f330 := Tryz.func478.trans (congrArg some (by kernel_rfl))
  f331 := Tryz.func479.trans (congrArg some (by kernel_rfl))
  f332 := Tryz.func480.trans (congrArg some (by kernel_rfl))
  f343 := Tryz.func482.trans (congrArg some (by kernel_rfl))
  t0 := Tryz.underlying0
  a0 := Tryz.isAgg0
  z0 := Tryz.sizeOf0
  v0 := Tryz.zeroValue0
  t3 := Tryz.underlying3
  a3 := Tryz.isAgg3
  z3 := Tryz.sizeOf3
  v3 := Tryz.zeroValue3
  t4 := Tryz.underlying4
  a4 := Tryz.isAgg4
  z4 := Tryz.sizeOf4
  v4 := Tryz.zeroValue4
  t5 := Tryz.underlying5
  a5 := Tryz.isAgg5
  z5 := Tryz.sizeOf5
  v5 := Tryz.zeroValue5
  t9 := Tryz.underlying9
  a9 := Tryz.isAgg9
  z9 := Tryz.sizeOf9
  v9 := Tryz.zeroValue9
  t28 := Tryz.underlying94
  a28 := Tryz.isAgg94
  z28 := Tryz.sizeOf94
  v28 := Tryz.zeroValue94
  t46 := Tryz.underlying327
  a46 := Tryz.isAgg327
  z46 := Tryz.sizeOf327
  v46 := Tryz.zeroValue327
  t51 := Tryz.underlying452
  a51 := Tryz.isAgg452
  z51 := Tryz.sizeOf452
  v51 := Tryz.zeroValue452
  t53 := Tryz.underlying454
  a53 := Tryz.isAgg454
  z53 := Tryz.sizeOf454
  v53 := Tryz.zeroValue454
  t131 := Tryz.underlying449
  a131 := Tryz.isAgg449
  z131 := Tryz.sizeOf449
  v131 := Tryz.zeroValue449
  t182 := Tryz.underlying445
  a182 := Tryz.isAgg445
  z182 := Tryz.sizeOf445
  v182 := Tryz.zeroValue445
  t183 := Tryz.underlying446
  a183 := Tryz.isAgg446
  z183 := Tryz.sizeOf446
  v183 := Tryz.zeroValue446
  t218 := Tryz.underlying455
  a218 := Tryz.isAgg455
  z218 := Tryz.sizeOf455
  v218 := Tryz.zeroValue455
  t222 := Tryz.underlying459
  a222 := Tryz.isAgg459
  z222 := Tryz.sizeOf459
  v222 := Tryz.zeroValue459
  t228 := Tryz.underlying461
  a228 := Tryz.isAgg461
  z228 := Tryz.sizeOf461
  v228 := Tryz.zeroValue461
  t229 := Tryz.underlying82
  a229 := Tryz.isAgg82
  z229 := Tryz.sizeOf82
  v229 := Tryz.zeroValue82 }
def Tryz.laysNm220_ren : Go.Shelf.Ren := ⟨fun | 20 => 456 | n => n, fun | 22 => 94 | 3 => 3 | 4 => 4 | 0 => 0 | n => n, fun | n => n⟩
theorem Tryz.laysNm220 : Go.Proofs.Lays2.n20 Tryz.prog Tryz.laysNm220_ren := {
  mixed := by kernel_rfl
  f20 := Tryz.func456.trans (congrArg some (by kernel_rfl))
  t0 := Tryz.underlying0
  a0 := Tryz.isAgg0
  z0 := Tryz.sizeOf0
  v0 := Tryz.zeroValue0
  t3 := Tryz.underlying3
  a3 := Tryz.isAgg3
  z3 := Tryz.sizeOf3
  v3 := Tryz.zeroValue3
  t4 := Tryz.underlying4
  a4 := Tryz.isAgg4
  z4 := Tryz.sizeOf4
  v4 := Tryz.zeroValue4
  t22 := Tryz.underlying94
  a22 := Tryz.isAgg94
  z22 := Tryz.sizeOf94
  v22 := Tryz.zeroValue94
  i3 := by kernel_rfl }
open Go.Sort Go.RowKit in
theorem Tryz.slices_Sort_int (blk off cap : Nat) (zs : List Int) (w : World) (hH : Holds (Value.int .i64) w blk off zs.toArray) (hblk : blk < w.heap.size) (hsz : zs.length < 4611686018427387904) :
    Calls Tryz.prog 455 #[.slice (some ⟨blk, off, none⟩) zs.length cap] w fun e w' =>
      e = .returned (.tuple #[]) ∧ ∃ n os, w' = grow (putRow (Value.int .i64) (Sort.ahead w n) blk off (zs.mergeSort fun x y => decide (x ≤ y)).toArray) os := Any.slices_Sort_int Tryz.lays189 blk off cap zs w hH hblk hsz
open Go.RowKit Go.Lib Go.Sort in
/-- slices.Compact at []int: "Compact replaces consecutive runs of equal elements with a single copy. This is like the uniq command found on Unix. Compact modifies the contents of the slice s and returns the modified slice, which may have a smaller length. Compact zeroes the elements between the new length and the original length. The result preserves the nilness of s.": IT RETURNS THE SLICE CUT TO 'Lib.compact zs'; ITS CELLS HOLD 'Lib.compact zs', THEN ZERO VALUES up to the old length; all else is as it was, but for the count of draws. IN THE WORDS OF slices.Sort's CONTRACT ('Holds', 'putRow'): so the everyday 'slices.Sort(xs); xs = slices.Compact(xs)' goes from the one contract to the other. It asks 'zs.length ≤ cap' (every slice's: the reslicing 's[:k]' looks at it). Length 0, nil: '.._empty'. (LAID: no walk: one application.) -/
theorem Tryz.slices_Compact_int (blk off cap : Nat) (zs : List Int) (w : World) (hH : Holds (Value.int .i64) w blk off zs.toArray) (hsz : zs.length ≤ 9223372036854775807) (hcap : zs.length ≤ cap) :
    Calls Tryz.prog 456 #[.slice (some ⟨blk, off, none⟩) zs.length cap] w fun e w' => e = .returned (.slice (some ⟨blk, off, none⟩) (Lib.compact zs).length cap) ∧ ∃ q, w' = putRow (Value.int .i64) (Sort.ahead w q) blk off (Lib.compact zs ++ List.replicate (zs.length - (Lib.compact zs).length) 0).toArray := Any.slices_Compact_int Tryz.laysNm220 blk off cap zs w hH hsz hcap
open Go.RowKit Go.Lib Go.Sort in
/-- The same at a slice of length 0, a nil one too: it comes back as it is. (LAID: no walk: one application.) -/
theorem Tryz.slices_Compact_int_empty (a : Option Addr) (cap : Nat) (w : World) :
    Calls Tryz.prog 456 #[.slice a 0 cap] w fun e w' => e = .returned (.slice a 0 cap) ∧ w' = w := Any.slices_Compact_int_empty Tryz.laysNm220 a cap w
open Go.RowKit Go.Sort in
/-- .. and plain. (LAID: no walk: one application.) -/
theorem Tryz.slices_Sort_int_none (p : Option Addr) (cap : Nat) (w : World) :
    Calls Tryz.prog 455 #[.slice p 0 cap] w fun e w' => e = .returned (.tuple #[]) ∧ w' = w := Any.slices_Sort_int_none Tryz.lays189 p cap w
end Go.Proofs
