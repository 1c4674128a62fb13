/- Part 11 of the proof: BrokerNil returns true at every operation and leaves its argument as it was (the tied card, no condition). -/
import Derived.Test.YtjamfnaepkheeaaGreatDoorProg
import Derived.KernelRfl
import Derived.Test.YtjamfnaepkheeaaGreatDoorA09

/- slices.Sorted over maps.Keys at this program: what is asked of its texts. (Written by mksrt.py.) -/
namespace Go.Proofs.AeT
open Go Go.AE Go.Proofs Go.Shelf
noncomputable section
def renK : Ren := ⟨fun x => match x with | 6 => 51 | 7 => 52 | 8 => 107 | 9 => 102 | 10 => 108 | 11 => 150 | n => n, fun x => match x with | 0 => 0 | 3 => 4 | 4 => 4 | 23 => 108 | 24 => 33 | 26 => 3 | 27 => 114 | 28 => 115 | 33 => 200 | n => n, fun x => x⟩
def renS : Ren := ⟨fun x => match x with | 5 => 102 | 8 => 141 | 7 => 140 | 19 => 182 | 20 => 183 | 10 => 173 | 11 => 174 | 12 => 175 | 13 => 176 | 14 => 177 | 15 => 178 | 16 => 179 | 17 => 180 | 18 => 181 | 30 => 214 | 31 => 215 | 32 => 216 | 33 => 217 | 34 => 218 | 35 => 116 | 40 => 253 | n => n, fun x => match x with | 23 => 33 | 25 => 3 | 3 => 3 | 32 => 238 | 22 => 33 | 0 => 0 | 44 => 282 | 46 => 22 | 4 => 4 | 36 => 275 | 35 => 274 | 41 => 279 | 5 => 5 | 9 => 9 | 53 => 316 | 57 => 302 | 63 => 361 | 64 => 90 | n => n, fun x => x⟩
theorem sortedA : SlLaysZI.n6 Tryz.prog renK where
  mixed := by kernel_rfl
  f6 := ⟨"slices.Sorted[int]", by decide, Tryz.func51⟩
  f8 := ⟨"slices.Collect[int]", by decide, Tryz.func107⟩
  f11 := ⟨"slices.AppendSeq[[]int,int]", by decide, Tryz.func150⟩
  t0 := Tryz.underlying0
  a0 := Tryz.isAgg0
  z0 := Tryz.sizeOf0
  v0 := Tryz.zeroValue0
  t24 := Tryz.underlying33
  a24 := Tryz.isAgg33
  z24 := Tryz.sizeOf33
  v24 := Tryz.zeroValue33
  t26 := Tryz.underlying3
  a26 := Tryz.isAgg3
  z26 := Tryz.sizeOf3
  v26 := Tryz.zeroValue3
  t28 := Tryz.underlying115
  a28 := Tryz.isAgg115
  z28 := Tryz.sizeOf115
  v28 := Tryz.zeroValue115
  i26 := by kernel_rfl
theorem keysA : SlLaysZI.n7 Tryz.prog renK where
  mixed := by kernel_rfl
  f7 := ⟨"maps.Keys[map[int]bool,int,bool]", by decide, Tryz.func52⟩
  f10 := ⟨"maps.Keys[map[int]bool,int,bool]$1", by decide, Tryz.func108⟩
  t0 := Tryz.underlying0
  a0 := Tryz.isAgg0
  z0 := Tryz.sizeOf0
  v0 := Tryz.zeroValue0
  t4 := Tryz.underlying4
  a4 := Tryz.isAgg4
  z4 := Tryz.sizeOf4
  v4 := Tryz.zeroValue4
  t23 := Tryz.underlying108
  a23 := Tryz.isAgg108
  z23 := Tryz.sizeOf108
  v23 := Tryz.zeroValue108
  t26 := Tryz.underlying3
  a26 := Tryz.isAgg3
  z26 := Tryz.sizeOf3
  v26 := Tryz.zeroValue3
  t27 := Tryz.underlying114
  a27 := Tryz.isAgg114
  z27 := Tryz.sizeOf114
  v27 := Tryz.zeroValue114
  t28 := Tryz.underlying115
  a28 := Tryz.isAgg115
  z28 := Tryz.sizeOf115
  v28 := Tryz.zeroValue115
  t33 := Tryz.underlying200
  a33 := Tryz.isAgg200
  z33 := Tryz.sizeOf200
  v33 := Tryz.zeroValue200
theorem sortA : SlLaysM.n5 Tryz.prog renS where
  mixed := by kernel_rfl
  f5 := ⟨"slices.Sort[[]int,int]", by decide, Tryz.func102⟩
  f7 := ⟨"slices.pdqsortOrdered[int]", by decide, Tryz.func140⟩
  f8 := Tryz.func141
  f10 := ⟨"slices.insertionSortOrdered[int]", by decide, Tryz.func173⟩
  f11 := ⟨"slices.heapSortOrdered[int]", by decide, Tryz.func174⟩
  f12 := ⟨"slices.breakPatternsOrdered[int]", by decide, Tryz.func175⟩
  f13 := ⟨"slices.choosePivotOrdered[int]", by decide, Tryz.func176⟩
  f14 := ⟨"slices.reverseRangeOrdered[int]", by decide, Tryz.func177⟩
  f15 := ⟨"slices.partialInsertionSortOrdered[int]", by decide, Tryz.func178⟩
  f16 := ⟨"cmp.Less[int]", by decide, Tryz.func179⟩
  f17 := ⟨"slices.partitionEqualOrdered[int]", by decide, Tryz.func180⟩
  f18 := ⟨"slices.partitionOrdered[int]", by decide, Tryz.func181⟩
  f19 := Tryz.func182
  f20 := Tryz.func183
  f30 := ⟨"slices.siftDownOrdered[int]", by decide, Tryz.func214⟩
  f31 := Tryz.func215
  f32 := Tryz.func216
  f33 := ⟨"slices.medianAdjacentOrdered[int]", by decide, Tryz.func217⟩
  f34 := ⟨"slices.medianOrdered[int]", by decide, Tryz.func218⟩
  f35 := ⟨"cmp.isNaN[int]", by decide, Tryz.func116⟩
  f40 := ⟨"slices.order2Ordered[int]", by decide, Tryz.func253⟩
  t0 := Tryz.underlying0
  a0 := Tryz.isAgg0
  z0 := Tryz.sizeOf0
  v0 := Tryz.zeroValue0
  t3 := Tryz.underlying3
  a3 := Tryz.isAgg3
  z3 := Tryz.sizeOf3
  v3 := Tryz.zeroValue3
  t4 := Tryz.underlying4
  a4 := Tryz.isAgg4
  z4 := Tryz.sizeOf4
  v4 := Tryz.zeroValue4
  t5 := Tryz.underlying5
  a5 := Tryz.isAgg5
  z5 := Tryz.sizeOf5
  v5 := Tryz.zeroValue5
  t9 := Tryz.underlying9
  a9 := Tryz.isAgg9
  z9 := Tryz.sizeOf9
  v9 := Tryz.zeroValue9
  t22 := Tryz.underlying33
  a22 := Tryz.isAgg33
  z22 := Tryz.sizeOf33
  v22 := Tryz.zeroValue33
  t23 := Tryz.underlying33
  a23 := Tryz.isAgg33
  z23 := Tryz.sizeOf33
  v23 := Tryz.zeroValue33
  t25 := Tryz.underlying3
  a25 := Tryz.isAgg3
  z25 := Tryz.sizeOf3
  v25 := Tryz.zeroValue3
  t32 := Tryz.underlying238
  a32 := Tryz.isAgg238
  z32 := Tryz.sizeOf238
  v32 := Tryz.zeroValue238
  t35 := Tryz.underlying274
  a35 := Tryz.isAgg274
  z35 := Tryz.sizeOf274
  v35 := Tryz.zeroValue274
  t36 := Tryz.underlying275
  a36 := Tryz.isAgg275
  z36 := Tryz.sizeOf275
  v36 := Tryz.zeroValue275
  t41 := Tryz.underlying279
  a41 := Tryz.isAgg279
  z41 := Tryz.sizeOf279
  v41 := Tryz.zeroValue279
  t44 := Tryz.underlying282
  a44 := Tryz.isAgg282
  z44 := Tryz.sizeOf282
  v44 := Tryz.zeroValue282
  t46 := Tryz.underlying22
  a46 := Tryz.isAgg22
  z46 := Tryz.sizeOf22
  v46 := Tryz.zeroValue22
  t53 := Tryz.underlying316
  a53 := Tryz.isAgg316
  z53 := Tryz.sizeOf316
  v53 := Tryz.zeroValue316
  t57 := Tryz.underlying302
  a57 := Tryz.isAgg302
  z57 := Tryz.sizeOf302
  v57 := Tryz.zeroValue302
  t63 := Tryz.underlying361
  a63 := Tryz.isAgg361
  z63 := Tryz.sizeOf361
  v63 := Tryz.zeroValue361
  t64 := Tryz.underlying90
  a64 := Tryz.isAgg90
  z64 := Tryz.sizeOf90
  v64 := Tryz.zeroValue90
theorem sortsA (m : Nat) : AnyZI.SortsIn Tryz.prog renK Fence.wide m :=
  ⟨fun blk off cap ss W hH hblk hsz => callsIn_wide.2 (AnyM.slices_Sort_int sortA blk off cap ss W hH hblk hsz),
   fun p cap W => callsIn_wide.2 (AnyM.slices_Sort_int_none sortA p cap W)⟩
theorem sortedFact : SortedFact Tryz.prog renK := ⟨sortedA, { keysA with }, sortsA, enters_of Tryz.func102 (by kernel_rfl) rfl, enters_of Tryz.func108 (by kernel_rfl) rfl, by decide, by kernel_rfl⟩
end
end Go.Proofs.AeT
