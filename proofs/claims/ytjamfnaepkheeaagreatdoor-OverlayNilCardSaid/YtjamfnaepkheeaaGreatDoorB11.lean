/- Part 11 of the proof: OverlayNil returns true at every operation and leaves its argument as it was (the tied card, no condition). -/
import Derived.Test.YtjamfnaepkheeaaGreatDoorProg
import Derived.KernelRfl
import Derived.Test.YtjamfnaepkheeaaGreatDoorB09
import Derived.WalkKit
import Derived.Maps.RangeWalk
import Derived.DeepKeys4

/- slices.Sorted over maps.Keys at this program: what is asked of its texts. (Written by mksrt.py.) -/
namespace Go.Proofs.AeT
open Go Go.AE Go.Proofs Go.Shelf
noncomputable section
def renK : Ren := ⟨fun x => match x with | 6 => 51 | 7 => 52 | 8 => 107 | 9 => 102 | 10 => 108 | 11 => 150 | n => n, fun x => match x with | 0 => 0 | 3 => 4 | 4 => 4 | 23 => 108 | 24 => 33 | 26 => 3 | 27 => 114 | 28 => 115 | 33 => 200 | n => n, fun x => x⟩
def renS : Ren := ⟨fun x => match x with | 5 => 102 | 8 => 141 | 7 => 140 | 19 => 182 | 20 => 183 | 10 => 173 | 11 => 174 | 12 => 175 | 13 => 176 | 14 => 177 | 15 => 178 | 16 => 179 | 17 => 180 | 18 => 181 | 30 => 214 | 31 => 215 | 32 => 216 | 33 => 217 | 34 => 218 | 35 => 116 | 40 => 253 | n => n, fun x => match x with | 23 => 33 | 25 => 3 | 3 => 3 | 32 => 238 | 22 => 33 | 0 => 0 | 44 => 282 | 46 => 22 | 4 => 4 | 36 => 275 | 35 => 274 | 41 => 279 | 5 => 5 | 9 => 9 | 53 => 316 | 57 => 302 | 63 => 361 | 64 => 90 | n => n, fun x => x⟩
theorem sortedA : SlLaysZI.n6 Tryz.prog renK where
  mixed := by kernel_rfl
  f6 := ⟨"slices.Sorted[int]", by decide, Tryz.func51⟩
  f8 := ⟨"slices.Collect[int]", by decide, Tryz.func107⟩
  f11 := ⟨"slices.AppendSeq[[]int,int]", by decide, Tryz.func150⟩
  t0 := Tryz.underlying0
  a0 := Tryz.isAgg0
  z0 := Tryz.sizeOf0
  v0 := Tryz.zeroValue0
  t24 := Tryz.underlying33
  a24 := Tryz.isAgg33
  z24 := Tryz.sizeOf33
  v24 := Tryz.zeroValue33
  t26 := Tryz.underlying3
  a26 := Tryz.isAgg3
  z26 := Tryz.sizeOf3
  v26 := Tryz.zeroValue3
  t28 := Tryz.underlying115
  a28 := Tryz.isAgg115
  z28 := Tryz.sizeOf115
  v28 := Tryz.zeroValue115
  i26 := by kernel_rfl
theorem keysA : SlLaysZI.n7 Tryz.prog renK where
  mixed := by kernel_rfl
  f7 := ⟨"maps.Keys[map[int]bool,int,bool]", by decide, Tryz.func52⟩
  f10 := ⟨"maps.Keys[map[int]bool,int,bool]$1", by decide, Tryz.func108⟩
  t0 := Tryz.underlying0
  a0 := Tryz.isAgg0
  z0 := Tryz.sizeOf0
  v0 := Tryz.zeroValue0
  t4 := Tryz.underlying4
  a4 := Tryz.isAgg4
  z4 := Tryz.sizeOf4
  v4 := Tryz.zeroValue4
  t23 := Tryz.underlying108
  a23 := Tryz.isAgg108
  z23 := Tryz.sizeOf108
  v23 := Tryz.zeroValue108
  t26 := Tryz.underlying3
  a26 := Tryz.isAgg3
  z26 := Tryz.sizeOf3
  v26 := Tryz.zeroValue3
  t27 := Tryz.underlying114
  a27 := Tryz.isAgg114
  z27 := Tryz.sizeOf114
  v27 := Tryz.zeroValue114
  t28 := Tryz.underlying115
  a28 := Tryz.isAgg115
  z28 := Tryz.sizeOf115
  v28 := Tryz.zeroValue115
  t33 := Tryz.underlying200
  a33 := Tryz.isAgg200
  z33 := Tryz.sizeOf200
  v33 := Tryz.zeroValue200
theorem sortA : SlLaysM.n5 Tryz.prog renS where
  mixed := by kernel_rfl
  f5 := ⟨"slices.Sort[[]int,int]", by decide, Tryz.func102⟩
  f7 := ⟨"slices.pdqsortOrdered[int]", by decide, Tryz.func140⟩
  f8 := Tryz.func141
  f10 := ⟨"slices.insertionSortOrdered[int]", by decide, Tryz.func173⟩
  f11 := ⟨"slices.heapSortOrdered[int]", by decide, Tryz.func174⟩
  f12 := ⟨"slices.breakPatternsOrdered[int]", by decide, Tryz.func175⟩
  f13 := ⟨"slices.choosePivotOrdered[int]", by decide, Tryz.func176⟩
  f14 := ⟨"slices.reverseRangeOrdered[int]", by decide, Tryz.func177⟩
  f15 := ⟨"slices.partialInsertionSortOrdered[int]", by decide, Tryz.func178⟩
  f16 := ⟨"cmp.Less[int]", by decide, Tryz.func179⟩
  f17 := ⟨"slices.partitionEqualOrdered[int]", by decide, Tryz.func180⟩
  f18 := ⟨"slices.partitionOrdered[int]", by decide, Tryz.func181⟩
  f19 := Tryz.func182
  f20 := Tryz.func183
  f30 := ⟨"slices.siftDownOrdered[int]", by decide, Tryz.func214⟩
  f31 := Tryz.func215
  f32 := Tryz.func216
  f33 := ⟨"slices.medianAdjacentOrdered[int]", by decide, Tryz.func217⟩
  f34 := ⟨"slices.medianOrdered[int]", by decide, Tryz.func218⟩
  f35 := ⟨"cmp.isNaN[int]", by decide, Tryz.func116⟩
  f40 := ⟨"slices.order2Ordered[int]", by decide, Tryz.func253⟩
  t0 := Tryz.underlying0
  a0 := Tryz.isAgg0
  z0 := Tryz.sizeOf0
  v0 := Tryz.zeroValue0
  t3 := Tryz.underlying3
  a3 := Tryz.isAgg3
  z3 := Tryz.sizeOf3
  v3 := Tryz.zeroValue3
  t4 := Tryz.underlying4
  a4 := Tryz.isAgg4
  z4 := Tryz.sizeOf4
  v4 := Tryz.zeroValue4
  t5 := Tryz.underlying5
  a5 := Tryz.isAgg5
  z5 := Tryz.sizeOf5
  v5 := Tryz.zeroValue5
  t9 := Tryz.underlying9
  a9 := Tryz.isAgg9
  z9 := Tryz.sizeOf9
  v9 := Tryz.zeroValue9
  t22 := Tryz.underlying33
  a22 := Tryz.isAgg33
  z22 := Tryz.sizeOf33
  v22 := Tryz.zeroValue33
  t23 := Tryz.underlying33
  a23 := Tryz.isAgg33
  z23 := Tryz.sizeOf33
  v23 := Tryz.zeroValue33
  t25 := Tryz.underlying3
  a25 := Tryz.isAgg3
  z25 := Tryz.sizeOf3
  v25 := Tryz.zeroValue3
  t32 := Tryz.underlying238
  a32 := Tryz.isAgg238
  z32 := Tryz.sizeOf238
  v32 := Tryz.zeroValue238
  t35 := Tryz.underlying274
  a35 := Tryz.isAgg274
  z35 := Tryz.sizeOf274
  v35 := Tryz.zeroValue274
  t36 := Tryz.underlying275
  a36 := Tryz.isAgg275
  z36 := Tryz.sizeOf275
  v36 := Tryz.zeroValue275
  t41 := Tryz.underlying279
  a41 := Tryz.isAgg279
  z41 := Tryz.sizeOf279
  v41 := Tryz.zeroValue279
  t44 := Tryz.underlying282
  a44 := Tryz.isAgg282
  z44 := Tryz.sizeOf282
  v44 := Tryz.zeroValue282
  t46 := Tryz.underlying22
  a46 := Tryz.isAgg22
  z46 := Tryz.sizeOf22
  v46 := Tryz.zeroValue22
  t53 := Tryz.underlying316
  a53 := Tryz.isAgg316
  z53 := Tryz.sizeOf316
  v53 := Tryz.zeroValue316
  t57 := Tryz.underlying302
  a57 := Tryz.isAgg302
  z57 := Tryz.sizeOf302
  v57 := Tryz.zeroValue302
  t63 := Tryz.underlying361
  a63 := Tryz.isAgg361
  z63 := Tryz.sizeOf361
  v63 := Tryz.zeroValue361
  t64 := Tryz.underlying90
  a64 := Tryz.isAgg90
  z64 := Tryz.sizeOf90
  v64 := Tryz.zeroValue90
theorem sortsA (m : Nat) : AnyZI.SortsIn Tryz.prog renK Fence.wide m :=
  ⟨fun blk off cap ss W hH hblk hsz => callsIn_wide.2 (AnyM.slices_Sort_int sortA blk off cap ss W hH hblk hsz),
   fun p cap W => callsIn_wide.2 (AnyM.slices_Sort_int_none sortA p cap W)⟩
theorem sortedFact : SortedFact Tryz.prog renK := ⟨sortedA, { keysA with }, sortsA, enters_of Tryz.func102 (by kernel_rfl) rfl, enters_of Tryz.func108 (by kernel_rfl) rfl, by decide, by kernel_rfl⟩
end
end Go.Proofs.AeT

/- (*link.Net).Total at this program: a sum over a map, in whatever order. -/
namespace Go.Proofs.AeT
open Go Go.AE Go.Proofs Go.RowKit
noncomputable section

theorem keyed156 : Maps.Keyed Tryz.prog 156 := Maps.Keyed.of_law (deep_law_laid (by kernel_rfl) (m := 2) (by omega) (of_decide_eq_true (by kernel_rfl)) (by kernel_rfl) (by rw [Tryz.underlying156]))

def lenV : Value → Int
  | .slice _ n _ => n
  | _ => 0
/-- An element that is a slice reads as its length. -/
def RL (v : Value) : Option (DataW Unit × List MemPlace) :=
  match v with
  | .slice _ n _ => some (.lit (.int .i64 n), [])
  | _ => none
theorem RL_inv {v : Value} {y : DataW Unit × List MemPlace} (h : RL v = some y) : (∃ a n c, v = .slice a n c) ∧ y.1 = .lit (.int .i64 (lenV v)) := by
  unfold RL at h
  split at h
  · cases h; exact ⟨⟨_, _, _, rfl⟩, rfl⟩
  · simp at h

/-- What is still to come. -/
def toCome (left : Lit → Bool) (es : List MapEntry) : Int := (es.map fun x => if left (WideElems.rg Tryz.prog 156 RL x).1 then lenV x.val else 0).sum

open Classical in
theorem toCome_step {E : Array MapEntry} {clock : Nat} (F : WideElems.Fit Tryz.prog 156 RL E clock) {left : Lit → Bool} {kl : Lit} (hlk : left kl = true) {n : Int} (hat : ∀ x ∈ E.toList, (WideElems.rg Tryz.prog 156 RL x).1 = kl → lenV x.val = n) (hex : ∃ x ∈ E.toList, (WideElems.rg Tryz.prog 156 RL x).1 = kl) :
    toCome left E.toList = n + toCome (fun z => left z && !z.sameKey kl) E.toList := by
  have hst := (MapKept.stamped_iff E clock).1 F.stamped
  obtain ⟨x0, hx0, hk0⟩ := hex
  have hself : kl.sameKey kl = true := by
    obtain ⟨y, hy⟩ := F.reads x0 hx0
    rw [← hk0, WideElems.rg_of hy]
    exact WideAt.sameKey_self (keyed156.key (WideElems.rd_key hy))
  have key : ∀ (l : List MapEntry), (∀ x ∈ l, x ∈ E.toList) → l.Pairwise (fun x y => x.key ≠ y.key) → (toCome left l = (if x0 ∈ l then n else 0) + toCome (fun z => left z && !z.sameKey kl) l) := by
    intro l
    induction l with
    | nil => intro _ _; simp [toCome]
    | cons x r ih =>
      intro hsub hp
      obtain ⟨hp1, hp2⟩ := List.pairwise_cons.1 hp
      have ih := ih (fun y hy => hsub y (by simp [hy])) hp2
      simp only [toCome, List.map_cons, List.sum_cons] at ih ⊢
      have hx := hsub x (by simp)
      by_cases hkx : (WideElems.rg Tryz.prog 156 RL x).1 = kl
      · have hxe : x = x0 := entry_eq_of_key hst.2.2 hx hx0 (Maps.fit_key_inj keyed156 F hx hx0 (hkx.trans hk0.symm))
        subst hxe
        have hnr : x ∉ r := fun hr => hp1 x hr rfl
        simp only [hkx, hlk, hself, hat x hx hkx, if_true, Bool.not_true, Bool.and_false, Bool.false_eq_true, if_false, List.mem_cons, true_or]
        rw [if_neg hnr] at ih
        omega
      · have hne : ((WideElems.rg Tryz.prog 156 RL x).1.sameKey kl) = false := by
          cases hs : (WideElems.rg Tryz.prog 156 RL x).1.sameKey kl with
          | false => rfl
          | true => exact (hkx (WideAt.sameKey_eq hs)).elim
        have hxe : x0 ≠ x := fun e => hkx (by rw [← e]; exact hk0)
        simp only [hne, Bool.not_false, Bool.and_true, List.mem_cons, hxe, false_or]
        omega
  have := key E.toList (fun _ h => h) hst.2.2
  rw [if_pos hx0] at this
  exact this

theorem toCome_none {left : Lit → Bool} (h : ∀ kl, left kl = false) (es : List MapEntry) : toCome left es = 0 := by
  induction es with
  | nil => rfl
  | cons x r ih => simp only [toCome, List.map_cons, List.sum_cons] at ih ⊢; rw [ih, h]; simp

theorem toCome_le {left : Lit → Bool} : ∀ (es : List MapEntry), 0 ≤ toCome left es ∧ toCome left es ≤ (es.map fun x => lenV x.val).sum
  | [] => by simp [toCome]
  | x :: r => by
    have ih := toCome_le (left := left) r
    have h0 : 0 ≤ lenV x.val := by unfold lenV; split <;> omega
    simp only [toCome, List.map_cons, List.sum_cons] at ih ⊢
    split <;> omega

set_option maxRecDepth 100000 in
set_option maxHeartbeats 1600000 in
theorem total_calls (pb off mb : Nat) (E : Array MapEntry) (clock : Nat) (w : World) (hc : w.cell? ⟨pb, off + 1, none⟩ = some (.map (some mb))) (hE : w.heap[mb]? = some (.map E clock)) (F : WideElems.Fit Tryz.prog 156 RL E clock) (hsum : (E.toList.map fun x => lenV x.val).sum ≤ 1073741824) :
    Calls Tryz.prog 97 #[.pointer (some ⟨pb, off, none⟩)] w fun e w' => e = .returned (.int .i64 ((E.toList.map fun x => lenV x.val).sum)) ∧ Below w.heap.size w w' := by
  have hown : w.ownsMap Tryz.prog 156 RL mb E.size (.map ((E.toList.map (WideElems.rg Tryz.prog 156 RL)).foldr DataW.insert [])) := ⟨E, clock, hE, F, Nat.le_refl _, rfl⟩
  have hlt : mb < w.heap.size := (Array.getElem?_eq_some_iff.1 hE).1
  have hstart : toCome (Maps.has (.map ((E.toList.map (WideElems.rg Tryz.prog 156 RL)).foldr DataW.insert []))) E.toList = (E.toList.map fun x => lenV x.val).sum := by
    unfold toCome
    congr 1
    refine List.map_congr_left fun x hx => ?_
    obtain ⟨y, hy⟩ := F.reads x hx
    have : Maps.has (DataW.map ((E.toList.map (WideElems.rg Tryz.prog 156 RL)).foldr DataW.insert [])) (WideElems.rg Tryz.prog 156 RL x).1 = true :=
      List.any_eq_true.2 ⟨WideElems.rg Tryz.prog 156 RL x, Go.WideShapes.sorted_perm _ |>.mem_iff.2 (List.mem_map.2 ⟨x, hx, rfl⟩), WideAt.sameKey_self (by rw [WideElems.rg_of hy]; exact keyed156.key (WideElems.rd_key hy))⟩
    rw [this]; rfl
  generalize hD : (DataW.map ((E.toList.map (WideElems.rg Tryz.prog 156 RL)).foldr DataW.insert [])) = D0 at hown hstart
  generalize hS : (E.toList.map fun x => lenV x.val).sum = tot at hsum hstart
  have bnd : ∀ left : Lit → Bool, 0 ≤ toCome left E.toList ∧ toCome left E.toList ≤ tot := fun left => by rw [← hS]; exact toCome_le _
  have HS : Hid ((E.toList.map fun x => lenV x.val).sum = tot) := hS
  have HD : Hid (DataW.map ((E.toList.map (WideElems.rg Tryz.prog 156 RL)).foldr DataW.insert []) = D0) := hD
  clear hS hD
  go_enter Tryz.func97, Tryz.ntmps97
  go_wp2_with (first
    | (at_range; refine wpList_range_own _ rfl _ 228 rfl 156 54 keyed156 Tryz.underlying228 _ mb E.size _ rfl hown ?_; intro w0 hrg0 hg0 hs0)
    | go_in)
  go_frame
  go_loopw [2] (fun k wr => ∃ (left : Lit → Bool) (cnt : Nat), wr.ranges Tryz.prog 156 RL mb w.heap.size E.size D0 left cnt ∧ k = .int .i64 (tot - toCome left E.toList) ∧ wr.heap[mb]? = some (.map E clock) ∧ Below w.heap.size w wr)
    (fun _ wr => wr.rangeLeft mb w.heap.size)
  case atStart => exact ⟨_, _, hrg0, by rw [hstart, Int.sub_self], (hg0.block mb hlt (by simp)).trans hE, (Below.refl _ w).grown hg0 (Nat.le_refl _) (by simp)⟩
  case round =>
    obtain ⟨left, cnt, hrg, hk, hEr, hb⟩ := hrel
    subst hk
    go_wp2_with (first
      | (at_next; refine wpList_next_ranges _ rfl _ rfl 156 keyed156 RL id id (fun key kl _ => ⟨key, rfl⟩) (fun v y _ => ⟨v, rfl⟩) mb w.heap.size E.size _ _ _ rfl hrg ?_ ?_)
      | go_in)
    · intro _ hl0
      go_wp2
      go_ret
      exact ⟨by rw [toCome_none hl0, Int.sub_zero]; rfl, hb⟩
    · intro key v kl y pl w1 cnt1 hkey hlk hv hat hrg1 hlt1 hg1 hs1 hen
      obtain ⟨⟨va, vn, vc, rfl⟩, hy⟩ := RL_inv hv
      have hy : y = .lit (.int .i64 vn) := hy
      subst hy
      have hex : ∃ x ∈ E.toList, (WideElems.rg Tryz.prog 156 RL x).1 = kl := by
        obtain ⟨es, c, si, se, c0, g1, _, _, _, _, _, _, _, g2, _⟩ := hrg
        rw [hEr] at g1; cases g1
        exact g2 kl hlk
      have hval : ∀ x ∈ E.toList, (WideElems.rg Tryz.prog 156 RL x).1 = kl → lenV x.val = vn := by
        intro x hx hxk
        obtain ⟨y0, hy0⟩ := F.reads x hx
        have hp : (kl, y0.2) ∈ (E.toList.map (WideElems.rg Tryz.prog 156 RL)).foldr DataW.insert [] := by
          rw [(Go.WideShapes.sorted_perm _).mem_iff]
          refine List.mem_map.2 ⟨x, hx, ?_⟩
          rw [WideElems.rg_of hy0] at hxk ⊢
          rw [← hxk]
        have hk2 : WideAt.IsKeyLit kl := keyed156.key hkey
        have hap := (Go.WideShapes.sorted_perm (E.toList.map (WideElems.rg Tryz.prog 156 RL))).pairwise_iff (R := fun p q : Lit × DataW Unit => p.1 ≠ q.1) (fun h e => h e.symm) |>.2 (Maps.fit_apart keyed156 F)
        have h1 := WideAt.atKey_mem (.nil : DataW Unit) hk2 hap hp
        rw [HD.out, hat] at h1
        obtain ⟨z, hz, hz2⟩ := WideElems.rd_val hy0
        obtain ⟨_, hz3⟩ := RL_inv hz
        rw [hz2, hz3] at h1
        simpa using h1.symm
      have hstep := toCome_step F hlk hval hex
      have hE1 : w1.heap[mb]? = some (.map E clock) := (hg1.block mb (by have := hb.size; omega) (by simp; omega)).trans hEr
      have hb1 : Below w.heap.size w w1 := hb.grown hg1 hb.size (fun k hk => by simp at hk; omega)
      have b1 := bnd left
      have b2 := bnd (fun z => left z && !z.sameKey kl)
      have HW : Hid (wrap64 (tot - toCome left E.toList + (vn : Int)) = tot - toCome (fun z => left z && !z.sameKey kl) E.toList) := by
        show _ = _
        have e : tot - toCome left E.toList + (vn : Int) = tot - toCome (fun z => left z && !z.sameKey kl) E.toList := by omega
        rw [e]
        unfold wrap64
        omega
      have Hlt : Hid (cnt1 < cnt) := hlt1
      clear hstep b1 b2 hval hex hat hlt1 hs1 bnd
      go_wp2
      go_roundw
      case rel => exact ⟨_, cnt1, hrg1, by rw [HW.out], hE1, hb1⟩
      case measure => rw [hrg1.left_eq, hrg.left_eq]; exact Hlt.out

theorem nodupP_iff : ∀ {l : List (Int × Int)}, nodupP l = true → l.Nodup
  | [], _ => List.nodup_nil
  | x :: r, h => by
    simp only [nodupP, Bool.and_eq_true, Bool.not_eq_true', List.any_eq_false, beq_iff_eq] at h
    exact List.nodup_cons.2 ⟨fun hx => h.1 x hx ⟨rfl, rfl⟩, nodupP_iff h.2⟩

/-- A pair as a key. -/
def pairV (p : Int × Int) : Value := .agg #[.int .i64 p.1, .int .i64 p.2]

theorem pair_rel {w : World} {S : Fixed} {β : Emb} : ∀ {ps : List (D × D)} {es : List MapEntry} {ks : List (Int × Int)} {ns : List Nat}, pairsOk w S β ps es → pairsOf (ps.map (·.1)) = some ks → lensOf (ps.map (·.2)) = some ns →
    es.map (·.key) = ks.map pairV ∧ (∀ p ∈ ks, (Lit.int .i64 p.1).wf = true ∧ (Lit.int .i64 p.2).wf = true) ∧ (∀ e ∈ es, ∃ y, RL e.val = some y) ∧ (es.map fun x => lenV x.val).sum = (sumN ns : Int)
  | [], es, ks, ns, h, hk, hn => by
    simp only [pairsOk] at h; subst h
    simp only [List.map_nil, pairsOf, lensOf, Option.some.injEq] at hk hn; subst hk; subst hn
    simp [sumN]
  | p :: r, es, ks, ns, h, hk, hn => by
    obtain ⟨e, es', rfl, h1, h2, h3⟩ := h
    simp only [List.map_cons, pairsOf, lensOf] at hk hn
    split at hk
    case h_2 => simp at hk
    rename_i q qs hq hqs
    split at hn
    case h_2 => simp at hn
    rename_i m ms hm hms
    simp only [Option.some.injEq] at hk hn; subst hk; subst hn
    obtain ⟨i1, i2, i3, i4⟩ := pair_rel h3 hqs hms
    have hk1 : e.key = pairV q ∧ (Lit.int .i64 q.1).wf = true ∧ (Lit.int .i64 q.2).wf = true := by
      unfold pairOf at hq
      split at hq
      · rename_i a b hab
        split at hq
        case isFalse => simp at hq
        rename_i hw
        simp only [Option.some.injEq] at hq; subst hq
        rw [hab] at h1
        obtain ⟨us, he, _, u1, us1, hus, k1, u2, us2, rfl, k2, k3⟩ : ∃ us : Array Value, e.key = .agg us ∧ (∀ u ∈ us.toList, OneC u) ∧ RVs w S β [.int .i64 a, .int .i64 b] us.toList := by simpa only [RV] using h1
        have k3 : us2 = [] := k3
        subst k3
        obtain rfl : u1 = .int .i64 a := by simpa only [RV] using k1
        obtain rfl : u2 = .int .i64 b := by simpa only [RV] using k2
        simp only [Bool.and_eq_true] at hw
        refine ⟨?_, hw.1, hw.2⟩
        rw [he]
        show Value.agg us = .agg _
        congr 1
        apply Array.ext'
        simpa using hus
      · simp at hq
    have hv1 : (∃ y, RL e.val = some y) ∧ lenV e.val = (m : Int) := by
      unfold lenD at hm
      split at hm
      · rename_i xs hx
        simp only [Option.some.injEq] at hm; subst hm
        rw [hx] at h2
        obtain ⟨a, cap, he, _⟩ : ∃ a cap, e.val = .slice a xs.length cap ∧ _ := by simpa only [RV] using h2
        rw [he]
        exact ⟨⟨_, rfl⟩, rfl⟩
      · rename_i hx
        simp only [Option.some.injEq] at hm; subst hm
        rw [hx] at h2
        obtain ⟨a, he⟩ : ∃ a, e.val = .slice a 0 0 := by simpa only [RV] using h2
        rw [he]
        exact ⟨⟨_, rfl⟩, rfl⟩
      · simp at hm
    refine ⟨by simp [hk1.1, i1], fun x hx => ?_, fun x hx => ?_, ?_⟩
    · rcases List.mem_cons.1 hx with rfl | hx
      · exact hk1.2
      · exact i2 x hx
    · rcases List.mem_cons.1 hx with rfl | hx
      · exact hv1.1
      · exact i3 x hx
    · simp only [List.map_cons, List.sum_cons, sumN, hv1.2, i4]
      omega

theorem arr156 : WideMaps.ArrKey Tryz.prog 156 3 2 := ⟨Tryz.underlying156, by kernel_rfl, by kernel_rfl, by kernel_rfl⟩

theorem totalRun_ok {args : List D} {hp : Hp} {R : Res} (hR : totalRun 1 args hp = some R) {w : World} {S : Fixed} {β : Emb} (h : HR Tryz.prog hp w S β) {vs : Array Value} (ha : RVs w S β args vs.toList) : CallsBack Tryz.prog 97 vs w (Back Tryz.prog hp w S β R) := by
  unfold totalRun at hR
  split at hR
  case h_2 => simp at hR
  rename_i id off
  split at hR
  case h_2 => simp at hR
  rename_i m hm
  split at hR
  case h_2 => simp at hR
  rename_i ps hps
  split at hR
  case h_2 => simp at hR
  rename_i ks ns hks hns
  split at hR
  case isFalse => simp at hR
  rename_i hcond
  simp only [Bool.and_eq_true] at hcond
  obtain ⟨c1, c2, c3⟩ := hcond
  have c1 := nodupP_iff c1
  have c2 : ks.length ≤ maxN := Nat.le_of_ble_eq_true c2
  have c3 : sumN ns ≤ maxN := Nat.le_of_ble_eq_true c3
  simp only [Option.some.injEq] at hR; subst hR
  obtain ⟨v1, us, he, h1, h2⟩ := ha
  have h2 : us = [] := h2
  subst h2
  have hvs : vs = #[v1] := by apply Array.ext'; simpa using he
  subst hvs
  obtain rfl : v1 = .pointer (some ⟨β.blk (.h id), off, none⟩) := by simpa only [RV] using h1
  obtain ⟨u, m1, m2, _⟩ := cellI_ok h hm
  obtain rfl : u = .map (some (β.blk (.h m))) := by simpa only [RV] using m2
  have hmm : mapOf (base hp).hp m = some ps := hps
  obtain ⟨⟨⟨E, clock, q1, q2, q3⟩, _⟩, _⟩ := h.1.obj _ _ (mapOf_get hmm)
  obtain ⟨r1, r2, r3, r4⟩ := pair_rel q2 hks hns
  have hlen : E.size = ks.length := by
    have := congrArg List.length r1
    simpa using this
  have keyAt : ∀ x ∈ E.toList, ∃ p ∈ ks, x.key = pairV p := fun x hx => by
    have : x.key ∈ E.toList.map (·.key) := List.mem_map_of_mem hx
    rw [r1] at this
    obtain ⟨p, hp, e⟩ := List.mem_map.1 this
    exact ⟨p, hp, e.symm⟩
  have hnd : E.toList.Pairwise (fun x y => x.key ≠ y.key) := by
    have : (E.toList.map (·.key)).Pairwise (· ≠ ·) := by
      rw [r1]
      refine List.pairwise_map.2 (c1.imp fun hne e => hne ?_)
      simp only [pairV, Value.agg.injEq] at e
      have := congrArg Array.toList e
      simp at this
      exact Prod.ext this.1 this.2
    exact List.pairwise_map.1 this
  have hstamp : MapKept.Stamped E clock := (MapKept.stamped_iff E clock).2 ⟨q3.1, List.pairwise_map.2 q3.2, hnd⟩
  have hmax : maxN ≤ maxLen := by decide
  have hfit : WideElems.Fit Tryz.prog 156 RL E clock := ⟨by omega, hstamp, fun x hx => by
    obtain ⟨p, hp, e⟩ := keyAt x hx
    obtain ⟨y, hy⟩ := r3 x hx
    have hk := WideMaps.keyOf_pair arr156 Tryz.underlying3 ⟨Tryz.prog.types.size - 1, by kernel_rfl⟩ (r2 p hp).1 (r2 p hp).2
    have hk : keyOf Tryz.prog 156 x.key = some (.string (keyBytes [.int .i64 p.1, .int .i64 p.2])) := by rw [e]; exact hk
    have : WideElems.rd Tryz.prog 156 RL x = some (.string (keyBytes [.int .i64 p.1, .int .i64 p.2]), y.1) := by
      unfold WideElems.rd
      rw [hk, hy]; rfl
    exact ⟨_, this⟩⟩
  have hcs := total_calls (β.blk (.h id)) off (β.blk (.h m)) E clock w m1 q1 hfit (by rw [r4]; unfold maxN at c3; omega)
  refine .inr ⟨run_callFunc Tryz.func97 rfl (by decide) _ _, hcs.mono ?_⟩
  rintro e w' ⟨rfl, hb⟩
  obtain ⟨k1, k2⟩ := h.below hb
  refine ⟨HpRel.clean h.2, S, β, HR.objs (hp := hp) (hp' := clean hp) rfl k1, Fr.objs (hp := hp) (hp' := clean hp) rfl k2, ?_, ?_⟩
  · simp only [RV]; rw [r4]
  · simp [D.lt]
end
end Go.Proofs.AeT
