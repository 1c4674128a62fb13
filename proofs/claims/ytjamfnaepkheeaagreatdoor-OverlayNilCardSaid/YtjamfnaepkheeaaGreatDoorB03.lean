/- Part 3 of the proof: OverlayNil returns true at every operation and leaves its argument as it was (the tied card, no condition). -/
import Derived.OpenShut
import Derived.Test.YtjamfnaepkheeaaGreatDoorB02
import Derived.ReadAgain
import Derived.ChangeSame
import Derived.RowKit
import Derived.Test.YtjamfnaepkheeaaGreatDoorRows
import Derived.Test.YtjamfnaepkheeaaGreatDoorTie
import Derived.Test.YtjamfnaepkheeaaGreatDoorCards
import Derived.ProofKit
import Derived.LaidMore
import Derived.Stop.Joined
import Derived.SevenTiedAt

/- AE: the arguments of a statement, as data: what the reader of a claim reads, the interpreter may be given. -/
namespace Go.AE

/-- So many types, one behind another. -/
def Cat (Q : TypeId → List D → Prop) : List TypeId → List D → Prop
  | [], xs => xs = []
  | t :: r, xs => ∃ a b, xs = a ++ b ∧ Q t a ∧ Cat Q r b

/-- An element of a row. -/
def ElShp (P : Program) (Q : TypeId → List D → Prop) (e : TypeId) (y : D) : Prop :=
  if isAggT P e then ∃ xs, y = .agg xs ∧ Q e xs else Q e [y]

/-- The cells of a value of a type. -/
def Shp (P : Program) : Nat → TypeId → List D → Prop
  | 0, _, _ => False
  | n + 1, t, xs => match P.underlying t with
    | some .bool => ∃ b, xs = [.bool b]
    | some (.int k) => ∃ i, xs = [.int k i] ∧ (Lit.int k i).wf = true
    | some .string => ∃ s : ByteArray, xs = [.str s] ∧ s.size ≤ maxLen
    | some (.slice e) => ∃ ys, xs = [.list ys] ∧ ys.length ≤ maxLen ∧ ∀ y ∈ ys, ElShp P (Shp P n) e y
    | some (.struct fs) => Cat (Shp P n) (fs.toList.map (·.type)) xs
    | some (.array m e) => Cat (Shp P n) (List.replicate m e) xs
    | _ => False

/-- Fields that lie one behind another. -/
def tiles (P : Program) : Nat → List Field → Option Nat
  | off, [] => some off
  | off, f :: r => if Nat.beq f.offset off then tiles P (off + P.cellsOf f.type) r else none

def hasT (L : List TypeId) (t : TypeId) : Bool := L.any (Nat.beq t)

/-- Types that are read as data: of numbers, strings, slices, structs and arrays. -/
def plainB (P : Program) (L : List TypeId) : Bool := L.all fun t => match P.underlying t with
  | some .bool | some (.int _) | some .string => !isAggT P t
  | some (.slice e) => hasT L e && (Nat.blt 0 (P.cellsOf e) && !isAggT P t)
  | some (.struct fs) => fs.toList.all (fun f => hasT L f.type) && (match tiles P 0 fs.toList with
    | some n => Nat.beq n (P.cellsOf t)
    | none => false)
  | some (.array m e) => hasT L e && Nat.beq (m * P.cellsOf e) (P.cellsOf t)
  | _ => false

theorem hasT_iff {L : List TypeId} {t : TypeId} : hasT L t = true ↔ t ∈ L := by
  unfold hasT
  rw [List.any_eq_true]
  constructor
  · rintro ⟨x, hx, hb⟩; rw [Nat.eq_of_beq_eq_true hb]; exact hx
  · intro h; exact ⟨t, h, Nat.beq_refl t⟩

section
variable {H : Type} {enc : TypeId × Value → H} {P : Program} {W : World} {β : Emb} {L : List TypeId} {ps0 : List MemPlace}

/-- What is read never changes. -/
def readS (ps : List MemPlace) : Fixed := fun b off => MemPlace.cell b off ∈ ps

/-- What is to be shown of cells. -/
def Rd (P : Program) (W : World) (ps0 : List MemPlace) (β : Emb) (n : Nat) (t : TypeId) (cs : List Value) : Prop :=
  ∃ xs, RVs W (readS ps0) β xs cs ∧ D.flatDs xs = true ∧ Shp P n t xs ∧ ∀ v ∈ cs, OneC v

theorem flatDs_append : ∀ {a b : List D}, D.flatDs a = true → D.flatDs b = true → D.flatDs (a ++ b) = true
  | [], _, _, hb => hb
  | x :: r, b, ha, hb => by
    simp only [D.flatDs, Bool.and_eq_true, List.cons_append] at ha ⊢
    exact ⟨ha.1, flatDs_append ha.2 hb⟩

theorem td_step (cs : List Value) (off sz : Nat) : (cs.drop off).take sz ++ cs.drop (off + sz) = cs.drop off := by
  rw [← List.drop_drop]; exact List.take_append_drop _ _

theorem cat_fields {n : Nat} : ∀ {fs : List Field} {off m : Nat} {cs : List Value}, tiles P off fs = some m → cs.length = m → (∀ f ∈ fs, Rd P W ps0 β n f.type ((cs.drop f.offset).take (P.cellsOf f.type))) →
    ∃ xs, RVs W (readS ps0) β xs (cs.drop off) ∧ D.flatDs xs = true ∧ Cat (Shp P n) (fs.map (·.type)) xs ∧ ∀ v ∈ cs.drop off, OneC v
  | [], off, m, cs, ht, hl, _ => by
    simp only [tiles, Option.some.injEq] at ht
    subst ht
    have : cs.drop off = [] := List.drop_eq_nil_of_le (by omega)
    rw [this]
    exact ⟨[], rfl, rfl, rfl, by simp⟩
  | f :: r, off, m, cs, ht, hl, h => by
    simp only [tiles] at ht
    split at ht
    case isFalse => simp at ht
    rename_i ho
    have ho := Nat.eq_of_beq_eq_true ho
    obtain ⟨a, a1, a2, a3, a4⟩ := h f (by simp)
    obtain ⟨b, b1, b2, b3, b4⟩ := cat_fields (fs := r) ht hl (fun g hg => h g (by simp [hg]))
    rw [ho] at a1 a4
    have e := td_step cs off (P.cellsOf f.type)
    refine ⟨a ++ b, ?_, flatDs_append a2 b2, ⟨a, b, rfl, a3, b3⟩, ?_⟩
    · rw [← e]; exact RVs_append a1 b1
    · intro v hv
      rw [← e] at hv
      exact (List.mem_append.1 hv).elim (a4 v) (b4 v)

theorem cat_array {n : Nat} {e : TypeId} : ∀ {m i : Nat} {cs : List Value}, cs.length = (i + m) * P.cellsOf e → (∀ j, i ≤ j → j < i + m → Rd P W ps0 β n e ((cs.drop (j * P.cellsOf e)).take (P.cellsOf e))) →
    ∃ xs, RVs W (readS ps0) β xs (cs.drop (i * P.cellsOf e)) ∧ D.flatDs xs = true ∧ Cat (Shp P n) (List.replicate m e) xs ∧ ∀ v ∈ cs.drop (i * P.cellsOf e), OneC v
  | 0, i, cs, hl, _ => by
    have : cs.drop (i * P.cellsOf e) = [] := List.drop_eq_nil_of_le (by rw [hl]; simp)
    rw [this]
    exact ⟨[], rfl, rfl, rfl, by simp⟩
  | m + 1, i, cs, hl, h => by
    obtain ⟨a, a1, a2, a3, a4⟩ := h i (Nat.le_refl _) (by omega)
    obtain ⟨b, b1, b2, b3, b4⟩ := cat_array (m := m) (i := i + 1) (by rw [hl]; congr 1; omega) (fun j hj hj' => h j (by omega) (by omega))
    have e' := td_step cs (i * P.cellsOf e) (P.cellsOf e)
    have e2 : (i + 1) * P.cellsOf e = i * P.cellsOf e + P.cellsOf e := by rw [Nat.add_mul, Nat.one_mul]
    rw [e2] at b1 b4
    refine ⟨a ++ b, ?_, flatDs_append a2 b2, ⟨a, b, rfl, a3, b3⟩, ?_⟩
    · rw [← e']; exact RVs_append a1 b1
    · intro v hv
      rw [← e'] at hv
      exact (List.mem_append.1 hv).elim (a4 v) (b4 v)

theorem isAggT_of {t : TypeId} (h : isAggT P t = false) : (∀ fs, P.underlying t ≠ some (.struct fs)) ∧ ∀ n e, P.underlying t ≠ some (.array n e) := by
  unfold isAggT at h
  constructor
  · intro fs he; rw [he] at h; simp at h
  · intro n e he; rw [he] at h; simp at h

/-- Cells that are read are data. -/
theorem read_ok (hL : plainB P L = true) : ∀ (fuel : Nat) (t : TypeId) (cs : List Value) (x : DataW H × List MemPlace), t ∈ L → DataW.trod enc P W 0 (fun _ => true) true fuel t cs = some x → (∀ p ∈ x.2, p ∈ ps0) →
    Rd P W ps0 β fuel t cs ∧ (isAggT P t = false → ∃ v, cs = [v])
  | 0, t, cs, x, _, h, _ => by simp [DataW.trod] at h
  | n + 1, t, cs, x, ht, h, hps => by
    have hpl := List.all_eq_true.1 hL t ht
    split at hpl
    · rename_i hu
      obtain ⟨b, rfl, rfl⟩ := DataW.trod_bool hu h
      exact ⟨⟨[.bool b], ⟨_, _, rfl, by simp only [RV], rfl⟩, rfl, by simp only [Shp, hu]; exact ⟨b, rfl⟩, by simp [OneC]⟩, fun _ => ⟨_, rfl⟩⟩
    · rename_i k hu
      obtain ⟨i, rfl, rfl, hw⟩ := DataW.trod_int hu h
      exact ⟨⟨[.int k i], ⟨_, _, rfl, by simp only [RV], rfl⟩, rfl, by simp only [Shp, hu]; exact ⟨i, rfl, hw⟩, by simp [OneC]⟩, fun _ => ⟨_, rfl⟩⟩
    · rename_i hu
      obtain ⟨s, rfl, rfl, hs⟩ := DataW.trod_string hu h
      exact ⟨⟨[.str s], ⟨_, _, rfl, by simp only [RV], rfl⟩, rfl, by simp only [Shp, hu]; exact ⟨s, rfl, hs⟩, by simp [OneC]⟩, fun _ => ⟨_, rfl⟩⟩
    · rename_i e hu
      simp only [Bool.and_eq_true] at hpl
      obtain ⟨he, hpos, _⟩ := hpl
      have he := hasT_iff.1 he
      have hpos : 0 < P.cellsOf e := by simpa using hpos
      rcases DataW.trod_slice hu h with ⟨rfl, rfl⟩ | ⟨a, len, cap, elems, rest, n', hn, rfl, rfl, _, hlc, hcm, hel, hat, _, _⟩
      · refine ⟨⟨[.list []], ⟨_, _, rfl, ?_, rfl⟩, rfl, ?_, by simp [OneC]⟩, fun _ => ⟨_, rfl⟩⟩
        · simp only [RV]; exact ⟨none, 0, rfl, Nat.le_refl _, .inl (by trivial)⟩
        · simp only [Shp, hu]; exact ⟨[], rfl, by simp, by simp⟩
      · obtain rfl : n = n' := by omega
        refine ⟨?_, fun _ => ⟨_, rfl⟩⟩
        -- the elements, one by one
        have key : ∀ (k i : Nat), i + k = len → ∃ ys, ys.length = k ∧ (k = 0 ∨ ∃ b off, a = ⟨b, off, none⟩ ∧ REs W (readS ps0) β ys b (off + i * P.cellsOf e) (P.cellsOf e)) ∧ D.flatDs ys = true ∧ ∀ y ∈ ys, ElShp P (Shp P n) e y := by
          intro k
          induction k with
          | zero => intro i _; exact ⟨[], rfl, .inl rfl, rfl, by simp⟩
          | succ k ih =>
            intro i hik
            obtain ⟨ys, y1, y2, y3, y4⟩ := ih (i + 1) (by omega)
            have hi : i < len := by omega
            have := hat i hi
            rw [List.getElem?_eq_getElem (by omega)] at this
            simp only [Option.bind_eq_some_iff] at this
            obtain ⟨cs, hcs, htr⟩ := this
            obtain ⟨_, hcl, hcell⟩ := World.cells?_some hcs
            have hmem : elems[i] ∈ elems := List.getElem_mem _
            obtain ⟨⟨xs, r1, r2, r3, r4⟩, r5⟩ := read_ok hL n e cs elems[i] he htr (fun p hp => hps p (by
              simp only [List.mem_append, List.mem_flatMap]
              exact .inr ⟨elems[i], .inl hmem, hp⟩))
            have hspot : a.spot = none := by
              have h0 := hcell 0 hpos
              have : ∃ c, cs[0]? = some c := ⟨_, List.getElem?_eq_getElem (by omega)⟩
              obtain ⟨c, hc⟩ := this
              rw [hc] at h0
              have hs := World.cell?_spot h0
              unfold Addr.add at hs
              by_cases hz : i * P.cellsOf e = 0
              · simpa [hz] using hs
              · -- an element behind the first: the first is there too
                have hat0 := hat 0 (by omega)
                rw [List.getElem?_eq_getElem (by omega)] at hat0
                simp only [Option.bind_eq_some_iff] at hat0
                obtain ⟨cs0, hcs0, _⟩ := hat0
                obtain ⟨_, hcl0, hcell0⟩ := World.cells?_some hcs0
                have h00 := hcell0 0 hpos
                obtain ⟨c0, hc0⟩ : ∃ c, cs0[0]? = some c := ⟨_, List.getElem?_eq_getElem (by omega)⟩
                rw [hc0] at h00
                have := World.cell?_spot h00
                simpa [Addr.add] using this
            have haddr : a = ⟨a.block, a.off, none⟩ := by cases a; simp only at hspot; subst hspot; rfl
            have hcells : Cells W (readS ps0) a.block (a.off + i * P.cellsOf e) cs := by
              intro j u hj
              have hjl : j < P.cellsOf e := by rw [← hcl]; exact (List.getElem?_eq_some_iff.1 hj).1
              refine ⟨hps _ ?_, ?_⟩
              · simp only [List.mem_append]
                refine .inl ?_
                simp only [MemPlace.row, List.mem_map, List.mem_range]
                refine ⟨i * P.cellsOf e + j, ?_, by rw [Nat.add_assoc]⟩
                have h1 : (i + 1) * P.cellsOf e ≤ (elems.length + rest.length) * P.cellsOf e := Nat.mul_le_mul_right _ (by omega)
                rw [Nat.add_mul, Nat.one_mul] at h1
                omega
              · have := hcell j hjl
                rw [hj] at this
                rw [← this]
                rw [haddr]
                simp only [wcell, Addr.add]
                by_cases h1 : i * P.cellsOf e = 0
                · by_cases h2 : j = 0
                  · subst h2; simp [h1]
                  · simp [h1, h2]
                · by_cases h2 : j = 0
                  · subst h2; simp [h1]
                  · simp [h1, h2]
            have e2 : (i + 1) * P.cellsOf e = i * P.cellsOf e + P.cellsOf e := by rw [Nat.add_mul, Nat.one_mul]
            have htail : REs W (readS ps0) β ys a.block (a.off + i * P.cellsOf e + P.cellsOf e) (P.cellsOf e) := by
              rcases y2 with h0 | ⟨b, off, hab, hre⟩
              · have : ys = [] := List.length_eq_zero_iff.1 (by omega)
                subst this; trivial
              · have hb : b = a.block := by rw [hab]
                have ho : off = a.off := by rw [hab]
                rw [hb, ho, e2, ← Nat.add_assoc] at hre
                exact hre
            cases hag : isAggT P e with
            | true =>
              refine ⟨.agg xs :: ys, by simp [y1], .inr ⟨a.block, a.off, haddr, ⟨cs, .agg cs.toArray, hcl, hcells, rfl, ?_⟩, htail⟩, ?_, ?_⟩
              · simp only [RV]; exact ⟨cs.toArray, rfl, by simpa using r4, by simpa using r1⟩
              · simp only [D.flatDs, D.flatD, Bool.and_eq_true]; exact ⟨r2, y3⟩
              · intro y hy
                rcases List.mem_cons.1 hy with rfl | hy
                · unfold ElShp; rw [if_pos hag]; exact ⟨xs, rfl, r3⟩
                · exact y4 y hy
            | false =>
              obtain ⟨v, rfl⟩ := r5 hag
              obtain ⟨hlen, hall⟩ := RVs_iff.1 r1
              match xs, hlen with
              | [d], _ =>
                have hdv := hall 0 d v rfl rfl
                have hone : OneC v := r4 v (by simp)
                have hfit : Fits d [v] v := by
                  cases d with
                  | agg cs => simp only [RV] at hdv; obtain ⟨us, rfl, _⟩ := hdv; exact hone.elim
                  | _ => rfl
                refine ⟨d :: ys, by simp [y1], .inr ⟨a.block, a.off, haddr, ⟨[v], v, hcl, hcells, hfit, hdv⟩, htail⟩, ?_, ?_⟩
                · simp only [D.flatDs, Bool.and_eq_true] at r2 ⊢; exact ⟨r2.1, y3⟩
                · intro y hy
                  rcases List.mem_cons.1 hy with rfl | hy
                  · unfold ElShp; rw [if_neg (by simp [hag])]; exact r3
                  · exact y4 y hy
        obtain ⟨ys, y1, y2, y3, y4⟩ := key len 0 (by omega)
        refine ⟨[.list ys], ⟨_, _, rfl, ?_, rfl⟩, by simp [D.flatDs, D.flatD, y3], ?_, by simp [OneC]⟩
        · simp only [RV]
          refine ⟨some a, cap, by rw [y1], by omega, ?_⟩
          rcases y2 with h0 | ⟨b, off, hab, hre⟩
          · exact .inl (List.length_eq_zero_iff.1 (by omega))
          · exact .inr ⟨b, off, P.cellsOf e, by rw [hab], by simpa using hre⟩
        · simp only [Shp, hu]; exact ⟨ys, rfl, by omega, y4⟩
    · rename_i fs hu
      simp only [Bool.and_eq_true] at hpl
      obtain ⟨hfs, htl⟩ := hpl
      obtain ⟨xs, n', hn, rfl, hlen, hxl, hat⟩ := DataW.trod_struct hu h
      obtain rfl : n = n' := by omega
      split at htl
      case h_2 => simp at htl
      rename_i m hm
      have hm' := Nat.eq_of_beq_eq_true htl
      have hfs' := List.all_eq_true.1 hfs
      obtain ⟨ys, q1, q2, q3, q4⟩ := cat_fields (n := n) (ps0 := ps0) (W := W) (β := β) hm (by rw [hlen]; exact hm'.symm) (fun f hf => by
        obtain ⟨i, hi⟩ := List.getElem?_of_mem hf
        have hi' : fs[i]? = some f := by simpa using hi
        have := hat i f hi'
        have hil : i < xs.length := by rw [hxl]; exact (Array.getElem?_eq_some_iff.1 hi').1
        rw [List.getElem?_eq_getElem hil] at this
        exact (read_ok hL n f.type _ _ (hasT_iff.1 (hfs' f hf)) this (fun p hp => hps p (by
          simp only [List.mem_flatMap]
          exact ⟨xs[i], List.getElem_mem _, hp⟩))).1)
      refine ⟨⟨ys, by simpa using q1, q2, by simp only [Shp, hu]; exact q3, by simpa using q4⟩, fun ha => ((isAggT_of ha).1 fs hu).elim⟩
    · rename_i m e hu
      simp only [Bool.and_eq_true] at hpl
      obtain ⟨he, hsz⟩ := hpl
      have hsz := Nat.eq_of_beq_eq_true hsz
      obtain ⟨xs, n', hn, rfl, hlen, hxl, hat⟩ := DataW.trod_array hu h
      obtain rfl : n = n' := by omega
      obtain ⟨ys, q1, q2, q3, q4⟩ := cat_array (P := P) (n := n) (e := e) (ps0 := ps0) (W := W) (β := β) (m := m) (i := 0) (cs := cs) (by rw [hlen, ← hsz]; simp) (fun j _ hj => by
        have := hat j (by omega)
        have hjl : j < xs.length := by omega
        rw [List.getElem?_eq_getElem hjl] at this
        exact (read_ok hL n e _ _ (hasT_iff.1 he) this (fun p hp => hps p (by
          simp only [List.mem_flatMap]
          exact ⟨xs[j], List.getElem_mem _, hp⟩))).1)
      refine ⟨⟨ys, by simpa using q1, q2, by simp only [Shp, hu]; exact q3, by simpa using q4⟩, fun ha => ((isAggT_of ha).2 m e hu).elim⟩
    · simp at hpl
end
end Go.AE

/- AE: from a run of the interpreter to the statement of a claim: a law of one argument. -/
namespace Go.AE
open Go.ChangeShapes Go.RowKit

section
variable {H : Type} {enc : TypeId × Value → H} {P : Program} {W W' : World} {β β' : Emb} {S' : Fixed} {L : List TypeId}

theorem tiles_ok : ∀ {fs : List Field} {off m : Nat}, tiles P off fs = some m → m = off + (fs.map fun f => P.cellsOf f.type).sum ∧ ∀ (j : Nat) f, fs[j]? = some f → f.offset = off + ((fs.take j).map fun f => P.cellsOf f.type).sum
  | [], off, m, h => by
    simp only [tiles, Option.some.injEq] at h
    subst h
    exact ⟨by simp, fun j f hf => by simp at hf⟩
  | f :: r, off, m, h => by
    simp only [tiles] at h
    split at h
    case isFalse => simp at h
    rename_i ho
    have ho := Nat.eq_of_beq_eq_true ho
    obtain ⟨h1, h2⟩ := tiles_ok (fs := r) h
    refine ⟨by simp only [List.map_cons, List.sum_cons]; omega, fun j g hg => ?_⟩
    cases j with
    | zero => simp at hg; subst hg; simpa using ho
    | succ j =>
      have := h2 j g (by simpa using hg)
      simp only [List.take_succ_cons, List.map_cons, List.sum_cons]
      omega

theorem kids_plain (hL : plainB P L = true) : Kids P (· ∈ L) := by
  have at_ : ∀ {t}, t ∈ L → _ := fun {t} ht => List.all_eq_true.1 hL t ht
  refine ⟨?_, ?_, ?_, ?_, ?_⟩
  · intro t e ht hu
    have := at_ ht
    rw [hu] at this; simp at this
  · intro t e ht hu
    have := at_ ht
    rw [hu] at this
    simp only [Bool.and_eq_true] at this
    exact hasT_iff.1 this.1
  · intro t e n ht hu
    have := at_ ht
    rw [hu] at this
    simp only [Bool.and_eq_true] at this
    exact ⟨hasT_iff.1 this.1, (Nat.eq_of_beq_eq_true this.2).symm⟩
  · intro t fs ht hu
    have := at_ ht
    rw [hu] at this
    simp only [Bool.and_eq_true] at this
    obtain ⟨h1, h2⟩ := this
    split at h2
    case h_2 => simp at h2
    rename_i m hm
    obtain ⟨k1, k2⟩ := tiles_ok hm
    refine ⟨fun f hf => hasT_iff.1 (List.all_eq_true.1 h1 f hf), ?_, fun j f hf => by have := k2 j f hf; omega⟩
    rw [← Nat.eq_of_beq_eq_true h2]; omega
  · intro t k e ht hu
    have := at_ ht
    rw [hu] at this; simp at this

theorem kept_of {may : MemPlace → Prop} (hos : W'.os = W.os) (hout : W'.output = W.output) (hh : ∀ i, i < W.heap.size → W'.heap[i]? = W.heap[i]?) : W.keptBut W' may := by
  refine ⟨hos, hout, fun i hi => ?_⟩
  rw [hh i hi]
  split
  · rename_i h1 h2
    rw [h1] at h2
    cases h2
    exact ⟨rfl, rfl, rfl, fun _ _ => rfl⟩
  · rename_i h1 h2
    rw [h1] at h2
    cases h2
    exact .inr ⟨rfl, rfl⟩
  · rfl

/-- A law of one argument, which is data: it returned true, and what was there is there. -/
theorem law_post {fn : Func} {s : ChangeSpec} {t tb : TypeId} (hp : fn.params = #[t]) (hr : fn.resultTypes = #[tb]) (htb : P.underlying tb = some .bool) (hvars : s.vars = []) (hfn : ∀ d, s.fn H [d] = { results := [.lit (.bool true)], args := [d] })
    (hL : plainB P L = true) (ht : t ∈ L) (hsl : ∀ t e, t ∈ L → P.underlying t = some (.slice e) → 0 < P.cellsOf e) {apart fresh handsOn again : Bool} {v0 : Value} {d0 : DataW H} {p : List MemPlace}
    (hA : DataW.Trod enc P W 0 (fun _ => true) true t v0 d0 p) (hfz : W.noneFrozen p) (hnd : apart = true → p.Nodup) (hlt : ∀ x ∈ p, x.block < W.heap.size)
    (hos : W'.os = W.os) (hout : W'.output = W.output) (hh : ∀ i, i < W.heap.size → W'.heap[i]? = W.heap[i]?) : s.post enc P fn apart fresh handsOn again W #[v0] (.bool true) W' := by
  have K := kids_plain hL
  have hpl : fn.params.toList = [t] := by rw [hp]
  have hrl : fn.resultTypes.toList = [tb] := by rw [hr]
  have hone : (Value.bool true).resultList fn.resultTypes.size = [.bool true] := by rw [hr]; rfl
  have same : ∀ x ∈ p, W.sameAt W' x := by
    intro x hx
    have hb := hlt x hx
    cases x with
    | cell b off => simp only [World.sameAt, World.cell?, hh b hb]
    | map b => simp only [World.sameAt]; exact hh b hb
  have hA' : ∀ sp : Nat → Bool, (∀ x ∈ p, sp x.block = true) → DataW.Trod enc P W' 0 sp true t v0 d0 p := by
    intro sp hsp
    obtain ⟨n, hn⟩ := hA
    have h1 : DataW.Trod enc P W' 0 (fun _ => true) true t v0 d0 p := ⟨n, DataW.trod_carry n _ _ _ hn same⟩
    exact h1.respare K (fun t e h1 h2 => hsl t e h1 h2) ht hsp
  have hWhole : DataW.Whole enc P fn.params.toList s.vars apart W #[v0].toList [d0] [] p := by
    rw [hpl, hvars]
    exact ⟨p, [], trodAll_mk1 hA, rfl, by simp, hfz, hnd⟩
  have e1 : s.fn H ([d0] ++ []) = { results := [.lit (.bool true)], args := [d0] } := by simpa using hfn d0
  refine ⟨[d0], [], p, [], p, [], hWhole, ?_, ?_, ?_, kept_of hos hout hh, fun _ => ⟨?_, ?_⟩⟩
  · rw [hrl, hone, e1]; exact trodAll_mk1 (shut_bool htb true)
  · rw [hpl, e1]
    exact trodAll_mk1 (hA' _ fun x hx => by simpa using hlt x hx)
  · rw [hvars, e1]; rfl
  · exact ok_one hr rfl (okWide_bool_mk htb true)
  · refine ⟨[.lit (.bool true), d0], [], p, ?_, fun x hx _ => hx⟩
    rw [hrl, hone, hpl, hvars]
    refine ⟨p, [], trodAll_mk2 (p := []) (shut_bool htb true) (hA' _ fun _ _ => rfl), rfl, by simp, ?_, hnd⟩
    intro b off hb
    have hb' : (MemPlace.cell b off).block < W.heap.size := hlt _ hb
    have := hfz b off hb
    unfold World.frozen? at this ⊢
    rw [hh b hb']
    exact this
end

section
variable {P : Program}

/-- The arguments of a law are data; a run of the interpreter at all such data does for the statement. -/
theorem law_calls {H : Type} {enc : TypeId × Value → H} {f : FuncId} {fn : Func} {b : Code} {s : ChangeSpec} {t tb : TypeId} {L : List TypeId} (hf : P.funcs[f]? = some fn) (hb : fn.body = some b) (hname : fn.name ≠ "runtime.NumGoroutine")
    (hp : fn.params = #[t]) (hr : fn.resultTypes = #[tb]) (htb : P.underlying tb = some .bool) (hvars : s.vars = []) (hfn : ∀ d, s.fn H [d] = { results := [.lit (.bool true)], args := [d] })
    (hL : plainB P L = true) (ht : t ∈ L) (hag : isAggT P t = true) (hsl : ∀ t e, t ∈ L → P.underlying t = some (.slice e) → 0 < P.cellsOf e)
    (main : ∀ n xs, Shp P n t xs → ∃ (call : CallF) (hp' : Hp), CallOK P call ∧ call f [.agg xs] h0 = some ⟨.bool true, hp'⟩) {apart fresh handsOn again : Bool} (W : World) (base0 : Nat) (args : Array Value) (ds gs : List (DataW H)) (before : List MemPlace)
    (hval : ∀ (j : Nat) t v, fn.params[j]? = some t → args[j]? = some v → Value.okWide P W .any base0 t v) (hW : DataW.Whole enc P fn.params.toList s.vars apart W args.toList ds gs before) :
    Calls P f args W fun e W' => ∃ v, e = .returned v ∧ s.post enc P fn apart fresh handsOn again W args v W' := by
  have hltp := hW.lt
  obtain ⟨p, q, hA0, hV, rfl, hfz, hnd⟩ := hW
  rw [hvars] at hV
  obtain ⟨rfl, rfl⟩ := trodVars_none hV
  rw [hp] at hA0
  obtain ⟨v0, d0, rfl, rfl, hA⟩ := trodAll_one hA0
  simp only [List.append_nil] at hfz hnd hltp
  have hok := hval 0 t v0 (by rw [hp]; rfl) rfl
  obtain ⟨cs, rfl, _⟩ : ∃ cs, v0 = .agg cs ∧ True := by
    unfold Value.okWide at hok
    unfold isAggT at hag
    split at hok
    · obtain ⟨cs, h1, _⟩ := hok; exact ⟨cs, h1, trivial⟩
    · obtain ⟨cs, h1, _⟩ := hok; exact ⟨cs, h1, trivial⟩
    · rename_i h1 h2
      split at hag
      · rename_i fs he; exact (h1 fs he).elim
      · rename_i n e he; exact (h2 n e he).elim
      · simp at hag
  have hA1 := hA
  obtain ⟨n, hn⟩ := hA1
  have hn' : DataW.trod enc P W 0 (fun _ => true) true n t cs.toList = some (d0, p) := hn
  obtain ⟨⟨xs, r1, r2, r3, r4⟩, _⟩ := read_ok (β := ⟨fun _ => 0, fun _ => 0, fun _ => 0, fun _ => 0⟩) (ps0 := p) hL n t cs.toList (d0, p) ht hn' (fun x hx => hx)
  obtain ⟨call, hp', hC, hrun⟩ := main n xs r3
  have hHR : HR P h0 W (readS p) ⟨fun _ => 0, fun _ => 0, fun _ => 0, fun _ => 0⟩ := by
    have no0 : ∀ i, getH h0 i = none := by intro i; simp [getH, h0, nth_nil]
    refine ⟨⟨fun t => ⟨by simp [base, AV.lt, AV.lt1, D.lt], by simp only [base, RA, RA1, RV]⟩, fun t _ => rfl, rfl, ?_, ?_, ?_⟩, fun i o ho => by rw [no0] at ho; simp at ho⟩
    · intro r o hr
      cases r with
      | l i g => rw [get_base_l] at hr; simp at hr
      | h i =>
        have : (getH h0 i).map (·.o) = some o := hr
        rw [no0] at this; simp at this
    · intro r r' o o' hr
      cases r with
      | l i g => rw [get_base_l] at hr; simp at hr
      | h i =>
        have : (getH h0 i).map (·.o) = some o := hr
        rw [no0] at this; simp at this
    · intro b off hb
      exact hltp _ hb
  have hcb := hC f [.agg xs] h0 _ hrun W (readS p) _ #[.agg cs] hHR ⟨_, _, rfl, by simp only [RV]; exact ⟨cs, rfl, r4, r1⟩, rfl⟩ (by simp only [D.lts, D.lt]; exact ⟨D.flats_lts xs r2, trivial⟩)
  have hent := run_callFunc (P := P) hf hb hname #[.agg cs] W
  rcases hcb with ⟨v, w', h1, _⟩ | ⟨_, h2⟩
  · rw [hent] at h1; simp at h1
  · refine h2.mono fun e W' he => ?_
    cases e with
    | panicked _ => exact he.elim
    | outgrown => exact he.elim
    | returned v =>
      obtain ⟨_, S', β', k1, k2, k3⟩ := he
      have hv : RV W' S' β' (.bool true) v := k3.1
      obtain rfl : v = .bool true := by simpa only [RV] using hv
      refine ⟨_, rfl, law_post hp hr htb hvars hfn hL ht hsl hA hfz hnd hltp k2.os k2.output fun i hi => ?_⟩
      refine k2.frame i hi ?_
      intro hb
      obtain ⟨j, o, g1, _⟩ := owned_base hb
      have no0 : ∀ i, getH h0 i = none := by intro i; simp [getH, h0, nth_nil]
      have : (getH h0 j).map (·.o) = some o := g1
      rw [no0] at this; simp at this
end
end Go.AE

/- OverlayNil: from a run of the interpreter to the card. -/
namespace Go.Proofs.YtjamfnaepkheeaaGreatDoor
open Go Go.AE Go.ChangeShapes Go.WideShapes Go.ChangeAt Go.RowKit

theorem own : ownKnob Tryz.prog.godebug = none := by kernel_rfl
def types5 : List TypeId := [3, 4, 9, 25, 27, 53, 54, 56, 57, 59, 82, 169]
theorem plain5 : plainB Tryz.prog types5 = true := by kernel_rfl
theorem full5 : (types5.all fun t => match Tryz.prog.underlying t with | some (.slice e) => Nat.blt 0 (Tryz.prog.cellsOf e) | _ => true) = true := by kernel_rfl
theorem sl5 : ∀ t e, t ∈ types5 → Tryz.prog.underlying t = some (.slice e) → 0 < Tryz.prog.cellsOf e := by
  intro t e ht hu
  have := List.all_eq_true.1 full5 t ht
  rw [hu] at this
  simpa using this

/-- The door's own heap meets the condition. -/
theorem door_met (os : Os) (args : Array Value) : laidMetH Tryz.prog Rows.overlayNilRow.laid ((World.doorLaid Tryz.prog 400 os).forCall (fun _ _ => 0) ⟨#[], args, []⟩).memory :=
  laidMetH_of_parts3 (fuel := 8) (laidMet_of_run' 8 (by kernel_rfl) (by kernel_rfl)) (by kernel_rfl) (by kernel_rfl)

noncomputable def zero5 : Value := (((Tryz.prog.info? 82).bind (·.zero))).getD undef

set_option maxRecDepth 100000 in
theorem lifted5 (main : ∀ n xs, Shp Tryz.prog n 82 xs → ∃ (call : CallF) (hp' : Hp), CallOK Tryz.prog call ∧ call 5 [.agg xs] h0 = some ⟨.bool true, hp'⟩) (os : Os) (started : os.Started) (H : Type) (enc : TypeId × Value → H) :
    ReturnsInHanded {} Tryz.checked os 5 .any (fun w args => (Rows.overlayNilSpec.pre enc Tryz.prog Tryz.f5 [] false w args ∧ laidMetH Tryz.prog Rows.overlayNilRow.laid w) ∧ sizedMet enc Tryz.prog Tryz.f5 (OpenSpec.ofChange Rows.overlayNilSpec) false w args)
      (Rows.overlayNilSpec.post enc Tryz.prog Tryz.f5 false true false false) := by
  refine returnsInHanded_of_change_and (C := Tryz.checked) (X := fun w _ => laidMetH Tryz.prog Rows.overlayNilRow.laid w) (fun _ _ _ hh h => h.of_heap hh) own started (by kernel_rfl) Tryz.func5
    (ChangeSpec.witness_shaped (enc := enc) (C := Tryz.checked) (os := os) (X := fun w _ => laidMetH Tryz.prog Rows.overlayNilRow.laid w) false (World.doorLaid Tryz.prog 400 os) #[zero5] 12 rfl (World.shaped_of_RefB (by kernel_rfl) (by kernel_rfl)) (by kernel_rfl) (by kernel_rfl) (by kernel_rfl) (door_met os _)) ?_
  intro W base args ds gs before hval hW _ _ _ _
  obtain ⟨b, hb⟩ : ∃ b, Tryz.f5.body = some b := ⟨_, rfl⟩
  exact law_calls (L := types5) (t := 82) (tb := 4) Tryz.func5 hb (by decide) (by kernel_rfl) (by kernel_rfl) (by kernel_rfl) rfl (fun d => rfl) plain5 (by decide) (by kernel_rfl) sl5 main W base args ds gs before hval hW

end Go.Proofs.YtjamfnaepkheeaaGreatDoor
