/- Part 1 of the proof: OverlayNil returns true at every operation and leaves its argument as it was (the tied card, no condition). -/
import Derived.Laws.Tables
import Derived.Test.YtjamfnaepkheeaaGreatDoorB00
import Derived.Laws.MakeOwn
import Derived.Deep.AppendSrc
import Derived.Deep.Upon
import Derived.Lib.Builder
import Derived.Laws.LoneSync
import Derived.Laws.BytesString

/- AE: fields, elements, structs. -/
namespace Go.AE

theorem addr_add (b off n : Nat) : Addr.add ⟨b, off, none⟩ n = ⟨b, off + n, none⟩ := by
  unfold Addr.add
  split
  · rename_i h; subst h; rfl
  · rfl

theorem part_run {P : Program} {t : TypeId} (hun : (P.underlying t).isSome) {C : Array Value} {off : Nat} {us' : List Value} {u : Value} (h1 : ∀ (i : Nat) x, us'[i]? = some x → (C.toList.drop off)[i]? = some x)
    (h2 : isAggT P t = true → us'.length = sizeT P t ∧ u = .agg us'.toArray) (h3 : isAggT P t = false → us' = [u]) (w : World) : (part t C off).run P w = .ok u w := by
  unfold part
  rw [Sem.run_bind, isAgg_run hun]
  simp only [Result.andThen_ok]
  cases ha : isAggT P t with
  | true =>
    obtain ⟨hl, rfl⟩ := h2 ha
    simp only [if_true, Sem.run_bind, sizeOf_run hun, Result.andThen_ok]
    have : C.extract off (off + sizeT P t) = us'.toArray := by
      apply Array.ext'
      apply List.ext_getElem?
      intro i
      rw [Array.getElem?_toList]
      by_cases hi : i < us'.length
      · have e := h1 i us'[i] (List.getElem?_eq_getElem hi)
        rw [List.getElem?_drop, Array.getElem?_toList] at e
        rw [Array.getElem?_extract]
        have hlt : off + i < C.size := (Array.getElem?_eq_some_iff.1 e).1
        rw [if_pos (by omega), e]
        simp [List.getElem?_eq_getElem hi]
      · rw [Array.getElem?_extract, if_neg (by omega)]
        simp only [List.getElem?_toArray] 
        rw [List.getElem?_eq_none (by omega)]
    rw [this]; rfl
  | false =>
    have e := h3 ha
    subst e
    have := h1 0 u rfl
    rw [List.getElem?_drop, Array.getElem?_toList] at this
    simp only [Bool.false_eq_true, if_false]
    simp only [Nat.add_zero] at this
    rw [this]; rfl

section
variable {c : Cfg} {o : Oper} {σ : St} {a : Act} {w : World} {S : Fixed} {β : Emb}

theorem natOf_ok {x : AV} {n : Nat} {u : Value} (hn : natOf x = some n) (hu : RA w S β x u) : ∃ (k : IntKind) (i : Int), u = .int k i ∧ 0 ≤ i ∧ i.toNat = n := by
  unfold natOf at hn
  split at hn
  · rename_i k i
    split at hn
    · rename_i hi
      simp only [Option.some.injEq] at hn
      have : u = .int k i := by simpa only [RA, RA1, RV] using hu
      exact ⟨k, i, this, hi, hn⟩
    · simp at hn
  · simp at hn

/-- The cells of a struct's value. -/
theorem aggOf_ok {n : Nat} {gs : Nat → Nat} {x : AV} {cs : List AV} {u : Value} (hx : aggOf x = some cs) (hu : RA w S β x u) (hl : x.lt n gs) :
    ∃ us : Array Value, u = .agg us ∧ RAs w S β cs us.toList ∧ (∀ y ∈ us.toList, OneC y) ∧ AV.lts n gs cs := by
  unfold aggOf at hx
  split at hx
  · simp only [Option.some.injEq] at hx; subst hx
    obtain ⟨us, rfl, h1, h2⟩ := hu
    exact ⟨us, rfl, h2, h1, hl⟩
  · simp only [Option.some.injEq] at hx; subst hx
    obtain ⟨us, rfl, h1, h2⟩ : ∃ us : Array Value, u = .agg us ∧ (∀ y ∈ us.toList, OneC y) ∧ RVs w S β _ us.toList := by simpa only [RA, RA1, RV] using hu
    exact ⟨us, rfl, RAs_map.2 h2, h1, alts_map.2 (by simpa [AV.lt, AV.lt1, D.lt] using hl)⟩
  · simp at hx

/-- A part of a struct's or an array's value. -/
theorem valA_part {P : Program} {t : TypeId} (hun : (P.underlying t).isSome) {n : Nat} {gs : Nat → Nat} {cs : List AV} {us : Array Value} (h : RAs w S β cs us.toList) (ho : ∀ y ∈ us.toList, OneC y) (hl : AV.lts n gs cs) {off : Nat} {v : AV}
    (hv : valA (isAggT P t) (sizeT P t) (cs.drop off) = some v) : ∃ u, (part t us off).run P w = .ok u w ∧ RA w S β v u ∧ v.lt n gs := by
  obtain ⟨u, us', e1, e2, e3, e4, e5, _⟩ := valA_ok (RAs_drop h off) (fun u hu => ho u (List.mem_of_mem_drop hu)) (by rw [alts_iff] at hl ⊢; exact fun d hd => hl d (List.mem_of_mem_drop hd)) hv
  exact ⟨u, part_run hun e1 e2 e3 w, e4, e5⟩

theorem opField_ok (hP : WFP c.P) (h : SR c.P σ a w S β) {T : TypeId} {x : Operand} {k : Nat} (hop : o.op = .field T x k) {e : Eff} (he : opField c σ T x k = some e) : Ran c o σ a w S β e := by
  unfold opField at he
  split at he
  case h_2 => simp at he
  rename_i cs fl hx hf
  simp only [Option.bind_eq_some_iff] at hx
  obtain ⟨v, hv, hx⟩ := hx
  obtain ⟨u1, u2⟩ := opd_ok h hv
  obtain ⟨us, hu, r1, r2, r3⟩ := aggOf_ok hx u1 u2
  obtain ⟨fs, hfs, hfk⟩ := field_ok hf
  simp only [pureEff, Option.map_eq_some_iff] at he
  obtain ⟨y, hy, rfl⟩ := he
  obtain ⟨u, q1, q2, q3⟩ := valA_part (hP.field _ _ _ _ (field_lt hf) hfs hfk) r1 r2 r3 hy
  refine Ran.pure h (u := u) ?_ q2 q3
  simp only [execOp, hop, hu]
  refine run_value ?_
  simp only [Instr.field, Sem.run_bind, run_underlying hfs w, Result.andThen_ok, hfk, asAgg, Sem.run_pure, q1]

theorem opIndex_ok (hP : WFP c.P) (h : SR c.P σ a w S β) {T : TypeId} {x ix : Operand} (hop : o.op = .index T x ix) {e : Eff} (he : opIndex c σ T x ix = some e) : Ran c o σ a w S β e := by
  unfold opIndex at he
  split at he
  case h_3 => simp at he
  · rename_i s i hx hi
    simp only [Option.bind_eq_some_iff] at hi
    obtain ⟨vi, hvi, hi⟩ := hi
    obtain ⟨i1, _⟩ := opd_ok h hvi
    obtain ⟨k, n, hn, h0, rfl⟩ := natOf_ok hi i1
    obtain ⟨u1, _⟩ := opd_ok h hx
    have hu : a.eval x = .string s := by simpa only [RA, RA1, RV] using u1
    split at he
    case isFalse => simp at he
    rename_i hT
    simp only [Option.map_eq_some_iff] at he
    obtain ⟨b, hb, rfl⟩ := he
    refine Ran.pure h (u := .int .u8 b.toNat) ?_ (by simp [RA, RA1, RV]) (by simp [AV.lt, AV.lt1, D.lt])
    simp only [execOp, hop, hu, hn]
    refine run_value ?_
    simp only [Instr.index, Sem.run_bind, asIntOf, Sem.run_pure, Result.andThen_ok, run_underlying (isStrT_ok hT) w, h0, if_true, hb]
  · rename_i v i hne hx hi
    simp only [Option.bind_eq_some_iff] at hi
    obtain ⟨vi, hvi, hi⟩ := hi
    obtain ⟨i1, _⟩ := opd_ok h hvi
    obtain ⟨k, n, hn, h0, rfl⟩ := natOf_ok hi i1
    obtain ⟨u1, u2⟩ := opd_ok h hx
    split at he
    case h_2 => simp at he
    rename_i N E cs hT hcs
    obtain ⟨us, hu, r1, r2, r3⟩ := aggOf_ok hcs u1 u2
    split at he
    case isFalse => simp at he
    rename_i hlt
    simp only [pureEff, Option.map_eq_some_iff] at he
    obtain ⟨y, hy, rfl⟩ := he
    have hE := hP.arr _ _ _ (arrT_lt hT) (arrT_ok hT)
    obtain ⟨u, q1, q2, q3⟩ := valA_part hE r1 r2 r3 hy
    refine Ran.pure h (u := u) ?_ q2 q3
    simp only [execOp, hop, hu, hn]
    refine run_value ?_
    have hc : 0 ≤ n ∧ n < (N : Int) := ⟨h0, by omega⟩
    simp only [Instr.index, Sem.run_bind, asIntOf, Sem.run_pure, Result.andThen_ok, run_underlying (arrT_ok hT) w, hc, and_self, if_true, sizeOf_run hE, q1]

/-- An address, moved on. -/
theorem fieldOp_ok {x v : AV} {off : Nat} {u : Value} (hx : fieldOp x off = some v) (hu : RA w S β x u) {n : Nat} {gs : Nat → Nat} (hl : x.lt n gs) :
    ∃ b o, u = .pointer (some ⟨b, o, none⟩) ∧ RA w S β v (.pointer (some ⟨b, o + off, none⟩)) ∧ v.lt n gs := by
  unfold fieldOp at hx
  split at hx
  · rename_i r o' hp
    simp only [Option.some.injEq] at hx; subst hx
    refine ⟨_, _, ptrOf_RA hp hu, ?_⟩
    unfold ptrOf at hp
    split at hp
    · simp only [Option.some.injEq, Prod.mk.injEq] at hp; obtain ⟨rfl, rfl⟩ := hp; exact ⟨rfl, hl⟩
    · simp only [Option.some.injEq, Prod.mk.injEq] at hp; obtain ⟨rfl, rfl⟩ := hp; exact ⟨by simp only [mkPtr, RA, RA1, RV], by simpa [mkPtr, AV.lt, AV.lt1, D.lt] using hl⟩
    · simp at hp
  · split at hx
    · rename_i r j o' hp
      simp only [Option.some.injEq] at hx; subst hx
      refine ⟨_, _, elOf_RA hp hu, ?_⟩
      unfold elOf at hp
      split at hp
      · simp only [Option.some.injEq, Prod.mk.injEq] at hp; obtain ⟨rfl, rfl, rfl⟩ := hp; exact ⟨by simp only [mkEl, RA, RA1, Nat.add_assoc], hl⟩
      · simp only [Option.some.injEq, Prod.mk.injEq] at hp; obtain ⟨rfl, rfl, rfl⟩ := hp; exact ⟨by simp only [mkEl, RA, RA1, RV, Nat.add_assoc], by simpa [mkEl, AV.lt, AV.lt1, D.lt] using hl⟩
      · simp at hp
    · split at hx
      · rename_i cs _ _
        simp only [Option.some.injEq] at hx; subst hx
        obtain ⟨b, o', us, rfl, hc, ho, hr⟩ : ∃ b o us, u = .pointer (some ⟨b, o, none⟩) ∧ Cells w S b o us ∧ (∀ y ∈ us, OneC y) ∧ RVs w S β cs us := by simpa only [RA, RA1, RV] using hu
        refine ⟨b, o', rfl, ?_, ?_⟩
        · simp only [RA, RA1, RV]
          refine ⟨b, o' + off, us.drop off, rfl, ?_, fun y hy => ho y (List.mem_of_mem_drop hy), RVs_drop hr off⟩
          intro i y hy
          rw [List.getElem?_drop] at hy
          rw [Nat.add_assoc]
          exact hc _ _ hy
        · have : D.lts n cs := by simpa [AV.lt, AV.lt1, D.lt] using hl
          simp only [AV.lt, AV.lt1, D.lt]
          rw [lts_iff] at this ⊢
          exact fun d hd => this d (List.mem_of_mem_drop hd)
      · simp at hx

theorem opFieldAddr_ok (hP : WFP c.P) (h : SR c.P σ a w S β) {T : TypeId} {x : Operand} {k : Nat} (hop : o.op = .fieldAddr T x k) {e : Eff} (he : opFieldAddr c σ T x k = some e) : Ran c o σ a w S β e := by
  unfold opFieldAddr at he
  split at he
  case h_2 => simp at he
  rename_i v fl hv hf
  split at he
  · simp at he
  rename_i hsz
  obtain ⟨fs, hfs, hfk⟩ := field_ok hf
  obtain ⟨u1, u2⟩ := opd_ok h hv
  simp only [pureEff, Option.map_eq_some_iff] at he
  obtain ⟨y, hy, rfl⟩ := he
  obtain ⟨b, o', hu, q1, q2⟩ := fieldOp_ok hy u1 u2
  refine Ran.pure h ?_ q1 q2
  simp only [execOp, hop, hu]
  refine run_value ?_
  have hun := hP.field _ _ _ _ (field_lt hf) hfs hfk
  simp only [Instr.fieldAt, Sem.run_bind, run_underlying hfs w, Result.andThen_ok, hfk, Instr.sureAddr, Sem.run_pure, fieldPlace, sizeOf_run hun, hsz, if_false, addr_add]

theorem indexAt_array_run {P : Program} {T : TypeId} {n : Nat} {E : TypeId} (hT : P.underlying T = some (.array n E)) (hE : (P.underlying E).isSome) (w : World) (b o : Nat) (k : IntKind) (i : Int) (h0 : 0 ≤ i) (h1 : i < n) :
    (Instr.indexAt T (.pointer (some ⟨b, o, none⟩)) (.int k i)).run P w = .ok (.pointer (some ⟨b, o + i.toNat * sizeT P E, none⟩)) w := by
  simp only [Instr.indexAt, asIntOf, Sem.run_bind, Sem.run_pure, Result.andThen_ok, run_underlying hT w, Instr.sureAddr, h0, h1, and_self, if_true, sizeOf_run hE, addr_add]

theorem indexAt_slice_run {P : Program} {T : TypeId} {E : TypeId} (hT : P.underlying T = some (.slice E)) (hE : (P.underlying E).isSome) (w : World) (b o : Nat) (len cap : Nat) (k : IntKind) (i : Int) (h0 : 0 ≤ i) (h1 : i < len) :
    (Instr.indexAt T (.slice (some ⟨b, o, none⟩) len cap) (.int k i)).run P w = .ok (.pointer (some ⟨b, o + i.toNat * sizeT P E, none⟩)) w := by
  simp only [Instr.indexAt, asIntOf, Sem.run_bind, Sem.run_pure, Result.andThen_ok, run_underlying hT w, h0, h1, and_self, if_true, sizeOf_run hE, addr_add]

/-- An element of a list of elements: where it lies. -/
theorem REs_at {w : World} {S : Fixed} {β : Emb} : ∀ {xs : List D} {b off es i : Nat} {x : D}, REs w S β xs b off es → xs[i]? = some x → ∃ us v, us.length = es ∧ Cells w S b (off + i * es) us ∧ Fits x us v ∧ RV w S β x v
  | [], _, _, _, i, x, _, hx => by simp at hx
  | y :: r, b, off, es, i, x, h, hx => by
    simp only [REs] at h
    cases i with
    | zero => simp at hx; subst hx; simpa using h.1
    | succ i =>
      have := REs_at h.2 (by simpa using hx)
      rwa [show off + es + i * es = off + (i + 1) * es by rw [Nat.add_mul, Nat.one_mul]; omega] at this

/-- An element's cells, one by one. -/
theorem Fits_cells {x : D} {us : List Value} {v : Value} (hf : Fits x us v) (hr : RV w S β x v) (ho : x.oneB = true) {n : Nat} (hl : x.lt n) : RVs w S β x.cells us ∧ (∀ y ∈ us, OneC y) ∧ D.lts n x.cells := by
  obtain ⟨c1, c2, c3⟩ := RA_cells (gs := fun _ => 0) (show RA w S β (.d x) v from hr) (show (AV.d x).lt n (fun _ => 0) from hl) (fun d hd => by cases hd; exact ho)
  have hv : v.cells.toList = us := by
    cases x with
    | agg cs => simp only [Fits] at hf; subst hf; rfl
    | own _ _ => simp [D.oneB] at ho
    | _ =>
      simp only [Fits] at hf
      subst hf
      simp only [RV] at hr
      have hone : v.cells = #[v] → v.cells.toList = [v] := fun h => by rw [h]
      apply hone
      have : OneC v := by
        first
        | (simp [D.oneB] at ho; done)
        | (subst hr; trivial)
        | (obtain ⟨_, rfl⟩ := hr; trivial)
        | (obtain ⟨_, rfl, _⟩ := hr; trivial)
        | (obtain ⟨_, _, rfl, _⟩ := hr; trivial)
        | (obtain ⟨_, _, _, rfl, _⟩ := hr; trivial)
      cases v <;> first | rfl | exact this.elim
  rw [hv] at c1 c2
  have c1 : RAs w S β (x.cells.map .d) us := c1
  have c3 : AV.lts n (fun _ => 0) (x.cells.map .d) := c3
  exact ⟨RAs_map.1 c1, c2, alts_map.1 c3⟩

/-- A slice of a row. -/
theorem slOf_RA {x : AV} {r : Ref} {p : Option (Nat × Nat)} {u : Value} (hp : slOf x = some (r, p)) (hu : RA w S β x u) :
    match p with
    | none => ∃ q, u = .slice q (β.len r) (β.cap r) ∧ (0 < β.cap r → q = some ⟨β.blk r, 0, none⟩)
    | some (off, len) => ∃ q cap, u = .slice q len cap ∧ off + cap = β.cap r ∧ (0 < β.cap r → q = some ⟨β.blk r, off * β.esz r, none⟩) := by
  unfold slOf at hp
  split at hp <;> first | (simp at hp; done) | skip
  all_goals (simp only [Option.some.injEq, Prod.mk.injEq] at hp; obtain ⟨rfl, rfl⟩ := hp; simpa only [RA, RA1, RV] using hu)

theorem slOf_lt {x : AV} {r : Ref} {p : Option (Nat × Nat)} (hp : slOf x = some (r, p)) (hl : x.lt (size σ) (gen σ)) : ∀ off len j, (mkSl r off len).lt (size σ) (gen σ) ∧ (mkEl r j off).lt (size σ) (gen σ) := by
  unfold slOf at hp
  split at hp <;> first | (simp at hp; done) | skip
  all_goals (simp only [Option.some.injEq, Prod.mk.injEq] at hp; obtain ⟨rfl, _⟩ := hp; intro off len j; refine ⟨?_, ?_⟩ <;> simpa [mkSl, mkEl, AV.lt, AV.lt1, D.lt] using hl)

theorem mkEl_RA (r : Ref) (j off : Nat) : RA w S β (mkEl r j off) (.pointer (some ⟨β.blk r, j * β.esz r + off, none⟩)) := by
  cases r <;> simp only [mkEl, RA, RA1, RV]

theorem opIndexAddr_ok (hP : WFP c.P) (h : SR c.P σ a w S β) {T : TypeId} {x ix : Operand} (hop : o.op = .indexAddr T x ix) {e : Eff} (he : opIndexAddr c σ T x ix = some e) : Ran c o σ a w S β e := by
  unfold opIndexAddr at he
  split at he
  case h_2 => simp at he
  rename_i v i hv hi
  simp only [Option.bind_eq_some_iff] at hi
  obtain ⟨vi, hvi, hi⟩ := hi
  obtain ⟨i1, _⟩ := opd_ok h hvi
  obtain ⟨k, n, hn, h0, rfl⟩ := natOf_ok hi i1
  obtain ⟨u1, u2⟩ := opd_ok h hv
  simp only [pureEff, Option.map_eq_some_iff] at he
  obtain ⟨y, hy, rfl⟩ := he
  unfold indexOp at hy
  split at hy
  · -- an array
    rename_i N E hT
    split at hy
    case isFalse => simp at hy
    rename_i hlt
    have hE := hP.arr _ _ _ (arrT_lt hT) (arrT_ok hT)
    obtain ⟨b, o', hu, q1, q2⟩ := fieldOp_ok (x := v) (v := y) (off := n.toNat * sizeT c.P E) (by unfold fieldOp; exact hy) u1 u2
    refine Ran.pure h ?_ q1 q2
    simp only [execOp, hop, hu, hn]
    exact run_value (indexAt_array_run (arrT_ok hT) hE w b o' k n h0 (by omega))
  · split at hy
    case h_2 => simp at hy
    rename_i E hT
    have hE := hP.slice _ _ (elemT_lt hT) (elemT_ok hT)
    split at hy
    · -- a list
      rename_i xs
      simp only [Option.bind_eq_some_iff] at hy
      obtain ⟨z, hz, hy⟩ := hy
      split at hy
      case isFalse => simp at hy
      rename_i hc
      simp only [Option.some.injEq] at hy; subst hy
      obtain ⟨q, cap, hu, _, hr⟩ : ∃ q cap, a.eval x = .slice q xs.length cap ∧ xs.length ≤ cap ∧ (xs = [] ∨ ∃ b off es, q = some ⟨b, off, none⟩ ∧ REs w S β xs b off es) := by simpa only [RA, RA1, RV] using u1
      have hil : n.toNat < xs.length := (List.getElem?_eq_some_iff.1 hz).1
      rcases hr with hr | ⟨b, off, es, rfl, hr⟩
      · subst hr; simp at hil
      · obtain ⟨us, v', e1, e2, e3, e4⟩ := REs_at hr hz
        have hlx : D.lts (size σ) xs := by simpa [AV.lt, AV.lt1, D.lt] using u2
        obtain ⟨f1, f2, f3⟩ := Fits_cells e3 e4 hc.1 (lts_iff.1 hlx z (List.mem_of_getElem? hz))
        have hes : es = sizeT c.P E := by rw [← e1, ← RVs_length f1]; exact hc.2
        refine Ran.pure h (u := .pointer (some ⟨b, off + n.toNat * es, none⟩)) ?_ ?_ ?_
        · simp only [execOp, hop, hu, hn]
          rw [hes]
          exact run_value (indexAt_slice_run (elemT_ok hT) hE w b off _ cap k n h0 (by omega))
        · simp only [RA, RA1, RV]; exact ⟨b, _, us, rfl, e2, f2, f1⟩
        · simpa [AV.lt, AV.lt1, D.lt] using f3
    · -- a row
      split at hy
      case h_2 => simp at hy
      rename_i r p hp
      split at hy
      case h_2 => simp at hy
      rename_i U xs hget
      split at hy
      case isFalse => simp at hy
      rename_i hc
      simp only [Option.some.injEq] at hy; subst hy
      obtain ⟨hok, _⟩ := h.obj _ _ hget
      have hs : sizeT c.P U = sizeT c.P E := Nat.eq_of_beq_eq_true hc.2.2
      have hR := slOf_RA hp u1
      cases p with
      | none =>
        obtain ⟨q, hu, hq⟩ := hR
        simp only [Option.elim_none, Nat.zero_add] at hc ⊢
        rcases hok.2 with ⟨_, h00⟩ | hrow
        · subst h00; simp at hc
        · rw [hq hrow.cap, hok.1] at hu
          refine Ran.pure h (u := .pointer (some ⟨β.blk r, n.toNat * β.esz r + 0, none⟩)) ?_ (mkEl_RA r _ 0) ((slOf_lt hp u2 0 0 _).2)
          simp only [execOp, hop, hu, hn]
          have := indexAt_slice_run (elemT_ok hT) hE w (β.blk r) 0 xs.length (β.cap r) k n h0 (by omega)
          rw [hrow.ty, hs, Nat.add_zero]
          rw [Nat.zero_add] at this
          exact run_value this
      | some p =>
        obtain ⟨off, len⟩ := p
        obtain ⟨q, cap, hu, hcap, hq⟩ := hR
        simp only [Option.elim_some] at hc ⊢
        rcases hok.2 with ⟨_, h00⟩ | hrow
        · subst h00; simp at hc
        · rw [hq hrow.cap] at hu
          refine Ran.pure h (u := .pointer (some ⟨β.blk r, (off + n.toNat) * β.esz r + 0, none⟩)) ?_ (mkEl_RA r _ 0) ((slOf_lt hp u2 0 0 _).2)
          simp only [execOp, hop, hu, hn]
          have := indexAt_slice_run (elemT_ok hT) hE w (β.blk r) (off * β.esz r) len cap k n h0 (by omega)
          rw [Nat.add_zero, Nat.add_mul]
          rw [← hs, ← hrow.ty] at this
          exact run_value this
end
end Go.AE

/- AE: structs and rows made. -/
namespace Go.AE

theorem rowT_ok {P : Program} {T : TypeId} (h : rowT P T = true) : 0 < sizeT P T ∧ bytesT P T ≤ 65536 := by
  simp only [rowT, Bool.and_eq_true] at h
  have h := h.2
  refine ⟨?_, Nat.le_of_ble_eq_true h.1.2⟩
  have := h.1.1
  unfold Nat.blt at this
  exact Nat.le_of_ble_eq_true this

theorem rowT_zero {P : Program} {T : TypeId} (h : rowT P T = true) : ∃ i z, P.info? T = some i ∧ i.zero = some z := by
  simp only [rowT, Bool.and_eq_true] at h
  have h := h.2
  obtain ⟨z, hz⟩ := Option.isSome_iff_exists.1 h.2
  simp only [Option.bind_eq_some_iff] at hz
  obtain ⟨i, h1, h2⟩ := hz
  exact ⟨i, z, h1, h2⟩

theorem rowT_und {P : Program} {T : TypeId} (h : rowT P T = true) : ∃ i, P.info? T = some i ∧ i.size = sizeT P T ∧ i.bytes = bytesT P T := by
  have := (rowT_ok h).1
  cases hi : P.info? T with
  | none => simp [sizeT, hi] at this
  | some i => exact ⟨i, rfl, by simp [sizeT, hi], by simp [bytesT, hi]⟩

theorem rowT_lt {P : Program} {T : TypeId} (h : rowT P T = true) : T < P.types.size := by
  simp only [rowT, Bool.and_eq_true] at h
  exact inT_lt h.1

/-! ### zeros -/
def zarr (zc : Array Value) (m : Nat) : Array Value := (Array.range m).map fun i => zc[i % zc.size]!

theorem zarr_size (zc : Array Value) (m : Nat) : (zarr zc m).size = m := by simp [zarr]

theorem zarr_at {zc : Array Value} {n j i : Nat} {u : Value} (hj : j < n) (hu : zc[i]? = some u) : (zarr zc (n * zc.size))[j * zc.size + i]? = some u := by
  have hi : i < zc.size := (Array.getElem?_eq_some_iff.1 hu).1
  have hlt : j * zc.size + i < n * zc.size := by
    have : (j + 1) * zc.size ≤ n * zc.size := Nat.mul_le_mul_right _ hj
    rw [Nat.add_mul, Nat.one_mul] at this; omega
  have hm : (j * zc.size + i) % zc.size = i := by rw [Nat.add_comm, Nat.add_mul_mod_self_right, Nat.mod_eq_of_lt hi]
  rw [zarr, Array.getElem?_map]
  simp only [Array.getElem?_range, hlt, if_true, Option.map_some, hm]
  rw [getElem!_pos zc i hi]
  rw [← hu]; simp [hi]

section
variable {c : Cfg} {o : Oper} {σ : St} {a : Act} {w : World} {S : Fixed} {β : Emb}

theorem Fits_of {x : D} {u : Value} (hr : RV w S β x u) (ho : x.oneB = true) : Fits x u.cells.toList u := by
  cases x with
  | agg cs => simp only [RV] at hr; obtain ⟨us, rfl, _⟩ := hr; rfl
  | own _ _ => simp [D.oneB] at ho
  | _ =>
    simp only [Fits]
    simp only [RV] at hr
    have : OneC u := by
      first
      | (simp [D.oneB] at ho; done)
      | (subst hr; trivial)
      | (obtain ⟨_, rfl⟩ := hr; trivial)
      | (obtain ⟨_, rfl, _⟩ := hr; trivial)
      | (obtain ⟨_, _, rfl, _⟩ := hr; trivial)
      | (obtain ⟨_, _, _, rfl, _⟩ := hr; trivial)
    cases u <;> first | rfl | exact this.elim

theorem norm_oneB (d : D) : d.norm.oneB = d.oneB := by cases d <;> rfl

theorem dOfVal_oneB {v : Value} {d : D} (h : dOfVal v = some d) : d.oneB = true ∧ ∀ cs, d ≠ .agg cs := by
  unfold dOfVal at h
  split at h <;> first | (simp at h; done) | (simp only [Option.some.injEq] at h; subst h; exact ⟨rfl, by simp⟩)

/-- A zero element. -/
theorem zeroEl_ok {P : Program} (hP : WFP P) {E : TypeId} {z : D} (hz : zeroEl P E = some z) : ∃ zv, ((P.info? E).bind (·.zero) = some zv ∧ ∀ w, (zeroValue E).run P w = .ok zv w) ∧ zv.cells.size = sizeT P E ∧ z.oneB = true ∧
    ∀ (w : World) (S : Fixed) (β : Emb) (n : Nat), RV w S β z zv ∧ z.lt n := by
  unfold zeroEl at hz
  split at hz
  case h_2 => simp at hz
  rename_i cs hcs
  obtain ⟨v, hv, z1, z2, z3⟩ := zeroCells_ok hcs
  cases hi : P.info? E with
  | none => simp [hi] at hv
  | some i =>
    simp only [hi, Option.bind_some] at hv
    obtain ⟨w1, w2⟩ := hP.zero E i v (inT_lt (zeroCells_in hcs)) hi hv
    refine ⟨v, ⟨by simp [hv], z1⟩, by rw [w1]; simp [sizeT, hi], ?_⟩
    split at hz
    · rename_i ha
      simp only [Option.some.injEq] at hz; subst hz
      obtain ⟨vs, rfl⟩ := w2.1 ha
      refine ⟨rfl, fun w S β n => ?_⟩
      obtain ⟨q1, q2⟩ := z3 w S β n
      refine norm_ok ?_ ?_
      · simp only [RV]; exact ⟨vs, rfl, z2, q1⟩
      · simp only [D.lt]; exact q2
    · rename_i ha
      have hna : ∀ cs, v ≠ .agg cs := fun cs hc => ha (w2.2 ⟨cs, hc⟩)
      have hin := zeroCells_in hcs
      unfold zeroCells at hcs
      rw [if_pos hin] at hcs
      simp only [hi, Option.bind_some, hv] at hcs
      simp only [Option.map_eq_some_iff] at hcs
      obtain ⟨d, hd, rfl⟩ := hcs
      simp only [List.head?_cons, Option.map_some, Option.some.injEq] at hz; subst hz
      refine ⟨by rw [norm_oneB]; exact (dOfVal_oneB hd).1, fun w S β n => ?_⟩
      obtain ⟨q1, q2, _⟩ := dOfVal_ok (w := w) (S := S) (β := β) (n := n) hd
      exact norm_ok q1 q2

theorem zeros_ok {z : D} {zv : Value} {n : Nat} (hr : RV w S β z zv) (ho : z.oneB = true) : ∀ (j : Nat) x, (List.replicate n z)[j]? = some x → ElOk w S β (zarr zv.cells (n * zv.cells.size)) zv.cells.size j x := by
  intro j x hx
  have hj : j < n := by have := (List.getElem?_eq_some_iff.1 hx).1; simpa using this
  rw [List.getElem?_replicate, if_pos hj] at hx
  cases hx
  exact ⟨zv.cells.toList, zv, by simp, fun i u hu => zarr_at hj (by simpa using hu), Fits_of hr ho, hr⟩

/-- An element is set. -/
theorem el_set {xs : List D} {C : Array Value} {es i : Nat} {x : D} {u : Value} (h : ∀ (j : Nat) y, xs[j]? = some y → ElOk w S β C es j y) (hr : RV w S β x u) (ho : x.oneB = true) (hs : u.cells.size = es) (hC : i * es + es ≤ C.size) :
    ∀ (j : Nat) y, (xs.set i x)[j]? = some y → ElOk w S β (putCells C (i * es) u.cells.toList) es j y := by
  intro j y hy
  have hpc := putCells_at u.cells.toList C (i * es)
  have hvl : i * es + u.cells.toList.length ≤ C.size := by simp; omega
  rw [List.getElem?_set] at hy
  split at hy
  · rename_i hij
    subst hij
    split at hy
    · simp only [Option.some.injEq] at hy; subst hy
      refine ⟨u.cells.toList, u, by simpa using hs, fun k v hv => ?_, Fits_of hr ho, hr⟩
      have hk : k < u.cells.toList.length := (List.getElem?_eq_some_iff.1 hv).1
      rw [hpc _ hvl, if_pos (by omega), show i * es + k - i * es = k by omega]; exact hv
    · simp at hy
  · rename_i hij
    obtain ⟨us, v, e1, e2, e3, e4⟩ := h j y hy
    refine ⟨us, v, e1, fun k q hq => ?_, e3, e4⟩
    have hk : k < es := by have := (List.getElem?_eq_some_iff.1 hq).1; omega
    rw [hpc _ hvl]
    have := el_apart (k := j) (j := i) (es := es) (off := 0) (len := es) (i := k) (Ne.symm hij) hk (by omega)
    rw [if_neg (by simp [hs] at this ⊢; omega)]
    exact e2 k q hq

/-- A new row. -/
theorem newRow_ok {f : List (Nat × Bool)} (h : SR c.P (withFz σ f) a w S β) {heap : Bool} {t : Nat} {T : TypeId} {xs : List D} {e : Eff} (he : newRow c σ heap t T xs f = some e) {C : Array Value} {cap : Nat}
    (hs : C.size = cap * sizeT c.P T) (hx : ∀ (j : Nat) x, xs[j]? = some x → ElOk w S β C (sizeT c.P T) j x) (hl : D.lts (size σ) xs) (hcap : xs.length ≤ cap) :
    ∃ β', SR c.P (apply σ none e) a (w.alloc (.cells C T)) S β' ∧ Fr (withFz σ f) w S β (apply σ none e) (w.alloc (.cells C T)) S β' ∧
      RA (w.alloc (.cells C T)) S β' e.v (.slice (some ⟨w.heap.size, 0, none⟩) xs.length cap) ∧ e.v.lt (size (apply σ none e)) (gen (apply σ none e)) := by
  unfold newRow at he
  split at he
  case isFalse => simp at he
  rename_i hT
  obtain ⟨hpos, _⟩ := rowT_ok hT
  have main : ∀ {r : Ref} {σ' : St}, Grown1 (withFz σ f) σ' r (.row T xs) → SR c.P σ' a (w.alloc (.cells C T)) S (β.add r w.heap.size cap (sizeT c.P T) xs.length) ∧ Fr (withFz σ f) w S β σ' (w.alloc (.cells C T)) S (β.add r w.heap.size cap (sizeT c.P T) xs.length) := by
    intro r σ' hg
    have hk := keeps_alloc h (.cells C T)
    obtain ⟨a1, a2, a3, a4⟩ := add_here β r w.heap.size cap (sizeT c.P T) xs.length
    refine h.alloc hg _ _ _ _ ⟨a4, ?_⟩ (D.lts.mono hg.size _ hl)
    by_cases h0 : cap = 0
    · left; exact ⟨by rw [a2]; exact h0, List.length_eq_zero_iff.1 (by omega)⟩
    · right
      refine ⟨by rw [a2]; omega, by rw [a3]; exact hpos, a3, by rw [a2]; exact hcap, ⟨C, (0, 0), by rw [a1]; exact heap_alloc w _, by rw [a2, a3]; exact hs, ?_, ?_⟩, ?_, by simp, fun C' T' z' h' => by rw [a1, heap_alloc w _] at h'; cases h'; rfl⟩
      · intro off _ _; simp only; omega
      · intro j x hj
        rw [a3]
        exact (hx j x hj).keep hk (sameH_add hg.fresh _ _ _ _) (lts_iff.1 hl x (List.mem_of_getElem? hj))
      · intro off hb
        rw [a1] at hb
        have := h.inw _ _ hb; omega
  split at he
  · simp only [Option.some.injEq] at he; subst he
    obtain ⟨k1, k2⟩ := main (grown_heap (withFz σ f) (.row T xs))
    obtain ⟨a1, a2, a3, a4⟩ := add_here β (.h (size (withFz σ f))) w.heap.size cap (sizeT c.P T) xs.length
    refine ⟨_, k1, k2, ?_, ?_⟩
    · simp only [RA, RA1, RV]
      refine ⟨some ⟨w.heap.size, 0, none⟩, ?_, fun _ => ?_⟩
      · exact (congr (congrArg (fun n m => Value.slice (some ⟨w.heap.size, 0, none⟩) n m) a4.symm) a2.symm)
      · exact congrArg (fun b => some (⟨b, 0, none⟩ : Addr)) a1.symm
    · simp [AV.lt, AV.lt1, D.lt, size, apply, pushHp]
  · obtain rfl := Option.some.inj he
    obtain ⟨k1, k2⟩ := main (grown_local (withFz σ f) t (.row T xs))
    obtain ⟨a1, a2, a3, a4⟩ := add_here β (.l t (((withFz σ f).loc t).g + 1)) w.heap.size cap (sizeT c.P T) xs.length
    have hap : apply σ none { v := .lsf t ((σ.loc t).g + 1), lw := [(t, ⟨(σ.loc t).g + 1, some (.row T xs)⟩)], fw := f ++ [(t, false)] } =
        { withFz σ f with loc := upd (withFz σ f).loc t ⟨((withFz σ f).loc t).g + 1, some (.row T xs)⟩, fz := upd (withFz σ f).fz t false } := by
      simp only [apply, setMany_append]; rfl
    refine ⟨_, by rw [hap]; exact k1, by rw [hap]; exact k2, ?_, ?_⟩
    · simp only [RA, RA1]
      refine ⟨some ⟨w.heap.size, 0, none⟩, ?_, fun _ => ?_⟩
      · exact (congr (congrArg (fun n m => Value.slice (some ⟨w.heap.size, 0, none⟩) n m) a4.symm) a2.symm)
      · exact congrArg (fun b => some (⟨b, 0, none⟩ : Addr)) a1.symm
    · rw [hap]; simp [AV.lt, AV.lt1, gen, upd_same, withFz]

/-- A new row that is data at once: its cells are fixed. -/
theorem newRowZ_ok {f : List (Nat × Bool)} (h : SR c.P (withFz σ f) a w S β) {frz heap : Bool} {t : Nat} {T : TypeId} {xs : List D} {e : Eff} (he : newRowZ c σ frz heap t T xs f = some e) {C : Array Value} {cap : Nat}
    (hs : C.size = cap * sizeT c.P T) (hx : ∀ (j : Nat) x, xs[j]? = some x → ElOk w S β C (sizeT c.P T) j x) (hl : D.lts (size σ) xs) (hcap : xs.length ≤ cap) :
    ∃ S' β', SR c.P (apply σ none e) a (w.alloc (.cells C T)) S' β' ∧ Fr (withFz σ f) w S β (apply σ none e) (w.alloc (.cells C T)) S' β' ∧
      RA (w.alloc (.cells C T)) S' β' e.v (.slice (some ⟨w.heap.size, 0, none⟩) xs.length cap) ∧ e.v.lt (size (apply σ none e)) (gen (apply σ none e)) := by
  unfold newRowZ at he
  cases frz with
  | false => obtain ⟨β', h1⟩ := newRow_ok h he hs hx hl hcap; exact ⟨S, β', h1⟩
  | true =>
    simp only [if_true] at he
    split at he
    case isFalse => simp at he
    rename_i hT
    obtain ⟨hpos, _⟩ := rowT_ok hT
    obtain rfl := Option.some.inj he
    have hap : apply σ none { v := .d (.list xs), fw := f } = withFz σ f := rfl
    rw [hap]
    have hsz : w.heap.size < (w.alloc (.cells C T)).heap.size := by
      show w.heap.size < (w.heap.push _).size
      simp
    have hk : Keeps w S (w.alloc (.cells C T)) (fun b off => S b off ∨ (b = w.heap.size ∧ off < xs.length * sizeT c.P T)) := fun b off hb => ⟨.inl hb, wcell_block (heap_alloc_lt w _ (h.inw b off hb)) off⟩
    refine ⟨fun b off => S b off ∨ (b = w.heap.size ∧ off < xs.length * sizeT c.P T), β, ?_, ?_, ?_, ?_⟩
    · refine h.change hk ?_ (Nat.le_refl _) (fun _ => Nat.le_refl _) (SameH.refl _ _) (SameL.refl _ _) (fun _ => False) ?_ (fun _ _ _ hN => hN.elim) (fun _ _ _ _ _ _ _ hN => hN.elim) (fun t => .inl ⟨rfl, rfl⟩) h.bound h.defers
      · rintro b off (hb | ⟨rfl, _⟩)
        · exact Nat.lt_trans (h.inw b off hb) hsz
        · exact hsz
      · intro r o hr _
        refine ⟨hr, rfl, fun m => ?_⟩
        have hlt := mem_lt h hr m
        refine ⟨fun y hy => by rw [heap_alloc_lt w _ hlt]; exact hy, fun off => ⟨?_, .inl⟩⟩
        rintro (hb | ⟨hb, _⟩)
        · exact hb
        · omega
    · refine ⟨Nat.le_of_lt hsz, hk, ?_, fun b hb _ => heap_alloc_lt w _ hb, Nat.le_refl _, SameH.refl _ _, fun _ hb => .inl hb, rfl, rfl, rfl⟩
      rintro b off (hb | ⟨rfl, _⟩)
      · exact .inl hb
      · exact .inr (.inr (Nat.le_refl _))
    · simp only [RA, RA1, RV]
      refine ⟨_, _, rfl, hcap, ?_⟩
      by_cases hxs : xs = []
      · exact .inl hxs
      refine .inr ⟨w.heap.size, 0, sizeT c.P T, rfl, ?_⟩
      have key : ∀ (ys : List D) (k : Nat), xs.drop k = ys → REs (w.alloc (.cells C T)) (fun b off => S b off ∨ (b = w.heap.size ∧ off < xs.length * sizeT c.P T)) β ys w.heap.size (k * sizeT c.P T) (sizeT c.P T) := by
        intro ys
        induction ys with
        | nil => intro k _; trivial
        | cons y r ih =>
          intro k hk'
          have hkl : k < xs.length := by
            rcases Nat.lt_or_ge k xs.length with h1 | h1
            · exact h1
            · rw [List.drop_eq_nil_of_le h1] at hk'; simp at hk'
          have hy : xs[k]? = some y := by
            have := congrArg (·[0]?) hk'
            simpa using this
          have hr : xs.drop (k + 1) = r := by
            rw [← List.drop_drop, hk']; rfl
          obtain ⟨us, v, e1, e2, e3, e4⟩ := hx k y hy
          refine ⟨⟨us, v, e1, fun i u hu => ?_, e3, RV.keep hk (SameH.refl (size σ) β) _ _ (lts_iff.1 hl y (List.mem_of_getElem? hy)) e4⟩, by have := ih (k + 1) hr; rw [Nat.add_mul, Nat.one_mul] at this; exact this⟩
          have hi : i < sizeT c.P T := by have := (List.getElem?_eq_some_iff.1 hu).1; omega
          refine ⟨.inr ⟨rfl, ?_⟩, ?_⟩
          · have : (k + 1) * sizeT c.P T ≤ xs.length * sizeT c.P T := Nat.mul_le_mul_right _ hkl
            rw [Nat.add_mul, Nat.one_mul] at this
            omega
          · simp only [wcell, World.cell?, heap_alloc]
            simpa using e2 i u hu
      have := key xs 0 (by simp)
      simpa using this
    · simp only [AV.lt, AV.lt1, D.lt]
      exact hl

/-! ### structs -/
theorem foldl_putCells (vs : List Value) : ∀ (C : Array Value) (off k : Nat), (vs.zipIdx k).foldl (fun cs (p : Value × Nat) => cs.setIfInBounds (off + p.2) p.1) C = putCells C (off + k) vs := by
  induction vs with
  | nil => intro C off k; rfl
  | cons v r ih =>
    intro C off k
    simp only [List.zipIdx_cons, List.foldl_cons, putCells]
    rw [ih]; rfl

theorem fill_step (v : Value) (C : Array Value) (off : Nat) : (v.cells.zipIdx.foldl (fun cs (c, j) => cs.setIfInBounds (off + j) c) C) = putCells C off v.cells.toList := by
  rw [← Array.foldl_toList, Array.toList_zipIdx]
  exact foldl_putCells _ _ _ 0

/-- Parts of a value. -/
def RPs (w : World) (S : Fixed) (β : Emb) : List (Nat × AV) → List (Nat × Value) → Prop
  | [], vs => vs = []
  | p :: r, vs => ∃ u us, vs = (p.1, u) :: us ∧ RA w S β p.2 u ∧ RPs w S β r us

theorem parts_ok (h : SR c.P σ a w S β) : ∀ {ps : List (Nat × Operand)} {vs : List (Nat × AV)}, parts σ.env ps = some vs → RPs w S β vs (ps.map fun p => (p.1, a.eval p.2)) ∧ ∀ v ∈ vs, v.2.lt (size σ) (gen σ)
  | [], vs, hx => by
    simp only [parts, Option.some.injEq] at hx; subst hx
    simp [RPs]
  | (i, x) :: r, vs, hx => by
    simp only [parts] at hx
    split at hx
    · rename_i v vs' h1 h2
      simp only [Option.some.injEq] at hx; subst hx
      obtain ⟨a1, a2⟩ := opd_ok h h1
      obtain ⟨b1, b2⟩ := parts_ok h h2
      refine ⟨⟨_, _, rfl, a1, b1⟩, ?_⟩
      intro y hy
      rcases List.mem_cons.1 hy with rfl | hy
      · exact a2
      · exact b2 y hy
    · simp at hx

theorem fill_ok {place place' : Nat → Option (Nat × Nat)} (hp : ∀ i p, place' i = some p → place i = some p) {n : Nat} {gs : Nat → Nat} : ∀ {ps : List (Nat × AV)} {us : List (Nat × Value)} {cs cs' : List AV} {C : Array Value}, fillD place' cs ps = some cs' →
    RAs w S β cs C.toList → (∀ u ∈ C.toList, OneC u) → AV.lts n gs cs → RPs w S β ps us → (∀ v ∈ ps, v.2.lt n gs) → ∃ C', Instr.fill place C us = some C' ∧ RAs w S β cs' C'.toList ∧ (∀ u ∈ C'.toList, OneC u) ∧ AV.lts n gs cs'
  | [], us, cs, cs', C, hf, hc, ho, hl, hu, _ => by
    simp only [fillD, Option.some.injEq] at hf; subst hf
    simp only [RPs] at hu; subst hu
    exact ⟨C, rfl, hc, ho, hl⟩
  | (i, v) :: r, us, cs, cs', C, hf, hc, ho, hl, hu, hls => by
    simp only [fillD] at hf
    split at hf
    case h_2 => simp at hf
    rename_i off m hpl
    split at hf
    case isFalse => simp at hf
    rename_i hcond
    obtain ⟨u, us', rfl, u1, u2⟩ := hu
    obtain ⟨c1, c2, c3⟩ := RA_cells u1 (hls (i, v) (by simp)) (fun d hd => by have := hcond.1; simp only at this hd; rw [hd] at this; exact this)
    have hlen := RAs_length c1
    have hlC := RAs_length hc
    simp only [Array.length_toList] at hlen hlC
    have hle : off + u.cells.toList.length ≤ C.size := by simp; omega
    obtain ⟨C', q1, q2⟩ := fill_ok hp (ps := r) (C := putCells C off u.cells.toList) hf (by rw [putCells_toList _ _ _ hle]; exact RAs_splice hc c1 off)
      (by rw [putCells_toList _ _ _ hle]; intro x hx; exact (mem_splice hx).elim (ho x) (c2 x)) (alts_splice hl c3 off) u2 (fun x hx => hls x (by simp [hx]))
    refine ⟨C', ?_, q2⟩
    simp only [Instr.fill, hp i _ hpl, fill_step]
    rw [if_neg (by simp; omega)]
    exact q1

theorem mapM_get {P : Program} : ∀ {fs : List Field}, (∀ f ∈ fs, (P.info? f.type).isSome) → ∃ ps, fs.mapM (fun f => (P.info? f.type).map fun i => (f.offset, i.size)) = some ps ∧ ∀ (k : Nat) f, fs[k]? = some f → ps[k]? = some (f.offset, sizeT P f.type)
  | [], _ => ⟨[], by simp, by simp⟩
  | f :: r, h => by
    obtain ⟨ps, h1, h2⟩ := mapM_get (P := P) (fs := r) (fun g hg => h g (by simp [hg]))
    obtain ⟨i, hi⟩ := Option.isSome_iff_exists.1 (h f (by simp))
    refine ⟨(f.offset, i.size) :: ps, by simp [List.mapM_cons, hi, h1], ?_⟩
    intro k g hg
    cases k with
    | zero => simp at hg; subst hg; simp [sizeT, hi]
    | succ k => simpa using h2 k g (by simpa using hg)

theorem opBuild_ok (hP : WFP c.P) (h : SR c.P σ a w S β) {T : TypeId} {ps : Array (Nat × Operand)} (hop : o.op = .build T ps) {e : Eff} (he : opBuild c σ T ps = some e) : Ran c o σ a w S β e := by
  unfold opBuild at he
  split at he
  case h_2 => simp at he
  rename_i z vs hz hv
  split at he
  case h_2 => simp at he
  rename_i cs hcs
  split at he
  case isFalse => simp at he
  rename_i hagg
  simp only [Option.some.injEq] at he; subst he
  obtain ⟨zv, hzv, z1, z2, z3⟩ := zeroCells_ok hz
  have hin := zeroCells_in hz
  obtain ⟨r1, r2⟩ := z3 w S β (size σ)
  obtain ⟨p1, p2⟩ := parts_ok h hv
  have hparts : (ps.map fun (i, x) => (i, a.eval x)).toList = ps.toList.map fun p => (p.1, a.eval p.2) := by simp
  have fin : ∀ C', c.P.built T (ps.toList.map fun p => (p.1, a.eval p.2)) = some C' → RAs w S β cs C'.toList → (∀ u ∈ C'.toList, OneC u) → AV.lts (size σ) (gen σ) cs → Ran c o σ a w S β { v := mkAgg cs } := by
    intro C' hb c1 c2 c3
    obtain ⟨q1, q2⟩ := mkAgg_ok c1 c2 c3
    refine Ran.pure h (u := .agg C') ?_ (by simpa using q1) q2
    simp only [execOp, hop]
    refine run_value (run_build w T _ C' ?_)
    rw [hparts]; exact hb
  have fillc := fun place hp => fill_ok (w := w) (S := S) (β := β) (place := place) hp (n := size σ) (gs := gen σ) (C := zv.cells) hcs (RAs_map.2 r1) z2 (alts_map.2 r2) p1 p2
  cases hi : c.P.info? T with
  | none => simp [hi] at hzv
  | some i =>
    simp only [hi, Option.bind_some] at hzv
    cases hu : c.P.underlying T with
    | none =>
      simp [isAggT, hu] at hagg
    | some d =>
      cases d with
      | struct fs =>
        obtain ⟨pl, m1, m2⟩ := mapM_get (P := c.P) (fs := fs.toList) (fun f hf => by
          obtain ⟨k, hk⟩ := List.getElem?_of_mem hf
          obtain ⟨d, hd⟩ := Option.isSome_iff_exists.1 (hP.field T fs k f (inT_lt hin) hu (by simpa using hk))
          unfold Program.underlying at hd
          cases hq : c.P.info? f.type with
          | none => simp [hq] at hd
          | some _ => rfl)
        obtain ⟨C', q1, q2, q3, q4⟩ := fillc (fun k => pl.toArray[k]?) (by
          intro k p hk
          cases hf : field? c.P T k with
          | some fl =>
            rw [hf] at hk
            simp only [Option.some.injEq] at hk; subst hk
            simp only [field?, hin, if_true, hu] at hf
            have := m2 k fl (by simpa using hf)
            simpa using this
          | none =>
            rw [hf] at hk
            simp [arrT, hin, hu] at hk)
        refine fin C' ?_ q2 q3 q4
        simp only [Program.built, hi, hu, hzv, m1]
        exact q1
      | array n E =>
        obtain ⟨d, hd⟩ := Option.isSome_iff_exists.1 (hP.arr T n E (inT_lt hin) hu)
        obtain ⟨ie, hie⟩ := info_some (P := c.P) (t := E) (by rw [hd]; rfl)
        obtain ⟨C', q1, q2, q3, q4⟩ := fillc (fun k => some (k * ie.size, ie.size)) (by
          intro k p hk
          simp only [field?, hin, if_true, hu, arrT, Option.map_some, Option.some.injEq] at hk
          subst hk
          simp [sizeT, hie])
        refine fin C' ?_ q2 q3 q4
        simp only [Program.built, hi, hu, hzv, hie]
        exact q1
      | _ => simp [isAggT, hu] at hagg
end
end Go.AE

/- AE: rows made; closures; slices of slices; lengths. -/
namespace Go.AE

section
variable {c : Cfg} {o : Oper} {σ : St} {a : Act} {w : World} {S : Fixed} {β : Emb}

theorem RAv.keep {w w' : World} {S S' : Fixed} {β β' : Emb} {n : Nat} {gs : Nat → Nat} (hk : Keeps w S w' S') (hb : SameH n β β') (hg : SameL gs β β') : ∀ {ys : List AV} {vs : List Value}, (∀ y ∈ ys, y.lt n gs) → RAv w S β ys vs → RAv w' S' β' ys vs
  | [], _, _, h => h
  | y :: r, vs, hl, h => by
    obtain ⟨v, vs', rfl, v1, v2⟩ := h
    exact ⟨v, vs', rfl, v1.keep hk hb hg (hl y (by simp)), v2.keep hk hb hg (fun z hz => hl z (by simp [hz]))⟩

theorem opMakeFunc_ok (h : SR c.P σ a w S β) {g : FuncId} {first caps : Array Operand} (hop : o.op = .makeFunc (.func g) first caps) {e : Eff} (he : opMakeFunc σ g first caps = some e) : Ran c o σ a w S β e := by
  unfold opMakeFunc at he
  split at he
  case h_2 => simp at he
  rename_i fs f1 cs f2 h1 h2
  simp only [Option.some.injEq] at he; subst he
  simp only [Option.bind_eq_some_iff] at h1 h2
  obtain ⟨v1, hv1, h1⟩ := h1
  obtain ⟨v2, hv2, h2⟩ := h2
  obtain ⟨a1, a2⟩ := opds_ok h hv1
  obtain ⟨b1, b2⟩ := opds_ok h hv2
  obtain ⟨S1, s1, s2, s3, s4⟩ := resolves_ok h h1 a1 a2
  have hk := Keeps.mono (w := w) s2.1
  obtain ⟨S2, t1, t2, t3, t4⟩ := resolves_ok (σ := withFz σ f1) s1 h2 (b1.keep hk (SameH.refl _ β) (SameL.refl _ β) b2) b2
  refine Ran.fz (f := f1 ++ f2) (S' := S2) (u := .func (.func g) (first.map a.eval) (caps.map a.eval)) (by rw [withFz_append]; exact t1) (s2.trans (fun r => get_fz r) t2) ?_ ?_ ?_
  · simp only [execOp, hop]
    exact run_value rfl
  · simp only [RA, RA1, RV]
    exact ⟨_, _, rfl, by rw [Array.toList_map]; exact RVs.keep (Keeps.mono (w := w) t2.1) (SameH.refl (size σ) β) _ _ s4 s3, by rw [Array.toList_map]; exact t3⟩
  · simp only [AV.lt, AV.lt1, D.lt]; exact ⟨s4, t4⟩

/-! ### rows made -/
def RDs (w : World) (S : Fixed) (β : Emb) : List (Nat × D) → List (Nat × Value) → Prop
  | [], vs => vs = []
  | p :: r, vs => ∃ u us, vs = (p.1, u) :: us ∧ RV w S β p.2 u ∧ RDs w S β r us

theorem partsD_ok : ∀ {ps : List (Nat × AV)} {σ : St} {S : Fixed} {us : List (Nat × Value)} {ds : List (Nat × D)} {f : List (Nat × Bool)}, SR c.P σ a w S β → partsD σ.loc ps = some (ds, f) → RPs w S β ps us → (∀ x ∈ ps, x.2.lt (size σ) (gen σ)) →
    ∃ S' : Fixed, SR c.P (withFz σ f) a w S' β ∧ Fz σ β S S' ∧ RDs w S' β ds us ∧ ∀ d ∈ ds, d.2.lt (size σ)
  | [], σ, S, us, ds, f, h, hx, hu, _ => by
    simp only [partsD, Option.some.injEq, Prod.mk.injEq] at hx
    obtain ⟨rfl, rfl⟩ := hx
    simp only [RPs] at hu
    subst hu
    exact ⟨S, h, Fz.refl _ _ _, rfl, by simp⟩
  | (i, x) :: r, σ, S, us, ds, f, h, hx, hu, hl => by
    simp only [partsD] at hx
    split at hx
    · rename_i d f1 ds' f2 h1 h2
      simp only [Option.some.injEq, Prod.mk.injEq] at hx
      obtain ⟨rfl, rfl⟩ := hx
      obtain ⟨u, us', rfl, u1, u2⟩ := hu
      obtain ⟨S1, s1, s2, s3, s4⟩ := resolveN_ok h h1 u1 (hl (i, x) (by simp))
      have hk := Keeps.mono (w := w) s2.1
      have keepP : ∀ {ys : List (Nat × AV)} {vs : List (Nat × Value)}, (∀ y ∈ ys, y.2.lt (size σ) (gen σ)) → RPs w S β ys vs → RPs w S1 β ys vs := by
        intro ys
        induction ys with
        | nil => intro vs _ hv; exact hv
        | cons y ys ih =>
          intro vs hy hv
          obtain ⟨v, vs', rfl, v1, v2⟩ := hv
          exact ⟨v, vs', rfl, v1.keep hk (SameH.refl (size σ) β) (SameL.refl (gen σ) β) (hy y (by simp)), ih (fun z hz => hy z (by simp [hz])) v2⟩
      obtain ⟨S2, t1, t2, t3, t4⟩ := partsD_ok (ps := r) (σ := withFz σ f1) s1 h2 (keepP (fun y hy => hl y (by simp [hy])) u2) (fun y hy => hl y (by simp [hy]))
      refine ⟨S2, by rw [withFz_append]; exact t1, s2.trans (fun r => get_fz r) t2, ⟨u, us', rfl, RV.keep (Keeps.mono (w := w) t2.1) (SameH.refl (size σ) β) d u s4 s3, t3⟩, ?_⟩
      intro y hy
      rcases List.mem_cons.1 hy with rfl | hy
      · exact s4
      · exact t4 y hy
    · simp at hx

theorem fillE_ok {n es : Nat} : ∀ {ds : List (Nat × D)} {us : List (Nat × Value)} {xs xs' : List D} {C : Array Value}, fillE es xs ds = some xs' → (∀ (j : Nat) x, xs[j]? = some x → ElOk w S β C es j x) → C.size = xs.length * es → D.lts n xs →
    RDs w S β ds us → (∀ d ∈ ds, d.2.lt n) → ∃ C', Instr.fill (fun i => some (i * es, es)) C us = some C' ∧ C'.size = C.size ∧ (∀ (j : Nat) x, xs'[j]? = some x → ElOk w S β C' es j x) ∧ xs'.length = xs.length ∧ D.lts n xs'
  | [], us, xs, xs', C, hf, hx, hs, hl, hu, _ => by
    simp only [fillE, Option.some.injEq] at hf; subst hf
    simp only [RDs] at hu; subst hu
    exact ⟨C, rfl, rfl, hx, rfl, hl⟩
  | (i, v) :: r, us, xs, xs', C, hf, hx, hs, hl, hu, hls => by
    simp only [fillE] at hf
    split at hf
    case isFalse => simp at hf
    rename_i hc
    obtain ⟨u, us', rfl, u1, u2⟩ := hu
    simp only at u1
    have hvl := hls (i, v) (by simp)
    have hu : u.cells.size = es := by
      have := RA_cells (gs := fun _ => 0) (show RA w S β (.d v) u from u1) (show (AV.d v).lt n (fun _ => 0) from hvl) (fun d hd => by cases hd; exact hc.1)
      have := RAs_length this.1
      simp [AV.cells] at this
      omega
    have hle : i * es + es ≤ C.size := by
      rw [hs]
      have : (i + 1) * es ≤ xs.length * es := Nat.mul_le_mul_right _ hc.2.2
      rw [Nat.add_mul, Nat.one_mul] at this; exact this
    obtain ⟨C', q1, q2, q3, q4, q5⟩ := fillE_ok (ds := r) (C := putCells C (i * es) u.cells.toList) hf (el_set hx u1 hc.1 hu hle) (by rw [putCells_size]; simpa using hs) (by
      rw [lts_iff] at hl ⊢
      intro d hd
      rcases List.mem_or_eq_of_mem_set hd with hd | rfl
      · exact hl d hd
      · exact hvl) u2 (fun x hx => hls x (by simp [hx]))
    refine ⟨C', ?_, by rw [q2, putCells_size], q3, by simpa using q4, q5⟩
    simp only [Instr.fill, fill_step]
    rw [if_neg (by simp; omega)]
    exact q1

theorem lts_replicate {n m : Nat} {z : D} (h : z.lt n) : D.lts n (List.replicate m z) := by
  rw [lts_iff]; intro d hd; rw [List.mem_replicate] at hd; rw [hd.2]; exact h

theorem run_newRow {P : Program} {w : World} (t : TypeId) (C : Array Value) : (Go.newRow t C).run P w = .ok ⟨w.heap.size, 0, none⟩ (w.alloc (.cells C t)) := by
  simp [Go.newRow, newObj, Sem.run]

/-- The zeros of a new row. -/
theorem zrow_ok {P : Program} (hP : WFP P) {E : TypeId} {z : D} (hz : zeroEl P E = some z) (n : Nat) : ∃ zc : Array Value, (∀ w, (if n * sizeT P E = 0 then pure #[] else do pure (← zeroValue E).cells : Sem (Array Value)).run P w = .ok zc w) ∧
    ∀ (w : World) (S : Fixed) (β : Emb), ∀ (j : Nat) x, 0 < sizeT P E → (List.replicate n z)[j]? = some x → ElOk w S β (zarr zc (n * sizeT P E)) (sizeT P E) j x := by
  obtain ⟨zv, ⟨z0, z1⟩, z2, z3, z4⟩ := zeroEl_ok hP hz
  by_cases h0 : n * sizeT P E = 0
  · refine ⟨#[], fun w => by rw [if_pos h0]; rfl, ?_⟩
    intro w S β j x hpos hj
    rcases Nat.mul_eq_zero.1 h0 with h | h
    · subst h; simp at hj
    · omega
  · refine ⟨zv.cells, fun w => by rw [if_neg h0]; simp only [Sem.run_bind, z1, Result.andThen_ok]; rfl, ?_⟩
    intro w S β j x _ hj
    have := zeros_ok (n := n) (z4 w S β 0).1 z3 j x hj
    rw [z2] at this; exact this

theorem opBuildSlice_ok (hP : WFP c.P) (h : SR c.P σ a w S β) {f : FuncId} {T : TypeId} {n : Nat} {ps : Array (Nat × Operand)} (hop : o.op = .buildSlice T n ps) {e : Eff} (he : opBuildSlice c f σ o T n ps = some e) : Ran c o σ a w S β e := by
  unfold opBuildSlice at he
  split at he
  case h_2 => simp at he
  rename_i E ds fw hE hd
  simp only [Option.bind_eq_some_iff] at hd
  obtain ⟨vs, hv, hd⟩ := hd
  split at he
  case h_2 => simp at he
  rename_i z hz
  split at he
  case h_2 => simp at he
  rename_i xs hxs
  split at he
  case isFalse => simp at he
  rename_i hle
  have hT : rowT c.P E = true := by
    unfold newRowZ newRow at he
    split at he
    · split at he
      · assumption
      · simp at he
    · split at he
      · assumption
      · simp at he
  obtain ⟨p1, p2⟩ := parts_ok h hv
  obtain ⟨S1, s1, s2, s3, s4⟩ := partsD_ok h hd p1 p2
  obtain ⟨zc, y1, y2⟩ := zrow_ok hP hz n
  obtain ⟨zv, ⟨z0, z1⟩, z2, z3, z4⟩ := zeroEl_ok hP hz
  obtain ⟨C, q1, q2, q3, q4, q5⟩ := fillE_ok (n := size σ) (C := zarr zc (n * sizeT c.P E)) hxs (fun j x hj => y2 w S1 β j x (rowT_ok hT).1 hj) (by rw [zarr_size]; simp) (lts_replicate (z4 w S β _).2) s3 s4
  rw [zarr_size] at q2
  have hxl : xs.length = n := by rw [q4]; simp
  obtain ⟨S2, β', r1, r2, r3, r4⟩ := newRowZ_ok s1 he q2 q3 q5 (by omega)
  rw [hxl] at r3
  refine ⟨_, S2, β', _, .inl ?_, r1, (Fr.fz s2).trans r2, r3, r4⟩
  have hparts : (ps.map fun (i, x) => (i, a.eval x)).toList = ps.toList.map fun p => (p.1, a.eval p.2) := by simp
  have hEu := hP.slice _ _ (elemT_lt hE) (elemT_ok hE)
  simp only [execOp, hop]
  refine run_value ?_
  simp only [Instr.buildSlice, Sem.run_bind, run_underlying (elemT_ok hE) w, Result.andThen_ok, sizeOf_run hEu, hparts]
  rw [if_neg (by omega)]
  have y1' := y1 w
  by_cases h0 : n * sizeT c.P E = 0
  · simp only [h0, if_true, Sem.run_pure, Result.ok.injEq, and_true] at y1'
    simp only [h0, if_true, Sem.run_pure, Result.andThen_ok]
    rw [← y1', h0] at q1
    simp only [zarr] at q1
    rw [Sem.run_bind, Sem.run_pure, Result.andThen_ok]
    rw [q1]
    simp only [Sem.run_bind, run_newRow, Result.andThen_ok]
    rfl
  · simp only [h0, if_false, Sem.run_bind, z1, Result.andThen_ok, Sem.run_pure, Result.ok.injEq, and_true] at y1'
    simp only [h0, if_false, Sem.run_bind, z1, Result.andThen_ok, Sem.run_pure]
    rw [← y1'] at q1
    simp only [zarr] at q1
    rw [q1]
    simp only [Sem.run_bind, run_newRow, Result.andThen_ok]
    rfl

theorem opMakeSlice_ok (hP : WFP c.P) (h : SR c.P σ a w S β) {f : FuncId} {T : TypeId} {x y : Operand} (hop : o.op = .makeSlice T x y) {e : Eff} (he : opMakeSlice c f σ o T x y = some e) : Ran c o σ a w S β e := by
  unfold opMakeSlice at he
  split at he
  case h_2 => simp at he
  rename_i E n m hE hn hm
  split at he
  case isFalse => simp at he
  rename_i hc
  obtain ⟨rfl, hmax⟩ := hc
  simp only [Option.bind_eq_some_iff] at he hn hm
  obtain ⟨z, hz, he⟩ := he
  obtain ⟨vx, hvx, hn⟩ := hn
  obtain ⟨vy, hvy, hm⟩ := hm
  obtain ⟨k1, i1, e1, p1, q1⟩ := natOf_ok hn (opd_ok h hvx).1
  obtain ⟨k2, i2, e2, p2, q2⟩ := natOf_ok hm (opd_ok h hvy).1
  have hT : rowT c.P E = true := by unfold newRow at he; split at he; assumption; simp at he
  obtain ⟨hpos, hby⟩ := rowT_ok hT
  obtain ⟨ti, t1, t2, t3⟩ := rowT_und hT
  obtain ⟨zc, y1, y2⟩ := zrow_ok hP hz n
  obtain ⟨zv, ⟨z0, z1⟩, z2, z3, z4⟩ := zeroEl_ok hP hz
  obtain ⟨β', r1, r2, r3, r4⟩ := newRow_ok (σ := σ) (f := []) h he (C := zarr zc (n * sizeT c.P E)) (cap := n) (zarr_size _ _) (fun j x hj => y2 w S β j x hpos hj) (lts_replicate (z4 w S β _).2) (by simp)
  refine ⟨_, S, β', _, .inl ?_, r1, r2, r3, r4⟩
  simp only [maxN] at hmax
  have hi1 : i1 ≤ 1073741824 := by omega
  have hi2 : i2 ≤ 1073741824 := by omega
  have h12 : i1 = i2 := by omega
  subst h12
  have hzi : ti.zero = some zv := by rw [t1] at z0; exact z0
  simp only [execOp, hop, e1, e2]
  refine run_value ?_
  have hby' : (ti.bytes : Int) * i1 ≤ 281474976710656 := by
    have h1 : (ti.bytes : Int) * i1 ≤ 65536 * i1 := Int.mul_le_mul_of_nonneg_right (by omega) p1
    omega
  have := run_make (P := c.P) w T E ti zv (elemT_ok hE) t1 hzi k1 k2 i1 i1 p1 (Int.le_refl _) hby' (by omega)
  rw [this, q1, t2]
  have hzc : zc = zv.cells ∨ n * sizeT c.P E = 0 := by
    by_cases h0 : n * sizeT c.P E = 0
    · exact .inr h0
    · have := y1 w
      simp only [h0, if_false, Sem.run_bind, z1, Result.andThen_ok, Sem.run_pure, Result.ok.injEq, and_true] at this
      exact .inl this.symm
  rcases hzc with rfl | h0
  · simp [madeCells, zarr]
  · simp [madeCells, zarr, h0, Array.range_zero']

/-! ### lengths and bounds -/
theorem lenS_ok (h : SR c.P σ a w S β) {x : AV} {n : Nat} {u : Value} (hn : lenS σ x = some n) (hu : RA w S β x u) : ∃ p cap, u = .slice p n cap := by
  unfold lenS at hn
  split at hn
  · simp only [Option.some.injEq] at hn; subst hn
    obtain ⟨p, cap, rfl, _⟩ : ∃ p cap, u = .slice p _ cap ∧ _ := by simpa only [RA, RA1, RV] using hu
    exact ⟨p, cap, rfl⟩
  · simp only [Option.some.injEq] at hn; subst hn
    obtain ⟨p, rfl⟩ : ∃ p, u = .slice p 0 0 := by simpa only [RA, RA1, RV] using hu
    exact ⟨p, 0, rfl⟩
  · split at hn
    · rename_i r off len hp
      simp only [Option.some.injEq] at hn; subst hn
      obtain ⟨q, cap, rfl, _⟩ := slOf_RA hp hu
      exact ⟨q, cap, rfl⟩
    · rename_i r hp
      obtain ⟨q, rfl, _⟩ := slOf_RA hp hu
      split at hn
      · rename_i T xs ho
        simp only [Option.some.injEq] at hn; subst hn
        rw [(h.obj _ _ ho).1.1]; exact ⟨q, _, rfl⟩
      · rename_i ho
        simp only [Option.some.injEq] at hn; subst hn
        rw [(h.obj _ _ ho).1.2]; exact ⟨q, _, rfl⟩
      · simp at hn
    · simp at hn

theorem optNat_ok (h : SR c.P σ a w S β) {x : Option Operand} {v : Option Nat} (hx : optNat σ.env x = some v) : (x = none ∧ v = none) ∨ ∃ y n k i, x = some y ∧ v = some n ∧ a.eval y = .int k i ∧ 0 ≤ i ∧ i.toNat = n := by
  cases x with
  | none => simp only [optNat, Option.some.injEq] at hx; exact .inl ⟨rfl, hx.symm⟩
  | some y =>
    simp only [optNat, Option.map_eq_some_iff, Option.bind_eq_some_iff] at hx
    obtain ⟨n, ⟨u, hu, hn⟩, rfl⟩ := hx
    obtain ⟨k, i, e1, e2, e3⟩ := natOf_ok hn (opd_ok h hu).1
    exact .inr ⟨y, n, k, i, rfl, rfl, e1, e2, e3⟩

theorem sliceBound_run {P : Program} {k : IntKind} {i : Int} {y : Nat} {code : BoundsCode} (h0 : 0 ≤ i) (h1 : i.toNat ≤ y) (w : World) : (Instr.sliceBound (.int k i) y code).run P w = .ok i.toNat w := by
  have : i ≤ (y : Int) := by omega
  simp only [Instr.sliceBound, asIntOf, Sem.run_bind, Sem.run_pure, Result.andThen_ok, h0, this, and_self, if_true]

/-- The bounds of a slice, without a third. -/
theorem bounds_run (h : SR c.P σ a w S β) {lo hi : Option Operand} {l hh : Option Nat} (hl : optNat σ.env lo = some l) (hhi : optNat σ.env hi = some hh) (isS : Bool) (len cap : Nat) (h1 : l.getD 0 ≤ hh.getD len) (h2 : hh.getD len ≤ cap) :
    (Instr.sliceBounds isS len cap (lo.map a.eval) (hi.map a.eval) none).run c.P w = .ok (l.getD 0, hh.getD len, cap) w := by
  rcases optNat_ok h hl with ⟨rfl, rfl⟩ | ⟨y, n, k, i, rfl, rfl, e1, e2, rfl⟩ <;> rcases optNat_ok h hhi with ⟨rfl, rfl⟩ | ⟨y', n', k', i', rfl, rfl, e1', e2', rfl⟩
  · simp only [Instr.sliceBounds, Option.map_none, Sem.run_bind, Sem.run_pure, Result.andThen_ok, Option.getD_none]
  · simp only [Option.getD_some] at h1 h2
    simp only [Instr.sliceBounds, Option.map_none, Option.map_some, e1', Sem.run_bind, Sem.run_pure, Result.andThen_ok, Option.getD_none, Option.getD_some, sliceBound_run e2' h2]
  · simp only [Option.getD_some, Option.getD_none] at h1 h2
    simp only [Instr.sliceBounds, Option.map_none, Option.map_some, e1, Sem.run_bind, Sem.run_pure, Result.andThen_ok, Option.getD_none, Option.getD_some, sliceBound_run e2 h1]
  · simp only [Option.getD_some] at h1 h2
    simp only [Instr.sliceBounds, Option.map_none, Option.map_some, e1, e1', Sem.run_bind, Sem.run_pure, Result.andThen_ok, Option.getD_some, sliceBound_run e2 h1, sliceBound_run e2' h2]

theorem sliceAt_slice {P : Program} {T E : TypeId} (hT : P.underlying T = some (.slice E)) (w : World) (x : Value) (l h m : Option Value) : (Instr.sliceAt T x l h m).run P w = (Instr.slice T x l h m).run P w := by
  simp only [Instr.sliceAt, Sem.run_bind, run_underlying hT w, Result.andThen_ok]

theorem addr_map (p : Option Addr) (q : Option Addr) (n : Nat) (h : ∀ x, p = some x → x.spot = none) : True := trivial

/-- A slice of a slice, in the model. -/
theorem slice_run (hP : WFP c.P) (h : SR c.P σ a w S β) {T E : TypeId} (hTl : T < c.P.types.size) (hT : c.P.underlying T = some (.slice E)) {lo hi : Option Operand} {l hh : Option Nat} (hl : optNat σ.env lo = some l) (hhi : optNat σ.env hi = some hh) (p : Option Addr) (len cap : Nat) (h1 : l.getD 0 ≤ hh.getD len) (h2 : hh.getD len ≤ cap) :
    (Instr.sliceAt T (.slice p len cap) (lo.map a.eval) (hi.map a.eval) none).run c.P w =
      .ok (.slice (if cap = l.getD 0 then p else p.map (·.add (l.getD 0 * sizeT c.P E))) (hh.getD len - l.getD 0) (cap - l.getD 0)) w := by
  rw [sliceAt_slice hT]
  simp only [Instr.slice, Sem.run_bind, run_underlying hT w, Result.andThen_ok, bounds_run h hl hhi true len cap h1 h2, sizeOf_run (hP.slice _ _ hTl hT), Sem.run_pure]

theorem Fits_len {x : D} {us : List Value} {v : Value} (hf : Fits x us v) (hr : RV w S β x v) : us.length = x.cells.length := by
  cases x with
  | agg cs =>
    simp only [Fits] at hf
    subst hf
    obtain ⟨us', e, _, h⟩ : ∃ us' : Array Value, Value.agg us.toArray = .agg us' ∧ _ ∧ RVs w S β cs us'.toList := by simpa only [RV] using hr
    cases e
    have := RVs_length h
    simpa [D.cells] using this.symm
  | _ => simp only [Fits] at hf; subst hf; rfl

theorem headOk_es {xs : List D} {b off es : Nat} {P : Program} {E : TypeId} (hh : headOk P E xs = true) (hr : REs w S β xs b off es) (hne : xs ≠ []) : es = sizeT P E := by
  cases xs with
  | nil => exact (hne rfl).elim
  | cons x r =>
    simp only [REs] at hr
    obtain ⟨⟨us, v, e1, e2, e3, e4⟩, _⟩ := hr
    have := Nat.eq_of_beq_eq_true hh
    rw [← e1, Fits_len e3 e4]; exact this

theorem REs_sub : ∀ {xs : List D} {b off es : Nat} (l : Nat), REs w S β xs b off es → REs w S β (xs.drop l) b (off + l * es) es
  | _, b, off, es, 0, h => by simpa using h
  | [], b, off, es, l + 1, h => by simp [REs]
  | x :: r, b, off, es, l + 1, h => by
    simp only [REs] at h
    have := REs_sub l h.2
    rwa [show off + es + l * es = off + (l + 1) * es by rw [Nat.add_mul, Nat.one_mul]; omega] at this

theorem REs_take : ∀ {xs : List D} {b off es : Nat} (l : Nat), REs w S β xs b off es → REs w S β (xs.take l) b off es
  | _, b, off, es, 0, h => by simp [REs]
  | [], b, off, es, l + 1, h => by simp [REs]
  | x :: r, b, off, es, l + 1, h => by
    simp only [REs] at h
    simp only [List.take_succ_cons, REs]
    exact ⟨h.1, REs_take l h.2⟩

theorem mkSl_RA {r : Ref} {off len cap : Nat} {q : Option Addr} (hc : off + cap = β.cap r) (hq : 0 < β.cap r → q = some ⟨β.blk r, off * β.esz r, none⟩) : RA w S β (mkSl r off len) (.slice q len cap) := by
  cases r <;> (simp only [mkSl, RA, RA1, RV]; exact ⟨q, cap, rfl, hc, hq⟩)

/-- A slice of a slice. -/
theorem sliceOp_ok (h : SR c.P σ a w S β) {E : TypeId} {x v : AV} {u : Value} {lo hi : Option Nat} (hv : sliceOp c σ E x lo hi = some v) (hu : RA w S β x u) (hl : x.lt (size σ) (gen σ)) :
    ∃ p len cap, u = .slice p len cap ∧ lo.getD 0 ≤ hi.getD len ∧ hi.getD len ≤ cap ∧ RA w S β v (.slice (if cap = lo.getD 0 then p else p.map (·.add (lo.getD 0 * sizeT c.P E))) (hi.getD len - lo.getD 0) (cap - lo.getD 0)) ∧ v.lt (size σ) (gen σ) := by
  unfold sliceOp at hv
  split at hv
  · rename_i xs
    split at hv
    case isFalse => simp at hv
    rename_i hc
    obtain ⟨hc1, hc2, hc3⟩ := hc
    simp only [Option.some.injEq] at hv; subst hv
    obtain ⟨p, cap, rfl, hcap, hr⟩ : ∃ p cap, u = .slice p xs.length cap ∧ xs.length ≤ cap ∧ (xs = [] ∨ ∃ b off es, p = some ⟨b, off, none⟩ ∧ REs w S β xs b off es) := by simpa only [RA, RA1, RV] using hu
    have hlen : ((xs.drop (lo.getD 0)).take (hi.getD xs.length - lo.getD 0)).length = hi.getD xs.length - lo.getD 0 := by simp; omega
    refine ⟨p, _, cap, rfl, hc1, by omega, ?_, ?_⟩
    · simp only [RA, RA1, RV]
      refine ⟨_, _, by rw [hlen], by rw [hlen]; omega, ?_⟩
      rcases hr with rfl | ⟨b, off, es, rfl, hr⟩
      · left; simp
      · by_cases hcl : cap = lo.getD 0
        · left
          have : hi.getD xs.length - lo.getD 0 = 0 := by omega
          rw [this]; simp
        · by_cases hx : xs = []
          · left; subst hx; simp
          · right
            have hes := headOk_es hc3 hr hx
            refine ⟨b, off + lo.getD 0 * es, es, ?_, REs_take _ (REs_sub _ hr)⟩
            rw [if_neg hcl, hes]; simp [addr_add]
    · have : D.lts (size σ) xs := by simpa [AV.lt, AV.lt1, D.lt] using hl
      simp only [AV.lt, AV.lt1, D.lt]
      exact lts_sub this _ _
  · split at hv
    case isFalse => simp at hv
    rename_i hc
    simp only [Option.some.injEq] at hv; subst hv
    obtain ⟨p, rfl⟩ : ∃ p, u = .slice p 0 0 := by simpa only [RA, RA1, RV] using hu
    refine ⟨p, 0, 0, rfl, by omega, by omega, ?_, hl⟩
    simp only [RA, RA1, RV]
    rw [hc.1, hc.2]
    exact ⟨p, rfl⟩
  · split at hv
    case h_2 => simp at hv
    rename_i r q hp
    have hR := slOf_RA hp hu
    have hlt := slOf_lt hp hl
    split at hv
    · rename_i U xs ho
      split at hv
      case isFalse => simp at hv
      rename_i hc
      obtain ⟨hc1, hc2, hc3⟩ := hc
      have hs : sizeT c.P U = sizeT c.P E := Nat.eq_of_beq_eq_true hc3
      obtain ⟨hok, _⟩ := h.obj _ _ ho
      have hfit : xs.length ≤ β.cap r := by
        rcases hok.2 with ⟨_, h0⟩ | hrow
        · subst h0; simp
        · exact hrow.fits
      have hes : 0 < β.cap r → β.esz r = sizeT c.P E := by
        intro hpos
        rcases hok.2 with ⟨h0, _⟩ | hrow
        · omega
        · rw [hrow.ty, hs]
      -- the slice as it lies
      obtain ⟨off, len, q', cap, hoff, hlen, rfl, hcap, hq⟩ : ∃ off len q' cap, q.elim 0 (·.1) = off ∧ q.elim xs.length (·.2) = len ∧ u = .slice q' len cap ∧ off + cap = β.cap r ∧ (0 < β.cap r → q' = some ⟨β.blk r, off * β.esz r, none⟩) := by
        cases q with
        | none =>
          obtain ⟨q', rfl, hq⟩ := hR
          exact ⟨0, xs.length, q', β.cap r, rfl, rfl, by rw [hok.1], by omega, fun h0 => by rw [hq h0]; simp⟩
        | some q =>
          obtain ⟨off, len⟩ := q
          obtain ⟨q', cap, rfl, h1, h2⟩ := hR
          exact ⟨off, len, q', cap, rfl, rfl, rfl, h1, h2⟩
      rw [hoff, hlen] at hc2 hv
      rw [hlen] at hc1
      have hcl : hi.getD len ≤ cap := by omega
      refine ⟨q', len, cap, rfl, hc1, hcl, ?_⟩
      split at hv
      · rename_i he
        simp only [Option.some.injEq] at hv; subst hv
        refine ⟨?_, by simp [AV.lt, AV.lt1, D.lt, D.lts]⟩
        simp only [RA, RA1, RV]
        exact ⟨_, _, by rw [he.1, Nat.sub_self]; rfl, by simp, .inl trivial⟩
      · rename_i he
        simp only [Option.some.injEq] at hv; subst hv
        refine ⟨mkSl_RA (by omega) ?_, (hlt _ _ 0).1⟩
        intro hpos
        rw [hq hpos]
        by_cases hce : cap = lo.getD 0
        · rw [if_pos hce]
          have h0 : lo.getD 0 = 0 := by
            by_cases h0 : lo.getD 0 = 0
            · exact h0
            · exact (he ⟨by omega, by omega⟩).elim
          rw [h0]; simp
        · rw [if_neg hce, ← hes hpos]
          simp [addr_add, Nat.add_mul]
    · rename_i ho
      obtain ⟨hb1, hb2⟩ := (h.obj _ _ ho).1
      split at hv
      case isFalse => simp at hv
      rename_i hc
      obtain ⟨hc1, hc2, hc3, hc4⟩ := hc
      simp only [Option.some.injEq] at hv; subst hv
      obtain ⟨q', cap, rfl, hcap⟩ : ∃ q' cap, u = .slice q' 0 cap ∧ cap = 0 := by
        cases q with
        | none => obtain ⟨q', rfl, _⟩ := hR; exact ⟨q', _, by rw [hb2], hb1⟩
        | some q =>
          obtain ⟨off, len⟩ := q
          obtain ⟨q', cap, rfl, h1, _⟩ := hR
          simp only [Option.elim_some] at hc4
          subst hc4
          exact ⟨q', cap, rfl, by omega⟩
      subst hcap
      refine ⟨q', 0, 0, rfl, by omega, by omega, ?_, (hlt _ _ 0).1⟩
      rw [hc1, hc2]
      exact mkSl_RA (by omega) (fun h0 => by omega)
    · simp at hv

/-- The elements of a slice lie there. -/
def RowAt (w : World) (S : Fixed) (β : Emb) (ys : List D) (b off es : Nat) : Prop :=
  ∀ (j : Nat) x, ys[j]? = some x → ∃ us v, us.length = es ∧ (∀ i u, us[i]? = some u → wcell w b (off + j * es + i) = some u) ∧ Fits x us v ∧ RV w S β x v

theorem elems_ok (h : SR c.P σ a w S β) {E : TypeId} {x : AV} {ys : List D} {u : Value} (he : elems c σ E x = some ys) (hu : RA w S β x u) (hl : x.lt (size σ) (gen σ)) :
    ∃ p cap, u = .slice p ys.length cap ∧ ys.length ≤ cap ∧ D.lts (size σ) ys ∧ (ys = [] ∨ ∃ b off, p = some ⟨b, off, none⟩ ∧ RowAt w S β ys b off (sizeT c.P E)) := by
  unfold elems at he
  split at he
  · rename_i xs
    split at he
    case isFalse => simp at he
    rename_i hh
    simp only [Option.some.injEq] at he; subst he
    obtain ⟨p, cap, rfl, hcap, hr⟩ : ∃ p cap, u = .slice p xs.length cap ∧ xs.length ≤ cap ∧ (xs = [] ∨ ∃ b off es, p = some ⟨b, off, none⟩ ∧ REs w S β xs b off es) := by simpa only [RA, RA1, RV] using hu
    refine ⟨p, cap, rfl, hcap, by simpa [AV.lt, AV.lt1, D.lt] using hl, ?_⟩
    rcases hr with hr | ⟨b, off, es, rfl, hr⟩
    · exact .inl hr
    · by_cases hx : xs = []
      · exact .inl hx
      · have hes := headOk_es hh hr hx
        refine .inr ⟨b, off, rfl, fun j x hj => ?_⟩
        obtain ⟨us, v, e1, e2, e3, e4⟩ := REs_at hr hj
        subst hes
        exact ⟨us, v, e1, fun i u hi => (e2 i u hi).2, e3, e4⟩
  · simp only [Option.some.injEq] at he; subst he
    obtain ⟨p, rfl⟩ : ∃ p, u = .slice p 0 0 := by simpa only [RA, RA1, RV] using hu
    exact ⟨p, 0, rfl, by simp, by simp [D.lts], .inl rfl⟩
  · split at he
    case h_2 => simp at he
    rename_i r q hp
    have hR := slOf_RA hp hu
    split at he
    · rename_i U xs ho
      split at he
      case isFalse => simp at he
      rename_i hsz
      have hs : sizeT c.P U = sizeT c.P E := Nat.eq_of_beq_eq_true hsz
      obtain ⟨hok, hlt⟩ := h.obj _ _ ho
      have hlt : D.lts (size σ) xs := hlt
      -- the part that is seen
      obtain ⟨off, len, q', cap, hy, hle, rfl, hcap, hq⟩ : ∃ off len q' cap, ys = (xs.drop off).take len ∧ off + len ≤ xs.length ∧ u = .slice q' len cap ∧ off + cap = β.cap r ∧ (0 < β.cap r → q' = some ⟨β.blk r, off * β.esz r, none⟩) := by
        cases q with
        | none =>
          obtain ⟨q', rfl, hq⟩ := hR
          simp only [Option.some.injEq] at he
          exact ⟨0, xs.length, q', β.cap r, by simp [← he], by omega, by rw [hok.1], by omega, fun h0 => by rw [hq h0]; simp⟩
        | some q =>
          obtain ⟨off, len⟩ := q
          obtain ⟨q', cap, rfl, h1, h2⟩ := hR
          simp only at he
          split at he
          · rename_i hle
            simp only [Option.some.injEq] at he
            exact ⟨off, len, q', cap, he.symm, hle, rfl, h1, h2⟩
          · simp at he
      have hyl : ys.length = len := by rw [hy]; simp; omega
      refine ⟨q', cap, by rw [hyl], ?_, by rw [hy]; exact lts_sub hlt _ _, ?_⟩
      · rcases hok.2 with ⟨_, h0⟩ | hrow
        · subst h0; simp at hle; omega
        · have := hrow.fits; omega
      · by_cases h0 : ys = []
        · exact .inl h0
        · right
          have hpos : 0 < xs.length := by
            cases ys with
            | nil => exact (h0 rfl).elim
            | cons y r' => simp at hyl; omega
          rcases hok.2 with ⟨_, h00⟩ | hrow
          · subst h00; simp at hpos
          · refine ⟨β.blk r, off * β.esz r, hq hrow.cap, ?_⟩
            intro j x hj
            rw [hy, List.getElem?_take] at hj
            split at hj
            case isFalse => simp at hj
            rw [List.getElem?_drop] at hj
            obtain ⟨_, us, v, e1, e2, e3, e4, _⟩ := row_el h ho hj
            refine ⟨us, v, by rw [e1, hrow.ty, hs], fun i u hi => ?_, e3, e4⟩
            have := e2 i u hi
            rw [← hs, ← hrow.ty, ← Nat.add_mul]; exact this
    · rename_i ho
      obtain ⟨hb1, hb2⟩ := (h.obj _ _ ho).1
      cases q with
      | none =>
        simp only [Option.some.injEq] at he; subst he
        obtain ⟨q', rfl, _⟩ := hR
        exact ⟨q', β.cap r, by rw [hb2]; rfl, by simp, by simp [D.lts], .inl rfl⟩
      | some q =>
        obtain ⟨off, len⟩ := q
        obtain ⟨q', cap, rfl, h1, _⟩ := hR
        split at he
        · rename_i heq; simp at heq
        · rename_i heq
          simp only [Option.some.injEq, Prod.mk.injEq] at heq
          obtain ⟨rfl, rfl⟩ := heq
          simp only [Option.some.injEq] at he; subst he
          exact ⟨q', cap, rfl, by simp, by simp [D.lts], .inl rfl⟩
        · simp at he
    · simp at he

theorem opSlice_ok (hP : WFP c.P) (h : SR c.P σ a w S β) {T : TypeId} {x : Operand} {lo hi mx : Option Operand} (hop : o.op = .slice T x lo hi mx) {e : Eff} (he : opSlice c σ T x lo hi mx = some e) : Ran c o σ a w S β e := by
  unfold opSlice at he
  split at he
  · -- three indices
    rename_i mx
    split at he
    case h_2 => simp at he
    rename_i E v l hh m hE hv hl hhi hm
    split at he
    case h_2 => simp at he
    rename_i ys hn
    split at he
    case isFalse => simp at he
    rename_i hc
    obtain ⟨c1, c2, c3⟩ := hc
    simp only [Option.some.injEq] at he; subst he
    obtain ⟨u1, u2⟩ := opd_ok h hv
    obtain ⟨p, cap, hu, hcap, _, _⟩ := elems_ok h hn u1 u2
    simp only [Option.bind_eq_some_iff] at hm
    obtain ⟨vm, hvm, hm⟩ := hm
    obtain ⟨km, im, em, pm, qm⟩ := natOf_ok hm (opd_ok h hvm).1
    have hT := elemT_ok hE
    refine Ran.pure h (u := .slice (if m = l.getD 0 then p else p.map (·.add (l.getD 0 * sizeT c.P E))) (hh - l.getD 0) (m - l.getD 0)) ?_ ?_ ?_
    · simp only [execOp, hop, hu]
      refine run_value ?_
      rw [sliceAt_slice hT]
      rcases optNat_ok h hhi with ⟨_, h2⟩ | ⟨y', n', k', i', rfl, h2, e1', e2', e3'⟩
      · simp at h2
      · simp only [Option.some.injEq] at h2; subst h2
        rcases optNat_ok h hl with ⟨rfl, rfl⟩ | ⟨y, nn, k, i, rfl, rfl, e1, e2, rfl⟩
        · simp only [Instr.slice, Instr.sliceBounds, Option.map_none, Option.map_some, em, e1', Sem.run_bind, run_underlying hT w, Sem.run_pure, Result.andThen_ok, sliceBound_run pm (show im.toNat ≤ cap by omega), qm, sliceBound_run e2' (show i'.toNat ≤ m by omega), e3', sizeOf_run (hP.slice _ _ (elemT_lt hE) hT), Option.getD_none]
        · simp only [Option.getD_some] at c1 ⊢
          simp only [Instr.slice, Instr.sliceBounds, Option.map_some, em, e1, e1', Sem.run_bind, run_underlying hT w, Sem.run_pure, Result.andThen_ok, sliceBound_run pm (show im.toNat ≤ cap by omega), qm, sliceBound_run e2' (show i'.toNat ≤ m by omega), e3', sliceBound_run e2 (show i.toNat ≤ hh by omega), sizeOf_run (hP.slice _ _ (elemT_lt hE) hT)]
    · by_cases h0 : m = 0
      · simp only [h0, if_true]
        have hl0 : l.getD 0 = 0 := by omega
        have hh0 : hh = 0 := by omega
        simp only [RA, RA1, RV, hl0, hh0, if_true]
        exact ⟨p, rfl⟩
      · simp only [h0, if_false]
        simp only [RA, RA1, RV]
    · split <;> simp [AV.lt, AV.lt1, D.lt]
  · split at he
    · -- a string
      rename_i s l hh hs hl hhi
      split at he
      case isFalse => simp at he
      rename_i hc
      obtain ⟨c1, c2, c3⟩ := hc
      simp only [Option.some.injEq] at he; subst he
      obtain ⟨u1, u2⟩ := opd_ok h hs
      have hu : a.eval x = .string s := by simpa only [RA, RA1, RV] using u1
      refine Ran.pure h (u := .string (s.extract (l.getD 0) (hh.getD s.size))) ?_ (by simp only [RA, RA1, RV]) (by simp [AV.lt, AV.lt1, D.lt])
      simp only [execOp, hop, hu]
      refine run_value ?_
      simp only [Option.map_none, Instr.sliceAt, Instr.slice, Sem.run_bind, run_underlying (isStrT_ok c1) w, Result.andThen_ok, Option.isSome_none, Bool.false_eq_true, if_false, Sem.run_pure, bounds_run h hl hhi false s.size s.size c2 c3]
    · -- a local array's bytes
      rename_i i g off l hh hv hl hhi
      split at he
      case h_2 => simp at he
      rename_i n E hT
      split at he
      case isFalse => simp at he
      rename_i hc
      obtain ⟨c1, c2, c3⟩ := hc
      simp only [Option.some.injEq] at he; subst he
      obtain ⟨u1, u2⟩ := opd_ok h hv
      have hu : a.eval x = .pointer (some ⟨β.blk (.l i g), off, none⟩) := by simpa only [RA, RA1, RV] using u1
      refine Ran.pure h (u := .slice (some ⟨β.blk (.l i g), off + l.getD 0, none⟩) (hh.getD n - l.getD 0) (n - l.getD 0)) ?_ ?_ u2
      · simp only [execOp, hop, hu]
        refine run_value ?_
        simp only [Option.map_none, Instr.sliceAt, Sem.run_bind, run_underlying (arrT_ok hT) w, Result.andThen_ok, Instr.sureAddr, Sem.run_pure, bounds_run h hl hhi false n n (by omega) c3, sizeOf_run (hP.arr _ _ _ (arrT_lt hT) (arrT_ok hT)), c1, Nat.mul_one, addr_add]
        rw [if_neg (by omega)]
      · simp only [RA, RA1]; exact ⟨_, rfl⟩
    · -- a slice
      rename_i v l hh _ _ hv hl hhi
      split at he
      case h_2 => simp at he
      rename_i E hT
      simp only [pureEff, Option.map_eq_some_iff] at he
      obtain ⟨y, hy, rfl⟩ := he
      obtain ⟨u1, u2⟩ := opd_ok h hv
      obtain ⟨p, len, cap, hu, b1, b2, r1, r2⟩ := sliceOp_ok h hy u1 u2
      refine Ran.pure h ?_ r1 r2
      simp only [execOp, hop, hu]
      exact run_value (by simpa using slice_run hP h (elemT_lt hT) (elemT_ok hT) hl hhi p len cap b1 b2)
    · simp at he
end
end Go.AE

/- AE: built-in functions: lengths, least and greatest, clearing. -/
namespace Go.AE

section
variable {c : Cfg} {o : Oper} {σ : St} {a : Act} {w : World} {S : Fixed} {β : Emb}

theorem builtin_eq {cl : Call} {b : Builtin} (hop : o.op = .call cl) (hc : cl.callee = .builtin b) {us : Array Value} (hu : cl.args.map a.eval = us) :
    ∃ cs, (execOp a.eval o).run c.P w = (Go.builtin b cl.argTypes o.type cs us).run c.P w := by
  refine ⟨cl.args.map fun | .const _ => true | _ => false, ?_⟩
  simp only [execOp, hop, Go.resolve, hc, Sem.run_bind, Sem.run_pure, Result.andThen_ok, invoke, hu]
  rfl

theorem args_eq {cl : Call} {us : List Value} (h : cl.args.toList.map a.eval = us) : cl.args.map a.eval = us.toArray := by
  apply Array.ext'
  simpa using h

theorem RAv1 {x : AV} {vs : List Value} (h : RAv w S β [x] vs) : ∃ u, vs = [u] ∧ RA w S β x u := by
  obtain ⟨u, us, rfl, h1, rfl⟩ := h
  exact ⟨u, rfl, h1⟩
theorem RAv2 {x y : AV} {vs : List Value} (h : RAv w S β [x, y] vs) : ∃ u v, vs = [u, v] ∧ RA w S β x u ∧ RA w S β y v := by
  obtain ⟨u, us, rfl, h1, h2⟩ := h
  obtain ⟨v, rfl, h3⟩ := RAv1 h2
  exact ⟨u, v, rfl, h1, h3⟩
theorem RAv3 {x y z : AV} {vs : List Value} (h : RAv w S β [x, y, z] vs) : ∃ u v t, vs = [u, v, t] ∧ RA w S β x u ∧ RA w S β y v ∧ RA w S β z t := by
  obtain ⟨u, us, rfl, h1, h2⟩ := h
  obtain ⟨v, t, rfl, h3, h4⟩ := RAv2 h2
  exact ⟨u, v, t, rfl, h1, h3, h4⟩

theorem elemAt_ok {P : Program} {ts : Array TypeId} {E : TypeId} (h : elemAt P ts = some E) : ∃ T, ts[0]? = some T ∧ P.underlying T = some (.slice E) := by
  simp only [elemAt, Option.bind_eq_some_iff] at h
  obtain ⟨T, h1, h2⟩ := h
  exact ⟨T, h1, elemT_ok h2⟩

theorem typeAt_ok {ts : Array TypeId} (h : (ts[0]?).isSome) : ts[0]? = some (typeAt ts) := by
  obtain ⟨t, ht⟩ := Option.isSome_iff_exists.1 h
  rw [ht]; simp [typeAt, ht]

theorem mapOf_get {id : Nat} {es : List (D × D)} (h : mapOf σ.hp id = some es) : get σ (.h id) = some (.map es) := by
  unfold mapOf at h
  split at h
  · rename_i es' z hz
    simp only [Option.some.injEq] at h; subst h
    simp [get, hz]
  · simp at h

theorem pairsOk_length : ∀ {ps : List (D × D)} {es : List MapEntry}, pairsOk w S β ps es → ps.length = es.length
  | [], es, h => by simp only [pairsOk] at h; subst h; rfl
  | p :: r, es, h => by
    obtain ⟨e, es', rfl, _, _, h3⟩ := h
    simp [pairsOk_length h3]

/-- A map's entries. -/
theorem map_there (h : SR c.P σ a w S β) {id : Nat} {es : List (D × D)} (hm : mapOf σ.hp id = some es) : ∃ (E : Array MapEntry) (clock : Nat), w.heap[β.blk (.h id)]? = some (.map E clock) ∧ pairsOk w S β es E.toList ∧ (∀ p ∈ es, p.1.lt (size σ) ∧ p.2.lt (size σ)) ∧ ∀ off, ¬ S (β.blk (.h id)) off := by
  obtain ⟨⟨⟨E, clock, h1, h2, _⟩, h3⟩, h4⟩ := h.obj _ _ (mapOf_get hm)
  exact ⟨E, clock, h1, h2, h4, h3⟩

theorem map_births (h : SR c.P σ a w S β) {id : Nat} {es : List (D × D)} (hm : mapOf σ.hp id = some es) {E : Array MapEntry} {clock : Nat} (m1 : w.heap[β.blk (.h id)]? = some (.map E clock)) : Births E.toList clock := by
  obtain ⟨⟨⟨E', clock', h1, _, h2⟩, _⟩, _⟩ := h.obj _ _ (mapOf_get hm)
  rw [m1] at h1; cases h1; exact h2

theorem getObj_run {P : Program} {b : Nat} {E : Array MapEntry} {clock : Nat} (h : w.heap[b]? = some (.map E clock)) : (getObj b).run P w = .ok (.map E clock) w := by
  simp [getObj, Sem.run, h]

theorem lenOp_ok (h : SR c.P σ a w S β) {cl : Call} (hop : o.op = .call cl) (hc : cl.callee = .builtin .len) {v : AV} {u : Value} (ha : cl.args.map a.eval = #[u]) (hu : RA w S β v u) {e : Eff} (he : lenOp c σ cl.argTypes v = some e) : Ran c o σ a w S β e := by
  obtain ⟨cs, hrun⟩ := builtin_eq (c := c) (w := w) hop hc ha
  have fin : ∀ n : Nat, (Builtin.len_ cl.argTypes o.type #[u]).run c.P w = .ok (goInt n) w → Ran c o σ a w S β { v := .d (.int .i64 n) } := by
    intro n hn
    refine Ran.pure h (u := .int .i64 n) ?_ (by simp only [RA, RA1, RV]) (by simp [AV.lt, AV.lt1, D.lt])
    rw [hrun]
    exact run_value hn
  unfold lenOp at he
  split at he
  · rename_i s
    split at he
    case isFalse => simp at he
    rename_i hh
    simp only [Option.some.injEq] at he; subst he
    obtain rfl : u = .string s := by simpa only [RA, RA1, RV] using hu
    refine fin _ ?_
    simp [Builtin.len_, typeAt_ok hh.1, run_underlying (isStrT_ok hh.2)]
  · split at he
    case isFalse => simp at he
    rename_i hh
    simp only [Option.some.injEq] at he; subst he
    obtain rfl : u = .map none := by simpa only [RA, RA1, RV] using hu
    obtain ⟨k, el, ht⟩ := isMapT_ok hh.2
    refine fin 0 ?_
    simp [Builtin.len_, typeAt_ok hh.1, run_underlying ht]
  · rename_i id
    split at he
    case isFalse => simp at he
    rename_i hh
    simp only [Option.map_eq_some_iff] at he
    obtain ⟨es, hes, rfl⟩ := he
    obtain rfl : u = .map (some (β.blk (.h id))) := by simpa only [RA, RA1, RV] using hu
    obtain ⟨k, el, ht⟩ := isMapT_ok hh.2
    obtain ⟨E, clock, m1, m2, _⟩ := map_there h hes
    have hl := pairsOk_length m2
    refine fin _ ?_
    have hg := getObj_run (P := c.P) m1
    simp only [Array.length_toList] at hl
    simp [Builtin.len_, typeAt_ok hh.1, run_underlying ht, hg, hl]
  · split at he
    case h_2 => simp at he
    rename_i E hE
    simp only [Option.map_eq_some_iff] at he
    obtain ⟨n, hn, rfl⟩ := he
    obtain ⟨p, cap, rfl⟩ := lenS_ok h hn hu
    obtain ⟨T, t1, t2⟩ := elemAt_ok hE
    refine fin _ ?_
    simp [Builtin.len_, t1, run_underlying t2]

theorem opCap_ok (h : SR c.P σ a w S β) {cl : Call} (hop : o.op = .call cl) (hc : cl.callee = .builtin .cap) {u : Value} (ha : cl.args.map a.eval = #[u]) (hu : RA w S β (.d .nil0) u) {E : TypeId} (hE : elemAt c.P cl.argTypes = some E) : Ran c o σ a w S β { v := .d (.int .i64 0) } := by
  obtain ⟨cs, hrun⟩ := builtin_eq (c := c) (w := w) hop hc ha
  obtain ⟨p, rfl⟩ : ∃ p, u = .slice p 0 0 := by simpa only [RA, RA1, RV] using hu
  obtain ⟨T, t1, t2⟩ := elemAt_ok hE
  refine Ran.pure h (u := .int .i64 0) ?_ (by simp only [RA, RA1, RV]) (by simp [AV.lt, AV.lt1, D.lt])
  rw [hrun]
  refine run_value ?_
  simp [Builtin.cap_, t1, run_underlying t2, goInt]

theorem opMin2_ok (h : SR c.P σ a w S β) {cl : Call} (hop : o.op = .call cl) (hc : cl.callee = .builtin .min) {j k : IntKind} {x y : Int} {us : Array Value} (ha : cl.args.map a.eval = us) (hu : us = #[.int k x, .int j y]) :
    Ran c o σ a w S β { v := .d (.int k (if y < x then y else x)) } := by
  obtain ⟨cs, hrun⟩ := builtin_eq (c := c) (w := w) hop hc ha
  subst hu
  refine Ran.pure h (u := .int k (if y < x then y else x)) ?_ (by simp only [RA, RA1, RV]) (by simp [AV.lt, AV.lt1, D.lt])
  rw [hrun]
  refine run_value ?_
  simp [Builtin.min_, Builtin.min2]

theorem opMin3_ok (h : SR c.P σ a w S β) {cl : Call} (hop : o.op = .call cl) (hc : cl.callee = .builtin .min) {j k i : IntKind} {x y z : Int} {us : Array Value} (ha : cl.args.map a.eval = us) (hu : us = #[.int k x, .int j y, .int i z]) :
    Ran c o σ a w S β { v := .d (.int k (if z < (if y < x then y else x) then z else (if y < x then y else x))) } := by
  obtain ⟨cs, hrun⟩ := builtin_eq (c := c) (w := w) hop hc ha
  subst hu
  refine Ran.pure h (u := .int k (if z < (if y < x then y else x) then z else (if y < x then y else x))) ?_ (by simp only [RA, RA1, RV]) (by simp [AV.lt, AV.lt1, D.lt])
  rw [hrun]
  refine run_value ?_
  simp [Builtin.min_, Builtin.min2]

theorem opMax2_ok (h : SR c.P σ a w S β) {cl : Call} (hop : o.op = .call cl) (hc : cl.callee = .builtin .max) {j k : IntKind} {x y : Int} {us : Array Value} (ha : cl.args.map a.eval = us) (hu : us = #[.int k x, .int j y]) :
    Ran c o σ a w S β { v := .d (.int k (if y > x then y else x)) } := by
  obtain ⟨cs, hrun⟩ := builtin_eq (c := c) (w := w) hop hc ha
  subst hu
  refine Ran.pure h (u := .int k (if y > x then y else x)) ?_ (by simp only [RA, RA1, RV]) (by simp [AV.lt, AV.lt1, D.lt])
  rw [hrun]
  refine run_value ?_
  simp [Builtin.max_, Builtin.max2]
end
end Go.AE

/- AE: append. -/
namespace Go.AE

/-- Elements, cell by cell. -/
structure Flat (w : World) (S : Fixed) (β : Emb) (ys : List D) (es : Nat) (news : List Value) : Prop where
  len : news.length = ys.length * es
  el : ∀ (j : Nat) x, ys[j]? = some x → ∃ us v, us.length = es ∧ (∀ (i : Nat) u, us[i]? = some u → news[j * es + i]? = some u) ∧ Fits x us v ∧ RV w S β x v

theorem oneBs_iff : ∀ {ys : List D}, oneBs ys = true ↔ ∀ y ∈ ys, y.oneB = true
  | [] => by simp [oneBs]
  | y :: r => by simp [oneBs, oneBs_iff (ys := r)]

theorem flat_of {w : World} {S : Fixed} {β : Emb} {n : Nat} : ∀ {ys : List D} {b off es : Nat}, RowAt w S β ys b off es → D.lts n ys →
    ∃ news, Flat w S β ys es news ∧ (∀ (j : Nat) u, news[j]? = some u → wcell w b (off + j) = some u) ∧ (oneBs ys = true → ∀ u ∈ news, OneC u)
  | [], b, off, es, _, _ => ⟨[], ⟨by simp, by simp⟩, by simp, by simp⟩
  | y :: r, b, off, es, h, hl => by
    obtain ⟨us, v, e1, e2, e3, e4⟩ := h 0 y rfl
    have hr : RowAt w S β r b (off + es) es := fun j x hx => by
      obtain ⟨us', v', f1, f2, f3, f4⟩ := h (j + 1) x (by simpa using hx)
      refine ⟨us', v', f1, fun i u hi => ?_, f3, f4⟩
      have := f2 i u hi
      rwa [show off + (j + 1) * es + i = off + es + j * es + i by rw [Nat.add_mul, Nat.one_mul]; omega] at this
    simp only [D.lts] at hl
    obtain ⟨news, ⟨g1, g2⟩, g3, g4⟩ := flat_of hr hl.2
    refine ⟨us ++ news, ⟨by simp [e1, g1, Nat.add_mul]; omega, ?_⟩, ?_, ?_⟩
    · intro j x hx
      cases j with
      | zero =>
        simp at hx; subst hx
        refine ⟨us, v, e1, fun i u hi => ?_, e3, e4⟩
        have hi' := (List.getElem?_eq_some_iff.1 hi).1
        rw [Nat.zero_mul, Nat.zero_add, List.getElem?_append_left hi']; exact hi
      | succ j =>
        obtain ⟨us', v', f1, f2, f3, f4⟩ := g2 j x (by simpa using hx)
        refine ⟨us', v', f1, fun i u hi => ?_, f3, f4⟩
        have : (j + 1) * es + i = us.length + (j * es + i) := by rw [e1, Nat.add_mul, Nat.one_mul]; omega
        rw [this, List.getElem?_append_right (by omega), Nat.add_sub_cancel_left]
        exact f2 i u hi
    · intro j u hj
      by_cases hlt : j < us.length
      · rw [List.getElem?_append_left hlt] at hj
        have := e2 j u hj
        rwa [Nat.zero_mul, Nat.add_zero] at this
      · rw [List.getElem?_append_right (by omega)] at hj
        have := g3 _ u hj
        rwa [show off + es + (j - us.length) = off + j by omega] at this
    · intro ho u hu
      simp only [oneBs, Bool.and_eq_true] at ho
      rcases List.mem_append.1 hu with hu | hu
      · exact (Fits_cells e3 e4 ho.1 hl.1).2.1 u hu
      · exact g4 ho.2 u hu

theorem Flat.el_ok {w : World} {S : Fixed} {β : Emb} {ys : List D} {es : Nat} {news : List Value} (h : Flat w S β ys es news) {C : Array Value} {k : Nat} (hC : ∀ (j : Nat) u, news[j]? = some u → C[k * es + j]? = some u) :
    ∀ (j : Nat) x, ys[j]? = some x → ElOk w S β C es (k + j) x := by
  intro j x hx
  obtain ⟨us, v, e1, e2, e3, e4⟩ := h.el j x hx
  refine ⟨us, v, e1, fun i u hi => ?_, e3, e4⟩
  have := hC _ u (e2 i u hi)
  rwa [show k * es + (j * es + i) = (k + j) * es + i by rw [Nat.add_mul]; omega] at this

section
variable {c : Cfg} {o : Oper} {σ : St} {a : Act} {w : World} {S : Fixed} {β : Emb}

theorem Flat.keep {w' : World} {S' : Fixed} {β' : Emb} {n : Nat} (hk : Keeps w S w' S') (hb : SameH n β β') {ys : List D} {es : Nat} {news : List Value} (hl : D.lts n ys) (h : Flat w S β ys es news) : Flat w' S' β' ys es news :=
  ⟨h.len, fun j x hx => by
    obtain ⟨us, v, e1, e2, e3, e4⟩ := h.el j x hx
    exact ⟨us, v, e1, e2, e3, RV.keep hk hb x v (lts_iff.1 hl x (List.mem_of_getElem? hx)) e4⟩⟩

theorem isRowT_ok {P : Program} {t : TypeId} (h : isRowT P t = true) : (∃ e', P.underlying t = some (.slice e')) ∨ P.underlying t = some .string := by
  unfold isRowT at h
  split at h
  · rename_i e he; exact .inl ⟨e, he⟩
  · rename_i he; exact .inr he
  · simp at h

/-- What is appended. -/
theorem src_ok (h : SR c.P σ a w S β) {U E : TypeId} (hU : isRowT c.P U = true) {x : AV} {ux : Value} (hux : RA w S β x ux) (hlx : x.lt (size σ) (gen σ)) {ys : List D} (he : elems c σ E x = some ys) (ho : oneBs ys = true) :
    ∃ news, Src c.P (sizeT c.P E) U ux ys.length news w ∧ Flat w S β ys (sizeT c.P E) news ∧ D.lts (size σ) ys := by
  obtain ⟨p, cap, rfl, hcap, hl, hr⟩ := elems_ok h he hux hlx
  rcases hr with rfl | ⟨b, off, rfl, hr⟩
  · refine ⟨[], ⟨isRowT_ok hU, fun _ => rfl, ?_, ?_, by simp, by simp⟩, ⟨by simp, by simp⟩, hl⟩
    · cases p with
      | none => exact run_firstCells_none w _ _ _ _
      | some ad => exact run_firstCells_some w _ _ ad _ _ [] (by simp) (by simp)
    · cases p with
      | none => exact run_firstCells_none w.drew _ _ _ _
      | some ad => exact run_firstCells_some w.drew _ _ ad _ _ [] (by simp) (by simp)
  · obtain ⟨news, g1, g2, g3⟩ := flat_of hr hl
    have hc : ∀ j v, news[j]? = some v → w.cell? ((⟨b, off, none⟩ : Addr).add j) = some v := by
      intro j v hj
      rw [addr_add]; exact g2 j v hj
    exact ⟨news, ⟨isRowT_ok hU, fun _ => rfl, run_firstCells_some w _ _ _ _ _ news g1.len hc, run_firstCells_some w.drew _ _ _ _ _ news g1.len (by simpa using hc), g1.len, fun u hu => oneC' (g3 ho u hu)⟩, g1, hl⟩

theorem src_str {U E : TypeId} (hU : c.P.underlying U = some .string) (hE : sizeT c.P E = 1) (s : ByteArray) :
    Src c.P (sizeT c.P E) U (.string s) (s.data.toList.map fun x => D.int .u8 x.toNat).length (byteCells s) w ∧ Flat w S β (s.data.toList.map fun x => D.int .u8 x.toNat) (sizeT c.P E) (byteCells s) := by
  have hlen : (s.data.toList.map fun x => D.int .u8 x.toNat).length = s.size := by rw [List.length_map, Array.length_toList]; rfl
  rw [hE, hlen]
  refine ⟨Src.ofString w hU s, ⟨by rw [byteCells_length, hlen, Nat.mul_one], ?_⟩⟩
  intro j x hx
  rw [List.getElem?_map, Option.map_eq_some_iff] at hx
  obtain ⟨b, hb, rfl⟩ := hx
  refine ⟨[.int .u8 b.toNat], .int .u8 b.toNat, rfl, fun i u hi => ?_, rfl, by simp only [RV]⟩
  cases i with
  | zero =>
    simp at hi; subst hi
    simp only [byteCells, Nat.mul_one, Nat.add_zero, List.getElem?_map, hb, Option.map_some]
  | succ i => simp at hi

/-! ### the world behind a draw -/
theorem SR.drew {P : Program} (h : SR P σ a w S β) : SR P σ a w.drew S β := by
  refine h.change (w' := w.drew) (fun b off hb => ⟨hb, rfl⟩) h.inw (Nat.le_refl _) (fun _ => Nat.le_refl _) (SameH.refl _ _) (SameL.refl _ _) (fun _ => False) ?_ ?_ ?_ (fun t => .inl ⟨rfl, rfl⟩) h.bound h.defers
  · exact fun r o hr _ => ⟨hr, rfl, fun _ => ⟨fun _ hx => hx, fun _ => Iff.rfl⟩⟩
  · exact fun _ _ _ hN => hN.elim
  · exact fun _ _ _ _ _ _ _ hN => hN.elim

theorem Fr.drew : Fr σ w S β σ w.drew S β :=
  ⟨Nat.le_refl _, fun b off hb => ⟨hb, rfl⟩, fun _ _ h => .inl h, fun _ _ _ => rfl, Nat.le_refl _, SameH.refl _ _, fun _ h => .inl h, rfl, rfl, rfl⟩

/-- A state with one new object; others may be gone. -/
structure Grown2 (σ σ' : St) (r : Ref) (o : Ob) (fz : Bool) : Prop where
  fresh : r.fresh σ
  here : get σ' r = some o
  other : ∀ r' o', r' ≠ r → get σ' r' = some o' → get σ r' = some o' ∧ frozen σ' r' = frozen σ r'
  fz : frozen σ' r = fz
  size : AE.size σ ≤ AE.size σ'
  gen : ∀ i, AE.gen σ i ≤ AE.gen σ' i
  env : σ'.env = σ.env

theorem Grown1.two {σ' : St} {r : Ref} {o : Ob} (h : Grown1 σ σ' r o) : Grown2 σ σ' r o false := ⟨h.fresh, h.here, h.other, h.fz, h.size, h.gen, h.env⟩

theorem SR.alloc2 {P : Program} {σ' : St} {r : Ref} {o : Ob} {fz : Bool} (h : SR P σ a w S β) (hg : Grown2 σ σ' r o fz) (obj : Obj) (cp e l : Nat) (N : Nat → Prop)
    (hok : Keeps w S (w.alloc obj) (fun b off => S b off ∨ (b = w.heap.size ∧ N off)) → ObOk P (w.alloc obj) (fun b off => S b off ∨ (b = w.heap.size ∧ N off)) (β.add r w.heap.size cp e l) r o fz) (hlt : o.lt (size σ') (gen σ')) :
    SR P σ' a (w.alloc obj) (fun b off => S b off ∨ (b = w.heap.size ∧ N off)) (β.add r w.heap.size cp e l) ∧ Fr σ w S β σ' (w.alloc obj) (fun b off => S b off ∨ (b = w.heap.size ∧ N off)) (β.add r w.heap.size cp e l) := by
  have hk : Keeps w S (w.alloc obj) (fun b off => S b off ∨ (b = w.heap.size ∧ N off)) := fun b off hb => ⟨.inl hb, (keeps_alloc h obj b off hb).2⟩
  have hsz : w.heap.size < (w.alloc obj).heap.size := by
    show w.heap.size < (w.heap.push obj).size
    simp
  have mem_other : ∀ {x : Ref} {ox : Ob}, x ≠ r → HasMem (β.add r w.heap.size cp e l) x ox → HasMem β x ox := by
    intro x ox hne hm
    cases ox with
    | row T xs => simp only [HasMem] at hm ⊢; rw [(add_other β _ _ _ _ hne).2.1] at hm; exact hm
    | bare => exact hm
    | _ => trivial
  refine ⟨?_, ?_⟩
  · refine h.change hk ?_ hg.size hg.gen (sameH_add hg.fresh _ _ _ _) (sameL_add hg.fresh _ _ _ _) (fun x => x = r) ?_ ?_ ?_ (fun t => .inl ⟨by rw [hg.env], rfl⟩) (by rw [hg.env]; exact h.bound) h.defers
    · rintro b off (hb | ⟨rfl, _⟩)
      · exact Nat.lt_trans (h.inw b off hb) hsz
      · exact hsz
    · intro x ox hx hne
      obtain ⟨g1, g2⟩ := hg.other x ox hne hx
      refine ⟨g1, g2, fun m => ⟨fun y hy => by rw [heap_alloc_lt w obj (mem_lt h g1 m)]; exact hy, fun off => ⟨?_, .inl⟩⟩⟩
      rintro (hb | ⟨hb, _⟩)
      · exact hb
      · have := mem_lt h g1 m; omega
    · rintro x ox hx rfl
      rw [hg.here] at hx; cases hx
      rw [hg.fz]; exact ⟨hok hk, hlt⟩
    · rintro x y ox oy hx hy hne rfl m1 m2
      obtain ⟨g1, _⟩ := hg.other y oy (Ne.symm hne) hy
      rw [(add_here β x _ _ _ _).1, (add_other β _ _ _ _ (Ne.symm hne)).1]
      have := mem_lt h g1 (mem_other (Ne.symm hne) m2)
      omega
  · refine ⟨Nat.le_of_lt hsz, hk, ?_, fun b hb _ => heap_alloc_lt w obj hb, hg.size, sameH_add hg.fresh _ _ _ _, ?_, rfl, rfl, rfl⟩
    · rintro b off (hb | ⟨rfl, _⟩)
      · exact .inl hb
      · exact .inr (.inr (Nat.le_refl _))
    · rintro b ⟨x, ox, hx, m, rfl⟩
      by_cases hne : x = r
      · subst hne; right; rw [(add_here β x _ _ _ _).1]; exact Nat.le_refl _
      · obtain ⟨g1, _⟩ := hg.other x ox hne hx
        left; exact ⟨x, ox, g1, mem_other hne m, ((add_other β _ _ _ _ hne).1).symm⟩

/-- A row laid anew. -/
theorem grow_row {P : Program} {σ' : St} {r : Ref} {T : TypeId} {xs : List D} {fz : Bool} (h : SR P σ a w S β) (hg : Grown2 σ σ' r (.row T xs) fz) (hT : 0 < sizeT P T) {C : Array Value} {cp : Nat} (hs : C.size = cp * sizeT P T)
    (hx : ∀ (j : Nat) x, xs[j]? = some x → ElOk w S β C (sizeT P T) j x) (hl : D.lts (size σ) xs) (hc : xs.length ≤ cp) (hpos : 0 < cp) :
    ∃ S', SR P σ' a (w.alloc (.cells C T)) S' (β.add r w.heap.size cp (sizeT P T) xs.length) ∧ Fr σ w S β σ' (w.alloc (.cells C T)) S' (β.add r w.heap.size cp (sizeT P T) xs.length) := by
  refine ⟨_, h.alloc2 hg (.cells C T) cp (sizeT P T) xs.length (fun off => fz = true ∧ off < xs.length * sizeT P T) (fun hk => ?_) (D.lts.mono hg.size _ hl)⟩
  obtain ⟨a1, a2, a3, a4⟩ := add_here β r w.heap.size cp (sizeT P T) xs.length
  refine ⟨a4, .inr ⟨by rw [a2]; exact hpos, by rw [a3]; exact hT, a3, by rw [a2]; exact hc, ⟨C, (0, 0), by rw [a1]; exact heap_alloc w _, by rw [a2, a3]; exact hs, ?_, ?_⟩, ?_, ?_, fun C' T' z' h' => by rw [a1, heap_alloc w _] at h'; cases h'; rfl⟩⟩
  · intro off _ _; simp only; omega
  · intro j x hj
    rw [a3]
    exact (hx j x hj).keep hk (sameH_add hg.fresh _ _ _ _) (lts_iff.1 hl x (List.mem_of_getElem? hj))
  · intro off hb
    rw [a1] at hb
    rw [a3]
    rcases hb with hb | ⟨_, hb⟩
    · have := h.inw _ _ hb; omega
    · exact hb
  · intro hf off ho
    rw [a1]; rw [a3] at ho
    exact .inr ⟨rfl, hf, ho⟩
end
end Go.AE

/- AE: append: in place, and anew. -/
namespace Go.AE

/-- A row goes on under a new name, in the same block. -/
structure Moved (σ σ' : St) (r r' : Ref) (o : Ob) : Prop where
  fresh : r'.fresh σ
  here : get σ' r' = some o
  other : ∀ x ox, x ≠ r' → get σ' x = some ox → get σ x = some ox ∧ frozen σ' x = frozen σ x ∧ x ≠ r
  fz : frozen σ' r' = frozen σ r
  size : AE.size σ ≤ AE.size σ'
  gen : ∀ i, AE.gen σ i ≤ AE.gen σ' i
  env : σ'.env = σ.env

theorem Moved.two {σ σ' : St} {r r' : Ref} {o : Ob} (h : Moved σ σ' r r' o) : Grown2 σ σ' r' o (frozen σ r) :=
  ⟨h.fresh, h.here, fun x ox hx hg => ⟨(h.other x ox hx hg).1, (h.other x ox hx hg).2.1⟩, h.fz, h.size, h.gen, h.env⟩

theorem moved_local {σ : St} {i g : Nat} {o0 : Ob} (h : get σ (.l i g) = some o0) (o : Ob) : Moved σ { σ with loc := upd σ.loc i ⟨g + 1, some o⟩ } (.l i g) (.l i (g + 1)) o where
  fresh := by have := gen_of_get h; simp only [Ref.fresh]; omega
  here := by
    have := getL_upd σ.loc i ⟨g + 1, some o⟩ i (g + 1)
    simpa [get] using this
  other x ox hne hx := by
    cases x with
    | h id => exact ⟨hx, rfl, by simp⟩
    | l j k =>
      have hx' : getL (upd σ.loc i ⟨g + 1, some o⟩) j k = some ox := hx
      rw [getL_upd σ.loc i ⟨g + 1, some o⟩ j k] at hx'
      by_cases hj : j = i
      · subst hj
        simp only [if_true] at hx'
        split at hx'
        · rename_i hk; exact (hne (by rw [← hk])).elim
        · simp at hx'
      · rw [if_neg hj] at hx'
        exact ⟨hx', rfl, fun e => hj (by cases e; rfl)⟩
  fz := rfl
  size := Nat.le_refl _
  gen j := by
    simp only [AE.gen]
    by_cases hj : j = i
    · subst hj; rw [upd_same]
      have := gen_of_get h
      simp only [AE.gen] at this
      simp only; omega
    · rw [upd_other _ _ hj]; exact Nat.le_refl _
  env := rfl

theorem moved_heap {σ : St} {id : Nat} {o0 : Ob} (h : get σ (.h id) = some o0) (o : Ob) (fl : Bool) : Moved σ { σ with hp := pushHp (setHp σ.hp id none fl) ⟨o, frozen σ (.h id)⟩ } (.h id) (.h (size σ)) o := by
  have hlen : (setHp σ.hp id none fl).objs.length = σ.hp.objs.length := by simp [setHp, setNth_length]
  obtain ⟨z, hz⟩ := getH_some h
  have hs : (getH σ.hp id).isSome := by rw [hz]; rfl
  refine ⟨by simp [Ref.fresh], ?_, ?_, ?_, ?_, fun _ => Nat.le_refl _, rfl⟩
  · simp [get, getH_push, hlen, size]
  · intro x ox hne hx
    cases x with
    | l j k => exact ⟨hx, rfl, by simp⟩
    | h j =>
      have hj : ¬ j = σ.hp.objs.length := fun e => hne (by rw [e]; rfl)
      simp only [get, getH_push, hlen, if_neg hj, getH_set _ _ _ _ _ hs] at hx
      by_cases hji : j = id
      · subst hji; simp at hx
      · rw [if_neg hji] at hx
        refine ⟨hx, ?_, fun e => hji (by cases e; rfl)⟩
        simp only [frozen, getH_push, hlen, if_neg hj, getH_set _ _ _ _ _ hs, if_neg hji]
  · simp [frozen, getH_push, hlen, size]
  · simp [AE.size, pushHp, hlen]

section
variable {c : Cfg} {o : Oper} {σ σ' : St} {a : Act} {w : World} {S : Fixed} {β : Emb}

/-- Behind what is seen of a row more is written, in place. -/
theorem SR.move {P : Program} {r r' : Ref} {T : TypeId} {xs zs : List D} (h : SR P σ a w S β) (hr : get σ r = some (.row T xs)) (hrow : RowOk P w S β r T xs (frozen σ r)) (hm : Moved σ σ' r r' (.row T zs))
    {C : Array Value} {z : Nat × Nat} (hC : w.heap[β.blk r]? = some (.cells C T z)) (hCs : C.size = β.cap r * β.esz r) (hz : NoFz z (if frozen σ r then xs.length * β.esz r else 0) C.size) {off : Nat} {vs : List Value}
    (hoff : frozen σ r = true → xs.length * β.esz r ≤ off) (hfz : frozen σ r = true → xs.length ≤ zs.length) (hle : zs.length ≤ β.cap r) (hvs : off + vs.length ≤ C.size)
    (hel : ∀ (j : Nat) x, zs[j]? = some x → ElOk w S β (putCells C off vs) (β.esz r) j x) (hlt : D.lts (size σ) zs) :
    ∃ S', SR P σ' a (w.setCells (β.blk r) off vs) S' (β.add r' (β.blk r) (β.cap r) (β.esz r) zs.length) ∧ Fr σ w S β σ' (w.setCells (β.blk r) off vs) S' (β.add r' (β.blk r) (β.cap r) (β.esz r) zs.length) := by
  obtain ⟨q1, q2, q3, q4⟩ := setCells_rest vs w (β.blk r) off
  have hbl : β.blk r < w.heap.size := (Array.getElem?_eq_some_iff.1 hC).1
  have hk : Keeps w S (w.setCells (β.blk r) off vs) (fun b off => S b off ∨ (b = β.blk r ∧ frozen σ r = true ∧ off < zs.length * β.esz r)) := by
    intro b p hb
    refine ⟨.inl hb, ?_⟩
    by_cases hbr : b = β.blk r
    · subst hbr
      obtain ⟨f1, f2⟩ := hrow.free p hb
      have := hoff f1
      have e := putCells_at vs C off p hvs
      rw [if_neg (by omega)] at e
      simp only [wcell, World.cell?, heap_setCells vs w _ off hC, hC, e]
    · exact wcell_block (heap_setCells_other vs w _ _ hbr) _
  have mem_other : ∀ {x : Ref} {ox : Ob}, x ≠ r' → HasMem (β.add r' (β.blk r) (β.cap r) (β.esz r) zs.length) x ox → HasMem β x ox := by
    intro x ox hne hm
    cases ox with
    | row T xs => simp only [HasMem] at hm ⊢; rw [(add_other β _ _ _ _ hne).2.1] at hm; exact hm
    | bare => exact hm
    | _ => trivial
  obtain ⟨a1, a2, a3, a4⟩ := add_here β r' (β.blk r) (β.cap r) (β.esz r) zs.length
  have hmr : HasMem β r (.row T xs) := hrow.cap
  refine ⟨fun b off => S b off ∨ (b = β.blk r ∧ frozen σ r = true ∧ off < zs.length * β.esz r), ?_, ?_⟩
  · refine h.change hk ?_ hm.size hm.gen (sameH_add hm.fresh _ _ _ _) (sameL_add hm.fresh _ _ _ _) (fun x => x = r') ?_ ?_ ?_ (fun t => .inl ⟨by rw [hm.env], rfl⟩) (by rw [hm.env]; exact h.bound) h.defers
    · rintro b p (hb | ⟨rfl, _⟩)
      · rw [q1]; exact h.inw b p hb
      · rw [q1]; exact hbl
    · intro x ox hx hne
      obtain ⟨g1, g2, g3⟩ := hm.other x ox hne hx
      refine ⟨g1, g2, fun m => ?_⟩
      have hd := h.sep x r ox _ g1 hr g3 m hmr
      refine ⟨fun y hy => by rw [heap_setCells_other vs w _ _ hd]; exact hy, fun p => ⟨?_, .inl⟩⟩
      rintro (hb | ⟨hb, _⟩)
      · exact hb
      · exact (hd hb).elim
    · rintro x ox hx rfl
      rw [hm.here] at hx; cases hx
      rw [hm.fz]
      refine ⟨⟨a4, .inr ⟨by rw [a2]; exact hrow.cap, by rw [a3]; exact hrow.esz, by rw [a3]; exact hrow.ty, by rw [a2]; exact hle, ⟨_, z, by rw [a1]; exact heap_setCells vs w _ off hC, by rw [putCells_size, a2, a3]; exact hCs, ?_, ?_⟩, ?_, ?_, fun C' T' z' h' => by rw [a1, heap_setCells vs w _ off hC] at h'; cases h'; exact hrow.org _ _ _ hC⟩⟩, D.lts.mono hm.size _ hlt⟩
      · rw [putCells_size, a3]
        intro p p1 p2
        refine hz p ?_ p2
        split
        · rename_i hf
          rw [if_pos hf] at p1
          have := Nat.mul_le_mul_right (β.esz r) (hfz hf)
          omega
        · exact Nat.zero_le _
      · intro j x hj
        rw [a3]
        exact (hel j x hj).keep hk (sameH_add hm.fresh _ _ _ _) (lts_iff.1 hlt x (List.mem_of_getElem? hj))
      · intro p hb
        rw [a1] at hb
        rw [a3]
        rcases hb with hb | ⟨_, hb⟩
        · obtain ⟨f1, f2⟩ := hrow.free p hb
          have := Nat.mul_le_mul_right (β.esz r) (hfz f1)
          exact ⟨f1, by omega⟩
        · exact hb
      · intro hf p hp
        rw [a1]; rw [a3] at hp
        exact .inr ⟨rfl, hf, hp⟩
    · rintro x y ox oy hx hy hne rfl m1 m2
      obtain ⟨g1, g2, g3⟩ := hm.other y oy (Ne.symm hne) hy
      rw [a1, (add_other β _ _ _ _ (Ne.symm hne)).1]
      exact fun e => h.sep y r oy _ g1 hr g3 (mem_other (Ne.symm hne) m2) hmr e.symm
  · refine ⟨Nat.le_of_eq q1.symm, hk, ?_, ?_, hm.size, sameH_add hm.fresh _ _ _ _, ?_, q2, q3, q4⟩
    · rintro b p (hb | ⟨rfl, _⟩)
      · exact .inl hb
      · exact .inr (.inl ⟨r, _, hr, hmr, rfl⟩)
    · intro b _ ho
      exact heap_setCells_other vs w _ _ (fun e => ho ⟨r, _, hr, hmr, e.symm⟩)
    · rintro b ⟨x, ox, hx, m, rfl⟩
      by_cases hne : x = r'
      · subst hne; left; rw [a1]; exact ⟨r, _, hr, hmr, rfl⟩
      · obtain ⟨g1, _, _⟩ := hm.other x ox hne hx
        left; exact ⟨x, ox, g1, mem_other hne m, ((add_other β _ _ _ _ hne).1).symm⟩
end
end Go.AE

/- AE: append is what the model does. -/
namespace Go.AE

section
variable {c : Cfg} {o : Oper} {σ σ' : St} {a : Act} {w : World} {S : Fixed} {β : Emb}

theorem lsf_new (i g b cp es l : Nat) : RA w S (β.add (.l i g) b cp es l) (.lsf i g) (.slice (some ⟨b, 0, none⟩) l cp) := by
  obtain ⟨a1, a2, a3, a4⟩ := add_here β (.l i g) b cp es l
  simp only [RA, RA1]
  exact ⟨some ⟨b, 0, none⟩, by rw [a4, a2], fun _ => by rw [a1]⟩
theorem hsf_new (id b cp es l : Nat) : RA w S (β.add (.h id) b cp es l) (.d (.hsf id)) (.slice (some ⟨b, 0, none⟩) l cp) := by
  obtain ⟨a1, a2, a3, a4⟩ := add_here β (.h id) b cp es l
  simp only [RA, RA1, RV]
  exact ⟨some ⟨b, 0, none⟩, by rw [a4, a2], fun _ => by rw [a1]⟩

theorem el_app {xs ys : List D} {es : Nat} {olds news : List Value} (h1 : Flat w S β xs es olds) (h2 : Flat w S β ys es news) {C : Array Value} (hC : ∀ (p : Nat) u, (olds ++ news)[p]? = some u → C[p]? = some u) :
    ∀ (j : Nat) x, (xs ++ ys)[j]? = some x → ElOk w S β C es j x := by
  intro j x hx
  by_cases hj : j < xs.length
  · rw [List.getElem?_append_left hj] at hx
    have := h1.el_ok (C := C) (k := 0) (fun p u hp => by
      have hp' := (List.getElem?_eq_some_iff.1 hp).1
      rw [Nat.zero_mul, Nat.zero_add]
      exact hC p u (by rw [List.getElem?_append_left hp']; exact hp)) j x hx
    rwa [Nat.zero_add] at this
  · rw [List.getElem?_append_right (by omega)] at hx
    have := h2.el_ok (C := C) (k := xs.length) (fun p u hp => hC _ u (by
      rw [← h1.len, List.getElem?_append_right (by omega), Nat.add_sub_cancel_left]; exact hp)) _ x hx
    rwa [show xs.length + (j - xs.length) = j by omega] at this

/-- The cells of a row's first elements. -/
theorem olds_of {P : Program} {r : Ref} {T : TypeId} {xs : List D} {fz : Bool} (hrow : RowOk P w S β r T xs fz) {len : Nat} (hlen : len ≤ xs.length) {C : Array Value} {z : Nat × Nat} (hC : w.heap[β.blk r]? = some (.cells C T z)) (hs : C.size = β.cap r * β.esz r)
    (hel : ∀ (j : Nat) x, xs[j]? = some x → ElOk w S β C (β.esz r) j x) :
    Flat w S β (xs.take len) (β.esz r) (C.toList.take (len * β.esz r)) ∧ (xs.take len).length = len ∧ len * β.esz r ≤ C.size ∧ ∀ (j : Nat) v, (C.toList.take (len * β.esz r))[j]? = some v → wcell w (β.blk r) j = some v := by
  have h1 : len * β.esz r ≤ C.size := by rw [hs]; exact Nat.mul_le_mul_right _ (Nat.le_trans hlen hrow.fits)
  have h2 : (xs.take len).length = len := by simp; omega
  refine ⟨⟨by rw [h2]; simp; omega, ?_⟩, h2, h1, ?_⟩
  · intro j x hx
    rw [List.getElem?_take] at hx
    split at hx
    case isFalse => simp at hx
    rename_i hj
    obtain ⟨us, v, e1, e2, e3, e4⟩ := hel j x hx
    refine ⟨us, v, e1, fun i u hi => ?_, e3, e4⟩
    have hi' := (List.getElem?_eq_some_iff.1 hi).1
    have : (j + 1) * β.esz r ≤ len * β.esz r := Nat.mul_le_mul_right _ hj
    rw [Nat.add_mul, Nat.one_mul] at this
    rw [List.getElem?_take, if_pos (by omega), Array.getElem?_toList]
    exact e2 i u hi
  · intro j v hj
    rw [List.getElem?_take] at hj
    split at hj
    case isFalse => simp at hj
    rw [Array.getElem?_toList] at hj
    simp only [wcell, World.cell?, hC]
    simpa using hj

theorem drawn_ge (w : World) (need old : Nat) (e : TypeId) : need ≤ grownCap w need old e := by
  simp only [grownCap, Question.cut]; omega

/-- A row that has no room is laid anew. -/
theorem grow_all (hP : WFP c.P) (h : SR c.P σ a w S β) {T U E ty : TypeId} (hT : c.P.underlying T = some (.slice E)) (hE : rowT c.P E = true) {xs ys : List D} {olds news : List Value} {p : Option Addr} {sCap : Nat} {ux : Value} (h0 : Flat w S β xs (sizeT c.P E) olds) (hl0 : D.lts (size σ) xs)
    (hold : (Builtin.firstCells (sizeT c.P E) xs.length (.slice p xs.length sCap)).run c.P w.drew = .ok olds.toArray w.drew) (hsrc : Src c.P (sizeT c.P E) U ux ys.length news w) (hflat : Flat w S β ys (sizeT c.P E) news) (hly : D.lts (size σ) ys)
    (hg : sCap < xs.length + ys.length) (hmax : xs.length + ys.length ≤ maxN) {r' : Ref} {fz : Bool} (hg2 : Grown2 σ σ' r' (.row E (xs ++ ys)) fz) :
    ∃ w' cp S', (Builtin.append_ #[T, U] ty #[.slice p xs.length sCap, ux]).run c.P w = .ok (.slice (some ⟨w.heap.size, 0, none⟩) (xs.length + ys.length) cp) w' ∧
      SR c.P σ' a w' S' (β.add r' w.heap.size cp (sizeT c.P E) (xs.length + ys.length)) ∧ Fr σ w S β σ' w' S' (β.add r' w.heap.size cp (sizeT c.P E) (xs.length + ys.length)) := by
  obtain ⟨hpos, hby⟩ := rowT_ok hE
  obtain ⟨i, z, hi, hz⟩ := rowT_zero hE
  have hsz : i.size = sizeT c.P E := by simp [sizeT, hi]
  have hbt : i.bytes = bytesT c.P E := by simp [bytesT, hi]
  have hzs : z.cells.size = sizeT c.P E := by rw [← hsz]; exact (hP.zero E i z (rowT_lt hE) hi hz).1
  simp only [maxN] at hmax
  have hns := nextslicecap_le hg
  have hfit : Builtin.nextslicecap (xs.length + ys.length) sCap * i.bytes ≤ 281474976710656 := by
    have h1 : Builtin.nextslicecap (xs.length + ys.length) sCap * i.bytes ≤ (2 * 1073741824) * 65536 := Nat.mul_le_mul (by omega) (by omega)
    omega
  have hge := drawn_ge w (xs.length + ys.length) sCap E
  have hrun := run_append_grow_src (P := c.P) w T U ty E i z hT hi hz p xs.length sCap olds (by rw [hsz]; exact hold) ux ys.length news (by rw [hsz]; exact hsrc) hg (by omega) hfit
  generalize grownCap w (xs.length + ys.length) sCap E = cp at hrun hge
  have hk : Keeps w S w.drew S := fun b off hb => ⟨hb, rfl⟩
  have hzc : ∀ n, (Builtin.zeroCells z.cells n).size = n * sizeT c.P E := by intro n; simp [Builtin.zeroCells, hzs]
  have hcs : ((olds ++ news).toArray ++ Builtin.zeroCells z.cells (cp - (xs.length + ys.length))).size = cp * sizeT c.P E := by
    simp only [Array.size_append, List.size_toArray, List.length_append, h0.len, hflat.len, hzc, ← Nat.add_mul]
    congr 1; omega
  have happ : (xs ++ ys).length = xs.length + ys.length := by simp
  have hlapp : D.lts (size σ) (xs ++ ys) := by
    rw [lts_iff] at hl0 hly ⊢
    intro d hd
    exact (List.mem_append.1 hd).elim (hl0 d) (hly d)
  obtain ⟨S', s1, s2⟩ := grow_row (T := E) (cp := cp) h.drew hg2 hpos hcs (el_app (h0.keep hk (SameH.refl (size σ) β) hl0) (hflat.keep hk (SameH.refl (size σ) β) hly) (fun p u hp => by
    have hp' := (List.getElem?_eq_some_iff.1 hp).1
    rw [Array.getElem?_append_left (by simpa using hp')]
    simpa using hp)) hlapp (by omega) (by
      have : 0 < xs.length + ys.length := by omega
      omega)
  rw [happ] at s1 s2
  exact ⟨_, cp, S', hrun, s1, Fr.drew.trans s2⟩

/-- A row that has room goes on in place. -/
theorem room_all (h : SR c.P σ a w S β) {T U E ty : TypeId} (hT : c.P.underlying T = some (.slice E)) (hE : rowT c.P E = true) {r r' : Ref} {xs ys : List D} {news : List Value} {len : Nat} {q : Option Addr} {ux : Value} (hr : get σ r = some (.row E xs)) (hlen : len ≤ xs.length)
    (hfz : frozen σ r = true → len = xs.length) (hsrc : Src c.P (sizeT c.P E) U ux ys.length news w) (hflat : Flat w S β ys (sizeT c.P E) news) (hly : D.lts (size σ) ys) (hne : 0 < ys.length) (hroom : len + ys.length ≤ β.cap r)
    (hq : 0 < β.cap r → q = some ⟨β.blk r, 0, none⟩) (hm : Moved σ σ' r r' (.row E (xs.take len ++ ys))) :
    ∃ w' S', (Builtin.append_ #[T, U] ty #[.slice q len (β.cap r), ux]).run c.P w = .ok (.slice (some ⟨β.blk r, 0, none⟩) (len + ys.length) (β.cap r)) w' ∧
      SR c.P σ' a w' S' (β.add r' (β.blk r) (β.cap r) (sizeT c.P E) (len + ys.length)) ∧ Fr σ w S β σ' w' S' (β.add r' (β.blk r) (β.cap r) (sizeT c.P E) (len + ys.length)) := by
  obtain ⟨hok, hlt⟩ := h.obj _ _ hr
  have hlt : D.lts (size σ) xs := hlt
  rcases hok.2 with ⟨h00, _⟩ | hrow
  · omega
  obtain ⟨C, z, m1, m2, m3, m4⟩ := hrow.mem
  obtain ⟨o1, o2, o3, o4⟩ := olds_of hrow hlen m1 m2 m4
  obtain ⟨i, zz, hi, hz⟩ := rowT_zero hE
  have hsz : i.size = sizeT c.P E := by simp [sizeT, hi]
  rw [hq hrow.cap]
  rw [hrow.ty] at o1 o3 m2 m3 m4
  have hnl : len * sizeT c.P E + news.length ≤ C.size := by
    rw [hflat.len, ← Nat.add_mul, m2]; exact Nat.mul_le_mul_right _ hroom
  have hlo : (if frozen σ r = true then xs.length * sizeT c.P E else 0) ≤ len * sizeT c.P E := by
    split
    · rename_i hf; rw [hfz hf]; exact Nat.le_refl _
    · exact Nat.zero_le _
  have hth := there_of m1 (off := len * sizeT c.P E) (n := news.length) hnl (fun p h1 h2 => m3 p (by omega) (by omega))
  have hrun := run_append_room_src (P := c.P) w T U ty E i hT hi (β.blk r) 0 len (β.cap r) ux ys.length news (by rw [hsz]; exact hsrc) hroom
    (fun j hj => by rw [hsz, Nat.zero_add]; exact (hth j hj).1) (fun j hj => by rw [hsz, Nat.zero_add]; exact (hth j hj).2)
  rw [hsz, Nat.zero_add] at hrun
  have happ : (xs.take len ++ ys).length = len + ys.length := by rw [List.length_append, o2]
  obtain ⟨S', s1, s2⟩ := h.move hr hrow hm m1 (by rw [hrow.ty]; exact m2) (by rw [hrow.ty]; exact m3) (off := len * sizeT c.P E) (vs := news) (fun hf => by rw [hrow.ty, hfz hf]; exact Nat.le_refl _) (fun hf => by rw [happ]; have := hfz hf; omega) (by omega) hnl
    (by
      rw [hrow.ty]
      refine el_app o1 hflat (fun p u hp => ?_)
      rw [putCells_at news C _ p hnl]
      have hol : (C.toList.take (len * sizeT c.P E)).length = len * sizeT c.P E := by simp; omega
      by_cases hlt' : p < len * sizeT c.P E
      · rw [if_neg (by omega)]
        rw [List.getElem?_append_left (by omega), List.getElem?_take, if_pos hlt', Array.getElem?_toList] at hp
        exact hp
      · rw [List.getElem?_append_right (by omega), hol] at hp
        have := (List.getElem?_eq_some_iff.1 hp).1
        rw [if_pos (by omega)]
        exact hp)
    (by
      rw [lts_iff] at hlt hly ⊢
      intro d hd
      exact (List.mem_append.1 hd).elim (fun hd => hlt d (List.mem_of_mem_take hd)) (hly d))
  rw [happ, hrow.ty] at s1 s2
  exact ⟨_, S', hrun, s1, s2⟩
end
end Go.AE

/- AE: the calls of append. -/
namespace Go.AE

section
variable {c : Cfg} {o : Oper} {σ σ' : St} {a : Act} {w : World} {S : Fixed} {β : Emb}

/-- Elements of a row that may be written are written over. -/
theorem room_part (h : SR c.P σ a w S β) {T U E ty : TypeId} (hT : c.P.underlying T = some (.slice E)) (hE : rowT c.P E = true) {r : Ref} {xs ys : List D} {news : List Value} {len : Nat} {q : Option Addr} {ux : Value} (hr : get σ r = some (.row E xs))
    (hz : frozen σ r = false) (hle : len + ys.length ≤ xs.length) (hsrc : Src c.P (sizeT c.P E) U ux ys.length news w) (hflat : Flat w S β ys (sizeT c.P E) news) (hly : D.lts (size σ) ys) (hne : 0 < ys.length)
    (hq : 0 < β.cap r → q = some ⟨β.blk r, 0, none⟩) (ht : Turned σ σ' r (.row E (xs.take len ++ ys ++ xs.drop (len + ys.length)))) :
    ∃ w', (Builtin.append_ #[T, U] ty #[.slice q len (β.cap r), ux]).run c.P w = .ok (.slice (some ⟨β.blk r, 0, none⟩) (len + ys.length) (β.cap r)) w' ∧
      SR c.P σ' a w' S β ∧ Fr σ w S β σ' w' S β ∧ 0 < β.cap r := by
  obtain ⟨hok, hlt⟩ := h.obj _ _ hr
  have hlt : D.lts (size σ) xs := hlt
  rcases hok.2 with ⟨_, h00⟩ | hrow
  · subst h00; simp only [List.length_nil] at hle; omega
  obtain ⟨C, z, m1, m2, m3, m4⟩ := hrow.mem
  obtain ⟨o1, o2, o3, o4⟩ := olds_of hrow (len := len) (by omega) m1 m2 m4
  obtain ⟨i, zz, hi, hzz⟩ := rowT_zero hE
  have hsz : i.size = sizeT c.P E := by simp [sizeT, hi]
  rw [hq hrow.cap]
  rw [hrow.ty] at o1 o3 m2 m3 m4
  have hfit := hrow.fits
  have hnl : len * sizeT c.P E + news.length ≤ C.size := by
    rw [hflat.len, ← Nat.add_mul, m2]; exact Nat.mul_le_mul_right _ (by omega)
  rw [hz] at m3
  have hth := there_of m1 (off := len * sizeT c.P E) (n := news.length) hnl (fun p h1 h2 => m3 p (by simp) (by omega))
  have hrun := run_append_room_src (P := c.P) w T U ty E i hT hi (β.blk r) 0 len (β.cap r) ux ys.length news (by rw [hsz]; exact hsrc) (by omega)
    (fun j hj => by rw [hsz, Nat.zero_add]; exact (hth j hj).1) (fun j hj => by rw [hsz, Nat.zero_add]; exact (hth j hj).2)
  rw [hsz, Nat.zero_add] at hrun
  have hzl : (xs.take len ++ ys ++ xs.drop (len + ys.length)).length = xs.length := by simp; omega
  have hmr : HasMem β r (.row E xs) := hrow.cap
  have := h.write (o' := .row E (xs.take len ++ ys ++ xs.drop (len + ys.length))) hr hmr (by exact hrow.cap) ht m1 (len * sizeT c.P E) news (fun p hb => by have := (hrow.free p hb).1; rw [hz] at this; simp at this) (fun hk => by
    have hlz : D.lts (size σ) (xs.take len ++ ys ++ xs.drop (len + ys.length)) := by
      rw [lts_iff] at hlt hly ⊢
      intro d hd
      rcases List.mem_append.1 hd with hd | hd
      · exact (List.mem_append.1 hd).elim (fun hd => hlt d (List.mem_of_mem_take hd)) (hly d)
      · exact hlt d (List.mem_of_mem_drop hd)
    refine ⟨⟨by rw [hzl]; exact hok.1, .inr ⟨hrow.cap, hrow.esz, hrow.ty, by rw [hzl]; exact hfit, ⟨_, z, heap_setCells news w _ _ m1, by rw [putCells_size, hrow.ty]; exact m2, by rw [putCells_size, hz]; exact m3, ?_⟩, ?_, ?_, fun C' T' z' h' => by rw [heap_setCells _ w _ _ m1] at h'; cases h'; exact hrow.org _ _ _ m1⟩⟩, hlz⟩
    · rw [hrow.ty]
      intro j x hx
      have hpc := putCells_at news C (len * sizeT c.P E)
      have hpre : (xs.take len ++ ys).length = len + ys.length := by rw [List.length_append, o2]
      have hxl := lts_iff.1 hlz x (List.mem_of_getElem? hx)
      refine ElOk.keep (w := w) (S := S) (n := size σ) hk (SameH.refl (size σ) β) hxl ?_
      by_cases hj : j < len + ys.length
      · rw [List.getElem?_append_left (by omega)] at hx
        refine el_app o1 hflat (fun p u hp => ?_) j x hx
        rw [hpc p hnl]
        have hol : (C.toList.take (len * sizeT c.P E)).length = len * sizeT c.P E := by simp; omega
        by_cases hlt' : p < len * sizeT c.P E
        · rw [if_neg (by omega)]
          rw [List.getElem?_append_left (by omega), List.getElem?_take, if_pos hlt', Array.getElem?_toList] at hp
          exact hp
        · rw [List.getElem?_append_right (by omega), hol] at hp
          have := (List.getElem?_eq_some_iff.1 hp).1
          rw [if_pos (by omega)]
          exact hp
      · rw [List.getElem?_append_right (by omega), hpre, List.getElem?_drop, show len + ys.length + (j - (len + ys.length)) = j by omega] at hx
        obtain ⟨us, v, e1, e2, e3, e4⟩ := m4 j x hx
        refine ⟨us, v, e1, fun k u hu => ?_, e3, e4⟩
        have hku := (List.getElem?_eq_some_iff.1 hu).1
        have hge : (len + ys.length) * sizeT c.P E ≤ j * sizeT c.P E := Nat.mul_le_mul_right _ (by omega)
        rw [Nat.add_mul, ← hflat.len] at hge
        rw [hpc _ hnl, if_neg (by omega)]
        exact e2 k u hu
    · intro p hb
      have := hrow.free p hb
      rw [hzl]; exact this
    · intro hf; rw [hz] at hf; simp at hf)
  exact ⟨_, hrun, this.1, this.2, hrow.cap⟩

theorem newRow_grown {heap : Bool} {t : Nat} {E : TypeId} {ys : List D} {e : Eff} (he : newRow c σ heap t E ys [] = some e) :
    ∃ r', Grown2 σ (apply σ none e) r' (.row E ys) false ∧ (∀ (w : World) (S : Fixed) (β : Emb) b cp es l, RA w S (β.add r' b cp es l) e.v (.slice (some ⟨b, 0, none⟩) l cp)) ∧ e.v.lt (size (apply σ none e)) (gen (apply σ none e)) := by
  unfold newRow at he
  split at he
  case isFalse => simp at he
  split at he
  · simp only [Option.some.injEq] at he; subst he
    exact ⟨.h (size σ), (grown_heap σ (.row E ys)).two, fun w S β b cp es l => hsf_new _ b cp es l, by simp [AV.lt, AV.lt1, D.lt, size, apply, pushHp]⟩
  · obtain rfl := Option.some.inj he
    exact ⟨.l t ((σ.loc t).g + 1), (grown_local σ t (.row E ys)).two, fun w S β b cp es l => lsf_new _ _ b cp es l, by simp [AV.lt, AV.lt1, gen, apply, setMany, upd_same]⟩

/-- An append is what the model does. -/
def AppOk (c : Cfg) (σ : St) (a : Act) (w : World) (S : Fixed) (β : Emb) (T U ty : TypeId) (us ux : Value) (e : Eff) : Prop :=
  ∃ w' S' β' v, (Builtin.append_ #[T, U] ty #[us, ux]).run c.P w = .ok v w' ∧ SR c.P (apply σ none e) a w' S' β' ∧ Fr σ w S β (apply σ none e) w' S' β' ∧ RA w' S' β' e.v v ∧ e.v.lt (size (apply σ none e)) (gen (apply σ none e))

theorem app_nothing (h : SR c.P σ a w S β) {T U E ty : TypeId} (hT : c.P.underlying T = some (.slice E)) (hE : rowT c.P E = true) {s : AV} {p : Option Addr} {sLen sCap : Nat} {ux : Value} {news : List Value} (hs : RA w S β s (.slice p sLen sCap)) (hl : s.lt (size σ) (gen σ)) (hle : sLen ≤ sCap)
    (hsrc : Src c.P (sizeT c.P E) U ux 0 news w) : AppOk c σ a w S β T U ty (.slice p sLen sCap) ux { v := s } := by
  obtain ⟨i, z, hi, _⟩ := rowT_zero hE
  have hsz : i.size = sizeT c.P E := by simp [sizeT, hi]
  have hn : news = [] := by have := hsrc.newsLen; simpa using this
  subst hn
  exact ⟨w, S, β, _, run_append_nothing w T U ty E i hT hi p sLen sCap hle ux (by rw [hsz]; exact hsrc), h, Fr.refl _ _ _ _, hs, hl⟩

/-- A row goes on: in place, or anew. -/
theorem app_row (hP : WFP c.P) (h : SR c.P σ a w S β) {T U E ty : TypeId} (hT : c.P.underlying T = some (.slice E)) (hE : rowT c.P E = true) {r r' : Ref} {xs ys : List D} {news : List Value} {len : Nat} {q : Option Addr} {ux : Value} (hr : get σ r = some (.row E xs)) (hlen : len ≤ xs.length)
    (hfz : frozen σ r = true → len = xs.length) (hsrc : Src c.P (sizeT c.P E) U ux ys.length news w) (hflat : Flat w S β ys (sizeT c.P E) news) (hly : D.lts (size σ) ys) (hne : 0 < ys.length) (hmax : len + ys.length ≤ maxN)
    (hq : 0 < β.cap r → q = some ⟨β.blk r, 0, none⟩) {e : Eff} (hm : Moved σ (apply σ none e) r r' (.row E (xs.take len ++ ys)))
    (hv : ∀ (w : World) (S : Fixed) (β : Emb) b cp es l, RA w S (β.add r' b cp es l) e.v (.slice (some ⟨b, 0, none⟩) l cp)) (hlt : e.v.lt (size (apply σ none e)) (gen (apply σ none e))) : AppOk c σ a w S β T U ty (.slice q len (β.cap r)) ux e := by
  by_cases hroom : len + ys.length ≤ β.cap r
  · obtain ⟨w', S', k1, k2, k3⟩ := room_all (ty := ty) h hT hE hr hlen hfz hsrc hflat hly hne hroom hq hm
    exact ⟨w', S', _, _, k1, k2, k3, hv _ _ _ _ _ _ _, hlt⟩
  · obtain ⟨hok, hltx⟩ := h.obj _ _ hr
    have hltx : D.lts (size σ) xs := hltx
    have hl0 : D.lts (size σ) (xs.take len) := by rw [lts_iff] at hltx ⊢; exact fun d hd => hltx d (List.mem_of_mem_take hd)
    have hxl : (xs.take len).length = len := by simp; omega
    have hold : ∃ olds, Flat w S β (xs.take len) (sizeT c.P E) olds ∧ (Builtin.firstCells (sizeT c.P E) len (.slice q len (β.cap r))).run c.P w.drew = .ok olds.toArray w.drew := by
      rcases hok.2 with ⟨_, h0⟩ | hrow
      · subst h0
        have hl : len = 0 := by simpa using hlen
        subst hl
        refine ⟨[], ⟨by simp, by simp⟩, ?_⟩
        cases q with
        | none => exact run_firstCells_none w.drew _ _ _ _
        | some ad => exact run_firstCells_some w.drew _ _ ad _ _ [] (by simp) (by simp)
      · obtain ⟨C, z, m1, m2, m3, m4⟩ := hrow.mem
        obtain ⟨o1, o2, o3, o4⟩ := olds_of hrow hlen m1 m2 m4
        rw [hq hrow.cap]
        rw [hrow.ty] at o1 o4
        refine ⟨_, o1, run_firstCells_some w.drew _ _ _ _ _ _ (by rw [o1.len, o2]) (fun j v hj => ?_)⟩
        rw [addr_add, Nat.zero_add]; exact o4 j v hj
    obtain ⟨olds, d1, d2⟩ := hold
    have := grow_all (ty := ty) (p := q) (sCap := β.cap r) hP h hT hE d1 hl0 (by rw [hxl]; exact d2) hsrc hflat hly (by omega) (by omega) hm.two
    rw [hxl] at this
    obtain ⟨w', cp, S', k1, k2, k3⟩ := this
    exact ⟨w', S', _, _, k1, k2, k3, hv _ _ _ _ _ _ _, hlt⟩

/-- A row begins. -/
theorem app_new (hP : WFP c.P) (h : SR c.P σ a w S β) {T U E ty : TypeId} (hT : c.P.underlying T = some (.slice E)) (hE : rowT c.P E = true) {r' : Ref} {ys : List D} {news : List Value} {q : Option Addr} {ux : Value}
    (hsrc : Src c.P (sizeT c.P E) U ux ys.length news w) (hflat : Flat w S β ys (sizeT c.P E) news) (hly : D.lts (size σ) ys) (hne : 0 < ys.length) (hmax : ys.length ≤ maxN)
    {e : Eff} (hm : Grown2 σ (apply σ none e) r' (.row E ys) false)
    (hv : ∀ (w : World) (S : Fixed) (β : Emb) b cp es l, RA w S (β.add r' b cp es l) e.v (.slice (some ⟨b, 0, none⟩) l cp)) (hlt : e.v.lt (size (apply σ none e)) (gen (apply σ none e))) : AppOk c σ a w S β T U ty (.slice q 0 0) ux e := by
  have hold : (Builtin.firstCells (sizeT c.P E) 0 (.slice q 0 0)).run c.P w.drew = .ok ([] : List Value).toArray w.drew := by
    cases q with
    | none => exact run_firstCells_none w.drew _ _ _ _
    | some ad => exact run_firstCells_some w.drew _ _ ad _ _ [] (by simp) (by simp)
  obtain ⟨w', cp, S', k1, k2, k3⟩ := grow_all (ty := ty) (p := q) (sCap := 0) (xs := []) (olds := []) hP h hT hE ⟨by simp, by simp⟩ (by simp [D.lts]) hold hsrc hflat hly (by simp; omega) (by simp; omega) hm
  exact ⟨w', S', _, _, k1, k2, k3, hv _ _ _ _ _ _ _, hlt⟩
end
end Go.AE

/- AE: append, all cases. -/
namespace Go.AE

section
variable {c : Cfg} {o : Oper} {σ σ' : St} {a : Act} {w : World} {S : Fixed} {β : Emb}

theorem isEmpty_len {ys : List D} (h : ¬ ys.isEmpty = true) : 0 < ys.length := by
  cases ys with
  | nil => simp at h
  | cons _ _ => simp

theorem append_ok (hP : WFP c.P) (h : SR c.P σ a w S β) {T U E ty : TypeId} (hT : c.P.underlying T = some (.slice E)) {heap : Bool} {t : Nat} {s : AV} {us ux : Value} {ys : List D} {news : List Value} {e : Eff} (he : append c σ heap t E s ys = some e)
    (hs : RA w S β s us) (hl : s.lt (size σ) (gen σ)) (hsrc : Src c.P (sizeT c.P E) U ux ys.length news w) (hflat : Flat w S β ys (sizeT c.P E) news) (hly : D.lts (size σ) ys) : AppOk c σ a w S β T U ty us ux e := by
  unfold append at he
  split at he
  case isFalse => simp at he
  rename_i hc
  simp only [Bool.and_eq_true] at hc
  obtain ⟨hE, _⟩ := hc
  split at he
  · -- nothing as yet
    obtain ⟨p, rfl⟩ : ∃ p, us = .slice p 0 0 := by simpa only [RA, RA1, RV] using hs
    split at he
    · rename_i hem
      simp only [Option.some.injEq] at he; subst he
      have : ys = [] := by simpa using hem
      subst this
      exact app_nothing h hT hE hs hl (Nat.le_refl _) hsrc
    · rename_i hem
      split at he
      case isFalse => simp at he
      rename_i hmax
      obtain ⟨r', g1, g2, g3⟩ := newRow_grown he
      exact app_new hP h hT hE hsrc hflat hly (isEmpty_len hem) hmax g1 g2 g3
  · split at he
    · -- a whole row
      rename_i r hp
      obtain ⟨q, rfl, hq⟩ := slOf_RA hp hs
      split at he
      · rename_i T' xs hr
        have hlen := (h.obj _ _ hr).1.1
        have hfit : xs.length ≤ β.cap r := by
          rcases (h.obj _ _ hr).1.2 with ⟨_, h0⟩ | hrow
          · subst h0; simp
          · exact hrow.fits
        split at he
        · rename_i hem
          simp only [Option.some.injEq] at he; subst he
          have : ys = [] := by simpa using hem
          subst this
          exact app_nothing h hT hE hs hl (by rw [hlen]; exact hfit) hsrc
        · rename_i hem
          split at he
          case isFalse => simp at he
          rename_i hc
          obtain ⟨rfl, hmax⟩ := hc
          rw [hlen]
          split at he
          · rename_i i g
            simp only [Option.some.injEq] at he; subst he
            exact app_row hP h hT hE hr (Nat.le_refl _) (fun _ => rfl) hsrc hflat hly (isEmpty_len hem) hmax hq (r' := .l i (g + 1)) (by rw [List.take_length]; exact moved_local hr _) (fun w S β b cp es l => lsf_new _ _ b cp es l)
              (by simp [AV.lt, AV.lt1, gen, apply, setMany, upd_same])
          · rename_i id
            simp only [Option.some.injEq] at he; subst he
            exact app_row hP h hT hE hr (Nat.le_refl _) (fun _ => rfl) hsrc hflat hly (isEmpty_len hem) hmax hq (r' := .h (size σ)) (by rw [List.take_length]; exact moved_heap hr _ true) (fun w S β b cp es l => hsf_new _ b cp es l)
              (by simp [AV.lt, AV.lt1, D.lt, size, apply, pushHp, setHp, setNth_length])
      · rename_i hr
        obtain ⟨hb1, hb2⟩ := (h.obj _ _ hr).1
        split at he
        · rename_i hem
          simp only [Option.some.injEq] at he; subst he
          have : ys = [] := by simpa using hem
          subst this
          exact app_nothing h hT hE hs hl (by rw [hb2]; exact Nat.zero_le _) hsrc
        · rename_i hem
          split at he
          case isFalse => simp at he
          rename_i hmax
          rw [hb1, hb2]
          split at he
          · rename_i i g
            simp only [Option.some.injEq] at he; subst he
            have hg := gen_of_get hr
            have hgl := (grown_local σ i (.row E ys)).two
            simp only [gen] at hg
            rw [← hg] at hgl
            exact app_new hP h hT hE hsrc hflat hly (isEmpty_len hem) hmax (r' := .l i (g + 1)) hgl (fun w S β b cp es l => lsf_new _ _ b cp es l)
              (by simp [AV.lt, AV.lt1, gen, apply, setMany, upd_same])
          · simp at he
      · simp at he
    · -- a part, from the beginning on
      rename_i r len hp
      obtain ⟨q, cap, rfl, hcap, hq⟩ := slOf_RA hp hs
      have hcap : cap = β.cap r := by omega
      subst hcap
      rw [Nat.zero_mul] at hq
      split at he
      · rename_i T' xs hr
        have hfit : xs.length ≤ β.cap r := by
          rcases (h.obj _ _ hr).1.2 with ⟨_, h0⟩ | hrow
          · subst h0; simp
          · exact hrow.fits
        split at he
        · rename_i hem
          split at he
          case isFalse => simp at he
          rename_i hle
          simp only [Option.some.injEq] at he; subst he
          have : ys = [] := by simpa using hem
          subst this
          exact app_nothing h hT hE hs hl (by omega) hsrc
        · rename_i hem
          split at he
          · simp at he
          · rename_i hz
            have hz : frozen σ r = false := by simpa using hz
            split at he
            · rename_i hc
              obtain ⟨rfl, hle⟩ := hc
              have key : ∀ σ', Turned σ σ' r (.row T' (xs.take len ++ ys ++ xs.drop (len + ys.length))) → apply σ none e = σ' → e.v = mkSl r 0 (len + ys.length) → AppOk c σ a w S β T U ty (.slice q len (β.cap r)) ux e := by
                intro σ' ht ha hv
                obtain ⟨w', k1, k2, k3, k4⟩ := room_part (ty := ty) h hT hE hr hz hle hsrc hflat hly (isEmpty_len hem) hq ht
                refine ⟨w', S, β, _, k1, by rw [ha]; exact k2, by rw [ha]; exact k3, ?_, ?_⟩
                · rw [hv]; exact mkSl_RA (by omega) (fun _ => by rw [Nat.zero_mul])
                · rw [hv, ha]
                  have h1 := (slOf_lt hp hl 0 (len + ys.length) 0).1
                  have hg2 : gen σ' = gen σ := funext ht.gen
                  rw [ht.size, hg2]; exact h1
              obtain rfl := Option.some.inj he
              cases r with
              | l i g => exact key _ (turned_local hr _) rfl rfl
              | h id => exact key _ (turned_heap hr _ (D.flatDs ys)) rfl rfl
            · split at he
              case isFalse => simp at he
              rename_i hc
              obtain ⟨rfl, hle, hmax⟩ := hc
              split at he
              · rename_i i g _
                simp only [Option.some.injEq] at he; subst he
                exact app_row hP h hT hE hr hle (fun hf => by rw [hz] at hf; simp at hf) hsrc hflat hly (isEmpty_len hem) hmax hq (r' := .l i (g + 1)) (moved_local hr _) (fun w S β b cp es l => lsf_new _ _ b cp es l)
                  (by simp [AV.lt, AV.lt1, gen, apply, setMany, upd_same])
              · simp at he
      · simp at he
    · simp at he

/-- Zeros, to begin with. -/
theorem run_append_zeros {P : Program} (w : World) (t tx ty e : TypeId) (i : TypeInfo) (z : Value) (k : IntKind) (ht : P.underlying t = some (.slice e)) (hx : P.underlying tx = some (.int k)) (hi : P.info? e = some i) (hz : i.zero = some z) (p : Option Addr) (j : IntKind) (n : Int)
    (h0 : 0 < n) (h1 : n ≤ 1073741824) (hs : 0 < i.size) (hb : i.bytes ≤ 65536) :
    (Builtin.append_ #[t, tx] ty #[.slice p 0 0, .int j n]).run P w =
      .ok (.slice (some ⟨w.heap.size, 0, none⟩) n.toNat (grownCap w n.toNat 0 e)) (w.drew.alloc (.cells (Builtin.zeroCells z.cells n.toNat ++ Builtin.zeroCells z.cells (grownCap w n.toNat 0 e - n.toNat)) e)) := by
  have wl : IntKind.i64.wrap n = n := by rw [IntKind.wrap_i64]; omega
  have n1 : ¬ n < 0 := by omega
  have hbn : n * (i.bytes : Int) ≤ 281474976710656 := by
    have h2 : n * (i.bytes : Int) ≤ n * 65536 := Int.mul_le_mul_of_nonneg_left (by omega) (by omega)
    omega
  have n2 : ¬ (281474976710656 < n * (i.bytes : Int)) := by omega
  have n3 : ¬ (n.toNat * i.size = 0) := by
    intro hh
    rcases Nat.mul_eq_zero.1 hh with h | h <;> omega
  have n4 : ¬ (n ≤ 0) := by omega
  have hns : ¬ (281474976710656 < Builtin.nextslicecap n.toNat 0 * i.bytes) := by
    rw [nextslicecap_zero (by omega)]
    have : n.toNat * i.bytes ≤ 1073741824 * 65536 := Nat.mul_le_mul (by omega) hb
    omega
  have n5 : ¬ (9223372036854775807 < (n.toNat : Int)) := by omega
  have hold : (Builtin.firstCells i.size 0 (.slice p 0 0)).run P w.drew = .ok #[] w.drew := by
    cases p with
    | none => exact run_firstCells_none w.drew _ _ _ _
    | some ad => exact run_firstCells_some w.drew _ _ ad _ _ [] (by simp) (by simp)
  have n6 : ¬ (n.toNat ≤ 0) := by omega
  simp [Builtin.append_, run_underlying ht, run_underlying hx, sizeOf, typeInfo, zeroValue, hi, hz, asInt, asIntOf, wl, n1, n2, n3, n4, n5, n6, hns, hold, Question.forced, Go.newRow, grownCap]
  exact fun hh => absurd hh (by omega)

theorem opAppend_ok (hP : WFP c.P) (h : SR c.P σ a w S β) {cl : Call} (hop : o.op = .call cl) (hc : cl.callee = .builtin .append) {heap : Bool} {t : Nat} {s x : AV} {us ux : Value} (ha : cl.args.map a.eval = #[us, ux]) (hs : RA w S β s us) (hx : RA w S β x ux)
    (hls : s.lt (size σ) (gen σ)) (hlx : x.lt (size σ) (gen σ)) {e : Eff} (he : appendOp c σ heap t cl.argTypes s x = some e) : Ran c o σ a w S β e := by
  obtain ⟨cs, hrun⟩ := builtin_eq (c := c) (w := w) hop hc ha
  unfold appendOp at he
  split at he
  case h_2 => simp at he
  rename_i T U hTU
  have hts : cl.argTypes = #[T, U] := by apply Array.ext'; simpa using hTU
  split at he
  case h_2 => simp at he
  rename_i E hT
  have hT := elemT_ok hT
  have fin : AppOk c σ a w S β T U o.type us ux e → Ran c o σ a w S β e := by
    rintro ⟨w', S', β', v, k1, k2, k3, k4, k5⟩
    refine ⟨w', S', β', v, .inl ?_, k2, k3, k4, k5⟩
    rw [hrun, hts]
    exact run_value k1
  apply fin
  split at he
  · rename_i hU
    split at he
    · rename_i b
      split at he
      case isFalse => simp at he
      rename_i hc'
      obtain rfl : ux = .string b := by simpa only [RA, RA1, RV] using hx
      obtain ⟨k1, k2⟩ := src_str (w := w) (S := S) (β := β) (isStrT_ok hc'.1) hc'.2 b
      exact append_ok hP h hT he hs hls k1 k2 (by rw [lts_iff]; intro d hd; obtain ⟨_, _, rfl⟩ := List.mem_map.1 hd; simp [D.lt])
    · simp only [Option.bind_eq_some_iff] at he
      obtain ⟨ys, hys, he⟩ := he
      have ho : oneBs ys = true := by
        unfold append at he
        split at he
        · rename_i hb; simp only [Bool.and_eq_true] at hb; exact hb.2
        · simp at he
      obtain ⟨news, k1, k2, k3⟩ := src_ok h hU hx hlx hys ho
      exact append_ok hP h hT he hs hls k1 k2 k3
  · split at he
    · rename_i n
      split at he
      case isFalse => simp at he
      rename_i hc'
      obtain ⟨c1, c2, c3⟩ := hc'
      simp only [Option.bind_eq_some_iff] at he
      obtain ⟨z, hz, he⟩ := he
      have hE : rowT c.P E = true := by unfold newRow at he; split at he; assumption; simp at he
      obtain ⟨hpos, hby⟩ := rowT_ok hE
      obtain ⟨i, zv', hi, hzi⟩ := rowT_zero hE
      obtain ⟨zv, ⟨z0, z1⟩, z2, z3, z4⟩ := zeroEl_ok hP hz
      obtain rfl : zv' = zv := by rw [hi] at z0; simp only [Option.bind_some, hzi, Option.some.injEq] at z0; exact z0
      have hsz : i.size = sizeT c.P E := by simp [sizeT, hi]
      have hbt : i.bytes = bytesT c.P E := by simp [bytesT, hi]
      obtain ⟨k, hk⟩ : ∃ k, c.P.underlying U = some (.int k) := by
        unfold isIntT at c1
        split at c1
        · rename_i k hk; exact ⟨k, hk⟩
        · simp at c1
      obtain ⟨p, rfl⟩ : ∃ p, us = .slice p 0 0 := by simpa only [RA, RA1, RV] using hs
      obtain ⟨j, rfl⟩ : ∃ j, ux = .int j n := ⟨_, by simpa only [RA, RA1, RV] using hx⟩
      have c3' : n ≤ 1073741824 := by simpa [maxN] using c3
      have hrun' := run_append_zeros w T U o.type E i zv' k hT hk hi hzi p j n c2 c3' (by omega) (by omega)
      have hge := drawn_ge w n.toNat 0 E
      generalize grownCap w n.toNat 0 E = cp at hrun' hge
      have hzc : ∀ m, (Builtin.zeroCells zv'.cells m).size = m * sizeT c.P E := by intro m; simp [Builtin.zeroCells, z2]
      have hcs : (Builtin.zeroCells zv'.cells n.toNat ++ Builtin.zeroCells zv'.cells (cp - n.toNat)).size = cp * sizeT c.P E := by
        rw [Array.size_append, hzc, hzc, ← Nat.add_mul]; congr 1; omega
      obtain ⟨β', r1, r2, r3, r4⟩ := newRow_ok (σ := σ) (f := []) h.drew he hcs (fun j x hj => by
        obtain ⟨us', v, e1, e2, e3, e4⟩ := zeros_ok (w := w.drew) (S := S) (β := β) (z4 w.drew S β 0).1 z3 j x hj
        rw [z2] at e1 e2
        refine ⟨us', v, e1, fun q u hq => ?_, e3, e4⟩
        have hq' := e2 q u hq
        have hlt := (Array.getElem?_eq_some_iff.1 hq').1
        rw [Array.getElem?_append_left (by rw [zarr_size] at hlt; rw [hzc]; exact hlt)]
        have : Builtin.zeroCells zv'.cells n.toNat = zarr zv'.cells (n.toNat * sizeT c.P E) := by rw [← z2]; rfl
        rw [this]; exact hq') (lts_replicate (z4 w S β _).2) (by simpa using hge)
      rw [List.length_replicate] at r3
      exact ⟨_, S, β', _, hrun', r1, Fr.drew.trans r2, r3, r4⟩
    · simp at he
end
end Go.AE

/- AE: clear. -/
namespace Go.AE

section
variable {c : Cfg} {o : Oper} {σ σ' : St} {a : Act} {w : World} {S : Fixed} {β : Emb}

/-- An object that stays as it is. -/
theorem SR.same {P : Program} {r : Ref} {ob : Ob} (h : SR P σ a w S β) (hr : get σ r = some ob) (ht : Turned σ σ' r ob) : SR P σ' a w S β ∧ Fr σ w S β σ' w S β := by
  have hg : ∀ x, get σ' x = get σ x := by
    intro x
    by_cases hx : x = r
    · subst hx; rw [ht.here, hr]
    · exact ht.other x hx
  refine ⟨?_, Fr.slots hg ht.size (fun _ _ h => h) (fun _ _ h => .inl h)⟩
  refine h.change (Keeps.refl w S) h.inw (Nat.le_of_eq ht.size.symm) (fun i => Nat.le_of_eq (ht.gen i).symm) (SameH.refl _ _) (SameL.refl _ _) (fun _ => False) ?_ ?_ ?_ (fun t => .inl ⟨by rw [ht.env], rfl⟩) (by rw [ht.env]; exact h.bound) h.defers
  · exact fun x ox hx _ => ⟨by rw [← hg x]; exact hx, ht.fz x, fun _ => ⟨fun _ hy => hy, fun _ => Iff.rfl⟩⟩
  · exact fun _ _ _ hN => hN.elim
  · exact fun _ _ _ _ _ _ _ hN => hN.elim

/-- Elements of a row that may be written become others; the cells are given. -/
theorem SR.overwrite {P : Program} (h : SR P σ a w S β) {r : Ref} {E : TypeId} {xs ys : List D} {news : List Value} {off : Nat} (hr : get σ r = some (.row E xs)) (hrow : RowOk P w S β r E xs (frozen σ r))
    (hz : frozen σ r = false) (hle : off + ys.length ≤ xs.length) (hflat : Flat w S β ys (sizeT P E) news) (hly : D.lts (size σ) ys) (ht : Turned σ σ' r (.row E (xs.take off ++ ys ++ xs.drop (off + ys.length)))) :
    SR P σ' a (w.setCells (β.blk r) (off * sizeT P E) news) S β ∧ Fr σ w S β σ' (w.setCells (β.blk r) (off * sizeT P E) news) S β ∧ w.there (β.blk r) (off * sizeT P E) news.length := by
  obtain ⟨hok, hlt⟩ := h.obj _ _ hr
  have hlt : D.lts (size σ) xs := hlt
  obtain ⟨C, z, m1, m2, m3, m4⟩ := hrow.mem
  obtain ⟨o1, o2, o3, o4⟩ := olds_of hrow (len := off) (by omega) m1 m2 m4
  rw [hrow.ty] at o1 o3 m2 m3 m4
  have hfit := hrow.fits
  have hnl : off * sizeT P E + news.length ≤ C.size := by
    rw [hflat.len, ← Nat.add_mul, m2]; exact Nat.mul_le_mul_right _ (by omega)
  rw [hz] at m3
  have hth := there_of m1 (off := off * sizeT P E) (n := news.length) hnl (fun p h1 h2 => m3 p (by simp) (by omega))
  have hzl : (xs.take off ++ ys ++ xs.drop (off + ys.length)).length = xs.length := by simp; omega
  have := h.write (o' := .row E (xs.take off ++ ys ++ xs.drop (off + ys.length))) hr (by exact hrow.cap) (by exact hrow.cap) ht m1 (off * sizeT P E) news (fun p hb => by have := (hrow.free p hb).1; rw [hz] at this; simp at this) (fun hk => by
    have hlz : D.lts (size σ) (xs.take off ++ ys ++ xs.drop (off + ys.length)) := by
      rw [lts_iff] at hlt hly ⊢
      intro d hd
      rcases List.mem_append.1 hd with hd | hd
      · exact (List.mem_append.1 hd).elim (fun hd => hlt d (List.mem_of_mem_take hd)) (hly d)
      · exact hlt d (List.mem_of_mem_drop hd)
    refine ⟨⟨by rw [hzl]; exact hok.1, .inr ⟨hrow.cap, hrow.esz, hrow.ty, by rw [hzl]; exact hfit, ⟨_, z, heap_setCells news w _ _ m1, by rw [putCells_size, hrow.ty]; exact m2, by rw [putCells_size, hz]; exact m3, ?_⟩, ?_, ?_, fun C' T' z' h' => by rw [heap_setCells _ w _ _ m1] at h'; cases h'; exact hrow.org _ _ _ m1⟩⟩, hlz⟩
    · rw [hrow.ty]
      intro j x hx
      have hpc := putCells_at news C (off * sizeT P E)
      have hpre : (xs.take off ++ ys).length = off + ys.length := by rw [List.length_append, o2]
      have hxl := lts_iff.1 hlz x (List.mem_of_getElem? hx)
      refine ElOk.keep (w := w) (S := S) (n := size σ) hk (SameH.refl (size σ) β) hxl ?_
      by_cases hj : j < off + ys.length
      · rw [List.getElem?_append_left (by omega)] at hx
        refine el_app o1 hflat (fun p u hp => ?_) j x hx
        rw [hpc p hnl]
        have hol : (C.toList.take (off * sizeT P E)).length = off * sizeT P E := by simp; omega
        by_cases hlt' : p < off * sizeT P E
        · rw [if_neg (by omega)]
          rw [List.getElem?_append_left (by omega), List.getElem?_take, if_pos hlt', Array.getElem?_toList] at hp
          exact hp
        · rw [List.getElem?_append_right (by omega), hol] at hp
          have := (List.getElem?_eq_some_iff.1 hp).1
          rw [if_pos (by omega)]
          exact hp
      · rw [List.getElem?_append_right (by omega), hpre, List.getElem?_drop, show off + ys.length + (j - (off + ys.length)) = j by omega] at hx
        obtain ⟨us, v, e1, e2, e3, e4⟩ := m4 j x hx
        refine ⟨us, v, e1, fun k u hu => ?_, e3, e4⟩
        have hku := (List.getElem?_eq_some_iff.1 hu).1
        have hge : (off + ys.length) * sizeT P E ≤ j * sizeT P E := Nat.mul_le_mul_right _ (by omega)
        rw [Nat.add_mul, ← hflat.len] at hge
        rw [hpc _ hnl, if_neg (by omega)]
        exact e2 k u hu
    · intro p hb
      have := hrow.free p hb
      rw [hzl]; exact this
    · intro hf; rw [hz] at hf; simp at hf)
  exact ⟨this.1, this.2, hth⟩

theorem zeroEl_one {P : Program} {E : TypeId} {z : D} (hz : zeroEl P E = some z) {zv : Value} (h0 : (P.info? E).bind (·.zero) = some zv) : ∀ u ∈ zv.cells.toList, OneC u := by
  unfold zeroEl at hz
  split at hz
  case h_2 => simp at hz
  rename_i cs hcs
  obtain ⟨v, hv, _, z2, _⟩ := zeroCells_ok hcs
  rw [h0] at hv
  cases hv
  exact z2

theorem opClear_ok (hP : WFP c.P) (h : SR c.P σ a w S β) {cl : Call} (hop : o.op = .call cl) (hc : cl.callee = .builtin .clear) {v : AV} {u : Value} (ha : cl.args.map a.eval = #[u]) (hu : RA w S β v u) {e : Eff} (he : clearOp c σ cl.argTypes v = some e) : Ran c o σ a w S β e := by
  obtain ⟨cs, hrun⟩ := builtin_eq (c := c) (w := w) hop hc ha
  have none0 : ∀ {T E : TypeId} (p : Option Addr) (cap : Nat), cl.argTypes[0]? = some T → c.P.underlying T = some (.slice E) → u = .slice p 0 cap → (execOp a.eval o).run c.P w = .ok (.value (.tuple #[])) w := by
    intro T E p cap h1 h2 h3
    rw [hrun]
    refine run_value ?_
    subst h3
    cases p <;> simp [Builtin.clear_, h1, run_underlying h2]
  have tup0 : ∀ (w : World) (S : Fixed) (β : Emb), RA w S β (.d (.tup [])) (.tuple #[]) := by
    intro w S β; simp only [RA, RA1, RV, RVs]; exact ⟨#[], rfl, rfl⟩
  unfold clearOp at he
  split at he
  · simp only [Option.map_eq_some_iff] at he
    obtain ⟨E, hE, rfl⟩ := he
    obtain ⟨T, t1, t2⟩ := elemAt_ok hE
    obtain ⟨p, cap, hu', _⟩ : ∃ p cap, u = .slice p ([] : List D).length cap ∧ _ := by simpa only [RA, RA1, RV] using hu
    exact Ran.pure h (none0 p cap t1 t2 hu') (tup0 _ _ _) (by simp [AV.lt, AV.lt1, D.lt, D.lts])
  · simp only [Option.map_eq_some_iff] at he
    obtain ⟨E, hE, rfl⟩ := he
    obtain ⟨T, t1, t2⟩ := elemAt_ok hE
    obtain ⟨p, hu'⟩ : ∃ p, u = .slice p 0 0 := by simpa only [RA, RA1, RV] using hu
    exact Ran.pure h (none0 p 0 t1 t2 hu') (tup0 _ _ _) (by simp [AV.lt, AV.lt1, D.lt, D.lts])
  · split at he
    case h_2 => simp at he
    rename_i r off len E hp hE
    split at he
    case h_2 => simp at he
    rename_i T' xs z hr hz
    split at he
    case isFalse => simp at he
    rename_i hcc
    obtain ⟨rfl, hfz, hle⟩ := hcc
    obtain ⟨T, t1, t2⟩ := elemAt_ok hE
    obtain ⟨q, cap, rfl, hcap, hq⟩ := slOf_RA hp hu
    have key : ∀ σ', Turned σ σ' r (.row T' (xs.take off ++ List.replicate len z ++ xs.drop (off + len))) → apply σ none e = σ' → e.v = .d (.tup []) → Ran c o σ a w S β e := by
      intro σ' ht hap hv
      by_cases h0 : len = 0
      · subst h0
        simp only [List.replicate_zero, List.append_nil, Nat.add_zero, List.take_append_drop] at ht
        obtain ⟨s1, s2⟩ := h.same hr ht
        exact ⟨w, S, β, .tuple #[], .inl (none0 q cap t1 t2 rfl), by rw [hap]; exact s1, by rw [hap]; exact s2, by rw [hv]; exact tup0 _ _ _, by rw [hv]; simp [AV.lt, AV.lt1, D.lt, D.lts]⟩
      · obtain ⟨hok, _⟩ := h.obj _ _ hr
        rcases hok.2 with ⟨_, h00⟩ | hrow
        · subst h00; simp only [List.length_nil] at hle; omega
        · obtain ⟨zv, ⟨z0, z1⟩, z2, z3, z4⟩ := zeroEl_ok hP hz
          have hzc : Builtin.zeroCells zv.cells len = zarr zv.cells (len * sizeT c.P T') := by rw [← z2]; rfl
          have hflat : Flat w S β (List.replicate len z) (sizeT c.P T') (Builtin.zeroCells zv.cells len).toList := by
            refine ⟨by rw [hzc]; simp [zarr_size], fun j x hj => ?_⟩
            obtain ⟨us', v', e1, e2, e3, e4⟩ := zeros_ok (w := w) (S := S) (β := β) (z4 w S β 0).1 z3 j x hj
            rw [z2] at e1 e2
            exact ⟨us', v', e1, fun i y hy => by rw [hzc, Array.getElem?_toList]; exact e2 i y hy, e3, e4⟩
          have hlen : (List.replicate len z).length = len := by simp
          obtain ⟨s1, s2, s3⟩ := h.overwrite hr hrow hfz (off := off) (by rw [hlen]; exact hle) hflat (lts_replicate (z4 w S β _).2) (by rw [hlen]; exact ht)
          refine ⟨_, S, β, .tuple #[], .inl ?_, by rw [hap]; exact s1, by rw [hap]; exact s2, by rw [hv]; exact tup0 _ _ _, by rw [hv]; simp [AV.lt, AV.lt1, D.lt, D.lts]⟩
          rw [hrun, hq hrow.cap]
          refine run_value ?_
          have hst := run_storeCells_cells (P := c.P) (β.blk r) (off * β.esz r) (Builtin.zeroCells zv.cells len).toList 0 w (fun j hj => by rw [hrow.ty]; simpa using (s3 j hj).1) (fun j hj => by rw [hrow.ty]; simpa using (s3 j hj).2) (by
            intro y hy
            have hone := zeroEl_one hz z0
            have hsz0 : 0 < zv.cells.size := by rw [z2, ← hrow.ty]; exact hrow.esz
            simp only [Builtin.zeroCells, Array.toList_map, List.mem_map] at hy
            obtain ⟨k, _, rfl⟩ := hy
            have hk : k % zv.cells.size < zv.cells.size := Nat.mod_lt _ hsz0
            rw [getElem!_pos zv.cells _ hk]
            exact oneC' (hone _ (by simp)))
          simp only [Nat.add_zero] at hst
          rw [hrow.ty] at hst ⊢
          cases len with
          | zero => exact (h0 rfl).elim
          | succ n => simp [Builtin.clear_, t1, run_underlying t2, z1, hst]
    obtain rfl := Option.some.inj he
    cases r with
    | l i g => exact key _ (turned_local hr _) rfl rfl
    | h id => exact key _ (turned_heap hr _ true) rfl rfl
end
end Go.AE

/- AE: conversions. -/
namespace Go.AE

theorem bytesGo_ok : ∀ {xs : List D} {l : List UInt8}, bytesGo xs = some l → ∃ ns : List Int, xs = ns.map (D.int .u8) ∧ l = ns.map fun n => UInt8.ofNat n.toNat
  | [], l, h => by simp only [bytesGo, Option.some.injEq] at h; subst h; exact ⟨[], rfl, rfl⟩
  | x :: r, l, h => by
    unfold bytesGo at h
    split at h
    · rename_i heq; simp at heq
    · rename_i n r' heq
      simp only [List.cons.injEq] at heq
      obtain ⟨rfl, rfl⟩ := heq
      simp only [Option.map_eq_some_iff] at h
      obtain ⟨l', h1, rfl⟩ := h
      obtain ⟨ns, rfl, rfl⟩ := bytesGo_ok h1
      exact ⟨n :: ns, rfl, rfl⟩
    · simp at h

theorem foldl_push (ns : List Int) : ∀ s : ByteArray, ns.foldl (fun r n => r.push (UInt8.ofNat n.toNat)) s = ⟨s.data ++ (ns.map fun n => UInt8.ofNat n.toNat).toArray⟩ := by
  induction ns with
  | nil => intro s; simp
  | cons n r ih =>
    intro s
    rw [List.foldl_cons, ih]
    simp [ByteArray.push]

theorem toStr_ok {P : Program} {s t : TypeId} (h : toStr P s t = true) : ∃ e, P.underlying s = some (.slice e) ∧ P.underlying e = some (.int .u8) ∧ P.underlying t = some .string := by
  unfold toStr at h
  split at h
  · rename_i e h1 h2
    split at h
    · rename_i h3; exact ⟨e, h1, h3, h2⟩
    · simp at h
  · simp at h

section
variable {c : Cfg} {o : Oper} {σ σ' : St} {a : Act} {w : World} {S : Fixed} {β : Emb}

theorem bytes_run {P : Program} {s t : TypeId} (h : toStr P s t = true) {p : Option Addr} {cap : Nat} {ns : List Int} (hc : ns ≠ [] → ∃ b off, p = some ⟨b, off, none⟩ ∧ ∀ (j : Nat) u, (ns.map (Value.int .u8))[j]? = some u → wcell w b (off + j) = some u) :
    (Go.convert s t (.slice p ns.length cap)).run P w = .ok (.string ⟨(ns.map fun n => UInt8.ofNat n.toNat).toArray⟩) w := by
  obtain ⟨e, h1, h2, h3⟩ := toStr_ok h
  rw [run_convert_bytes_string w s t e p ns.length cap h1 h2 h3]
  have hf := foldl_push ns ByteArray.empty
  have he : (ByteArray.empty.data ++ (ns.map fun n => UInt8.ofNat n.toNat).toArray) = (ns.map fun n => UInt8.ofNat n.toNat).toArray := by
    show (#[] : Array UInt8) ++ _ = _
    simp
  rw [he] at hf
  rw [← hf]
  have some_case : ∀ ad : Addr, (∀ (j : Nat) u, (ns.map (Value.int .u8))[j]? = some u → w.cell? (ad.add j) = some u) → (Conv.bytesToString (.slice (some ad) ns.length cap)).run P w = .ok (.string (ns.foldl (fun r n => r.push (UInt8.ofNat n.toNat)) ByteArray.empty)) w := by
    intro ad hcell
    refine run_bytesToString w ad ns.length cap ns ?_
    have := run_loadCells_list (P := P) w ad (ns.map (Value.int .u8)) hcell
    rwa [List.length_map] at this
  by_cases hn : ns = []
  · subst hn
    cases p with
    | none => rfl
    | some ad => exact some_case ad (by simp)
  · obtain ⟨b, off, rfl, hcell⟩ := hc hn
    exact some_case _ (fun j u hj => by rw [addr_add]; exact hcell j u hj)

theorem bytesOf_ok {xs : List D} {b : ByteArray} (h : bytesOf xs = some b) : ∃ ns : List Int, xs = ns.map (D.int .u8) ∧ b = ⟨(ns.map fun n => UInt8.ofNat n.toNat).toArray⟩ := by
  simp only [bytesOf, Option.map_eq_some_iff] at h
  obtain ⟨l, h1, rfl⟩ := h
  obtain ⟨ns, h2, rfl⟩ := bytesGo_ok h1
  exact ⟨ns, h2, rfl⟩

theorem opConvert_ok (h : SR c.P σ a w S β) {s t : TypeId} {x : Operand} (hop : o.op = .convert s t x) {e : Eff} (he : opConvert c σ s t x = some e) : Ran c o σ a w S β e := by
  unfold opConvert at he
  split at he
  case h_2 => simp at he
  rename_i v hv
  obtain ⟨u1, u2⟩ := opd_ok h hv
  simp only [pureEff, Option.map_eq_some_iff] at he
  obtain ⟨y, hy, rfl⟩ := he
  have fin : ∀ b, (Go.convert s t (a.eval x)).run c.P w = .ok (.string b) w → y = .d (.str b) → Ran c o σ a w S β { v := y } := by
    rintro b hb rfl
    refine Ran.pure h (u := .string b) ?_ (by simp only [RA, RA1, RV]) (by simp [AV.lt, AV.lt1, D.lt])
    simp only [execOp, hop]
    exact run_value hb
  unfold convOp at hy
  split at hy
  case h_1 r hr =>
    simp only [Option.some.injEq] at hy; subst hy
    unfold convP at hr
    split at hr
    case h_2 => simp at hr
    rename_i id off
    have hu : a.eval x = .pointer (some ⟨β.blk (.h id), off, none⟩) := by simpa only [RA, RA1, RV] using u1
    split at hr
    case h_2 => simp at hr
    rename_i T cs hg
    obtain ⟨⟨⟨C, z, m1, m2, m3, m4⟩, _⟩, _⟩ := h.obj _ _ hg
    have hlen : cs.length = C.size := by have := RAs_length m4; simpa using this
    have same : (Go.convert s t (a.eval x)).run c.P w = .ok (a.eval x) w → Ran c o σ a w S β { v := .d (.ptr id off) } := by
      intro hb
      refine Ran.pure h (u := a.eval x) ?_ u1 u2
      simp only [execOp, hop]
      exact run_value hb
    split at hr
    · rename_i e1 hs ht
      split at hr
      case isFalse => simp at hr
      rename_i hc
      simp only [Option.some.injEq] at hr; subst hr
      simp only [Bool.and_eq_true] at hc
      obtain ⟨hoff, hsz⟩ := hc
      have hoff : off < cs.length := by simpa using hoff
      refine same ?_
      rw [hu]
      have hcell : w.cell? ⟨β.blk (.h id), off, none⟩ = some C[off] := by
        simp only [World.cell?, m1]
        simp [show off < C.size by omega]
      refine run_convert_to_unsafe hs ht ?_ hcell
      unfold szNe at hsz
      split at hsz
      · rename_i i hi
        rw [hi]
        simp only [Option.map_some, Option.some.injEq, decide_eq_false_iff_not]
        intro h0
        rw [h0] at hsz; simp at hsz
      · simp at hsz
    · rename_i u1' hs ht
      split at hr
      case isFalse => simp at hr
      rename_i hc
      simp only [Option.some.injEq] at hr; subst hr
      simp only [Bool.and_eq_true] at hc
      obtain ⟨hi, hl⟩ := hc
      obtain ⟨j, hj⟩ := Option.isSome_iff_exists.1 hi
      refine same ?_
      rw [hu]
      refine Lib.run_from_unsafe (e := T) (cells := C.size) w _ hs ht hj ?_ ?_
      · simp only [World.shape?, m1]
      · rw [← hlen]; exact hl
    · simp at hr
  rename_i hcp
  clear hcp
  split at hy
  · rename_i hts
    split at hy
    · -- a local array's bytes
      rename_i i g off n
      split at hy
      case h_2 => simp at hy
      rename_i T cs hbox
      split at hy
      case isFalse => simp at hy
      rename_i hle
      simp only [Option.map_eq_some_iff, Option.bind_eq_some_iff] at hy
      obtain ⟨b, ⟨ds, hds, hb⟩, rfl⟩ := hy
      obtain ⟨ns, rfl, rfl⟩ := bytesOf_ok hb
      obtain ⟨cap, hu⟩ : ∃ cap, a.eval x = .slice (some ⟨β.blk (.l i g), off, none⟩) n cap := by simpa only [RA, RA1] using u1
      obtain ⟨⟨⟨C, z, m1, m2, m3, m4⟩, _⟩, _⟩ := h.obj (.l i g) _ hbox
      have hm := allD_map hds
      have hrs := RAs_take (RAs_drop m4 off) n
      rw [hm] at hrs
      have hrv := RAs_map.1 hrs
      have hnl : ns.length = n := by
        have := congrArg List.length hm
        simp at this; omega
      refine fin _ ?_ rfl
      rw [hu, ← hnl]
      refine bytes_run hts (fun _ => ⟨_, _, rfl, fun j u hj => ?_⟩)
      rw [List.getElem?_map, Option.map_eq_some_iff] at hj
      obtain ⟨q, hq, rfl⟩ := hj
      have hjn : j < n := by have := (List.getElem?_eq_some_iff.1 hq).1; omega
      obtain ⟨hl, hv'⟩ := RVs_iff.1 hrv
      have hex : j < ((C.toList.drop off).take n).length := by
        rw [← hl]; simp; omega
      have := hv' j _ _ (by rw [List.getElem?_map, hq]; rfl) (List.getElem?_eq_getElem hex)
      simp only [RV] at this
      have hg := List.getElem?_eq_getElem hex
      rw [this, List.getElem?_take, if_pos hjn, List.getElem?_drop, Array.getElem?_toList] at hg
      simp only [wcell, World.cell?, m1]
      simpa using hg
    · split at hy
      case h_2 => simp at hy
      rename_i E hE
      split at hy
      case isFalse => simp at hy
      rename_i hsz
      simp only [Option.map_eq_some_iff, Option.bind_eq_some_iff] at hy
      obtain ⟨b, ⟨xs, hxs, hb⟩, rfl⟩ := hy
      obtain ⟨ns, rfl, rfl⟩ := bytesOf_ok hb
      obtain ⟨p, cap, hu, _, _, hr⟩ := elems_ok h hxs u1 u2
      rw [List.length_map] at hu
      refine fin _ ?_ rfl
      rw [hu]
      refine bytes_run hts (fun hne => ?_)
      rcases hr with hr | ⟨b, off, rfl, hr⟩
      · exact (hne (by simpa using hr)).elim
      · refine ⟨b, off, rfl, fun j u hj => ?_⟩
        rw [List.getElem?_map, Option.map_eq_some_iff] at hj
        obtain ⟨q, hq, rfl⟩ := hj
        obtain ⟨us, v', e1, e2, e3, e4⟩ := hr j (.int .u8 q) (by rw [List.getElem?_map, hq]; rfl)
        simp only [Fits] at e3
        simp only [RV] at e4
        subst e3; subst e4
        have := e2 0 _ rfl
        rwa [hsz, Nat.mul_one, Nat.add_zero] at this
  · split at hy
    case h_2 => simp at hy
    rename_i d
    split at hy
    case h_2 => simp at hy
    rename_i u hu
    simp only [Option.map_eq_some_iff, Option.bind_eq_some_iff] at hy
    obtain ⟨d', ⟨r, hr1, hr2⟩, rfl⟩ := hy
    have e1 := toV_ok hu u1
    obtain ⟨q1, q2⟩ := ofV_ok (w := w) (S := S) (β := β) (n := size σ) hr2
    refine Ran.pure h (u := r) ?_ q1 q2
    simp only [execOp, hop]
    refine run_value ?_
    rw [e1]
    exact pureRun_ok hr1 w
end
end Go.AE

/- AE: maps. -/
namespace Go.AE

theorem isIntT_ok {P : Program} {t : TypeId} (h : isIntT P t = true) : ∃ k, P.underlying t = some (.int k) := by
  unfold isIntT at h; split at h
  · rename_i k he; exact ⟨k, he⟩
  · simp at h
theorem isBoolT_ok {P : Program} {t : TypeId} (h : isBoolT P t = true) : P.underlying t = some .bool := by
  unfold isBoolT at h; split at h
  · rename_i he; exact he
  · simp at h

section
variable {c : Cfg} {o : Oper} {σ σ' : St} {a : Act} {w : World} {S : Fixed} {β : Emb}

theorem keyEq_now {P : Program} {K : TypeId} {k p : D} {b : Bool} (h : keyEq P K k p = some b) (hna : ∀ as, k ≠ .agg as) {ku pu : Value} (hk : RV w S β k ku) (hp : RV w S β p pu) {d : TypeDesc} (hd : P.underlying K = some d) : Instr.sameNow d ku pu = some b := by
  unfold keyEq at h
  split at h
  · split at h
    case isFalse => simp at h
    rename_i hc
    obtain ⟨rfl, hi⟩ := hc
    obtain ⟨kk, hkk⟩ := isIntT_ok hi
    rw [hkk] at hd; cases hd
    obtain rfl : ku = _ := by simpa only [RV] using hk
    obtain rfl : pu = _ := by simpa only [RV] using hp
    simpa [Instr.sameNow] using h
  · split at h
    case isFalse => simp at h
    rename_i hi
    rw [isStrT_ok hi] at hd; cases hd
    obtain rfl : ku = _ := by simpa only [RV] using hk
    obtain rfl : pu = _ := by simpa only [RV] using hp
    simpa [Instr.sameNow] using h
  · split at h
    case isFalse => simp at h
    rename_i hi
    rw [isBoolT_ok hi] at hd; cases hd
    obtain rfl : ku = _ := by simpa only [RV] using hk
    obtain rfl : pu = _ := by simpa only [RV] using hp
    simpa [Instr.sameNow] using h
  · exact (hna _ rfl).elim
  · simp at h

/-- The place of a key, and the value there. -/
def At (es : List MapEntry) (i : Nat) (r : Option Nat) (q : Option (Nat × Value)) : Prop :=
  (r = none ∧ q = none) ∨ ∃ j e, r = some (i + j) ∧ es[j]? = some e ∧ q = some (i + j, e.val)

theorem At.next {es : List MapEntry} {e : MapEntry} {i : Nat} {r : Option Nat} {q : Option (Nat × Value)} (h : At es (i + 1) r q) : At (e :: es) i r q := by
  rcases h with h | ⟨j, e', h1, h2, h3⟩
  · exact .inl h
  · exact .inr ⟨j + 1, e', by rw [h1]; congr 1; omega, by simpa using h2, by rw [h3]; congr 2; omega⟩

theorem findNow_ok {P : Program} {K : TypeId} {d : TypeDesc} (hd : P.underlying K = some d) {k : D} (hna : ∀ as, k ≠ .agg as) {ku : Value} (hk : RV w S β k ku) : ∀ {ps : List (D × D)} {es : List MapEntry} {i : Nat} {r : Option Nat}, pairsOk w S β ps es → find P K k ps i = some r →
    ∃ q, Instr.findNow d ku es i = some q ∧ At es i r q
  | [], es, i, r, hp, hf => by
    simp only [pairsOk] at hp; subst hp
    simp only [find, Option.some.injEq] at hf; subst hf
    exact ⟨none, rfl, .inl ⟨rfl, rfl⟩⟩
  | p :: ps, es, i, r, hp, hf => by
    obtain ⟨e, es', rfl, h1, h2, h3⟩ := hp
    simp only [find] at hf
    split at hf
    · rename_i hkq
      simp only [Option.some.injEq] at hf; subst hf
      have := keyEq_now hkq hna hk h1 hd
      exact ⟨some (i, e.val), by simp [Instr.findNow, this], .inr ⟨0, e, rfl, rfl, rfl⟩⟩
    · rename_i hkq
      have := keyEq_now hkq hna hk h1 hd
      obtain ⟨q, k1, k2⟩ := findNow_ok hd hna hk h3 hf
      exact ⟨q, by simp [Instr.findNow, this, k1], k2.next⟩
    · simp at hf

theorem findAsking_ok {P : Program} {K : TypeId} {as : List D} {ku : Value} (hk : RV w S β (.agg as) ku) : ∀ {ps : List (D × D)} {es : List MapEntry} {i : Nat} {r : Option Nat}, pairsOk w S β ps es → find P K (.agg as) ps i = some r →
    ∃ q, (Instr.findAsking K ku es i).run P w = .ok q w ∧ At es i r q
  | [], es, i, r, hp, hf => by
    simp only [pairsOk] at hp; subst hp
    simp only [find, Option.some.injEq] at hf; subst hf
    exact ⟨none, rfl, .inl ⟨rfl, rfl⟩⟩
  | p :: ps, es, i, r, hp, hf => by
    obtain ⟨e, es', rfl, h1, h2, h3⟩ := hp
    have heq : ∀ b, keyEq P K (.agg as) p.1 = some b → (Op.equal K ku e.key).run P w = .ok b w := by
      intro b hb
      cases hp1 : p.1 with
      | agg bs =>
        rw [hp1] at hb h1
        simp only [keyEq] at hb
        split at hb
        · rename_i u v hu hv
          rw [toV_ok hu hk, toV_ok hv h1]
          exact pureRun_ok hb w
        · simp at hb
      | _ => rw [hp1] at hb; simp [keyEq] at hb
    simp only [find] at hf
    split at hf
    · rename_i hkq
      simp only [Option.some.injEq] at hf; subst hf
      refine ⟨some (i, e.val), ?_, .inr ⟨0, e, rfl, rfl, rfl⟩⟩
      simp only [Instr.findAsking, Sem.run_bind, heq _ hkq, Result.andThen_ok]; rfl
    · rename_i hkq
      obtain ⟨q, k1, k2⟩ := findAsking_ok hk h3 hf
      refine ⟨q, ?_, k2.next⟩
      simp only [Instr.findAsking, Sem.run_bind, heq _ hkq, Result.andThen_ok]; exact k1
    · simp at hf
end
end Go.AE

/- AE: maps looked into. -/
namespace Go.AE

section
variable {c : Cfg} {o : Oper} {σ σ' : St} {a : Act} {w : World} {S : Fixed} {β : Emb}

theorem findK_ok {P : Program} {K : TypeId} {d : TypeDesc} (hd : P.underlying K = some d) {empty : Bool} {k : D} {ku : Value} (hk : RV w S β k ku) {ps : List (D × D)} {es : List MapEntry} {r : Option Nat} (hp : pairsOk w S β ps es) (hf : findK P K empty k ps = some r) :
    ∃ q, (Instr.findKey K ku es).run P w = .ok q w ∧ At es 0 r q ∧ (Instr.checkKey empty 10000 K ku).run P w = .ok () w := by
  unfold findK at hf
  split at hf
  case isFalse => simp at hf
  rename_i hok
  by_cases hag : ∃ as, k = .agg as
  · obtain ⟨as, rfl⟩ := hag
    obtain ⟨q, k1, k2⟩ := findAsking_ok hk hp hf
    refine ⟨q, ?_, k2, ?_⟩
    · have hka : ∃ us, ku = .agg us := by
        obtain ⟨us, rfl, _⟩ : ∃ us : Array Value, ku = .agg us ∧ _ := by simpa only [RV] using hk
        exact ⟨us, rfl⟩
      obtain ⟨us, rfl⟩ := hka
      simp only [Instr.findKey, Sem.run_bind, run_underlying hd w, Result.andThen_ok]
      cases es with
      | nil =>
        have : q = none := by
          rcases k2 with ⟨_, h⟩ | ⟨j, e, _, h, _⟩
          · exact h
          · simp at h
        subst this; rfl
      | cons e r' =>
        have : Instr.sameNow d (.agg us) e.key = none := by cases d <;> rfl
        simp only [Instr.findNow, this]
        exact k1
    · simp only [keyOk] at hok
      split at hok
      · rename_i u hu
        rw [toV_ok hu hk]
        obtain ⟨x, hx⟩ := Option.isSome_iff_exists.1 hok
        exact pureRun_ok hx w
      · simp at hok
  · have hna : ∀ as, k ≠ .agg as := fun as h => hag ⟨as, h⟩
    obtain ⟨q, k1, k2⟩ := findNow_ok hd hna hk hp hf
    refine ⟨q, ?_, k2, ?_⟩
    · simp only [Instr.findKey, Sem.run_bind, run_underlying hd w, Result.andThen_ok, k1]; rfl
    · have hkt : isKeyT P K = true := by
        cases k <;> first | exact hok | exact (hna _ rfl).elim
      obtain ⟨n, hn⟩ : ∃ n, (10000 : Nat) = n + 1 := ⟨9999, rfl⟩
      rw [hn]
      unfold isKeyT at hkt
      simp only [Instr.checkKey, Sem.run_bind, run_underlying hd w, Result.andThen_ok]
      rw [hd] at hkt
      cases d <;> first | rfl | (simp at hkt; done)

/-- What is found: the value there, or the zero. -/
theorem found_ok {ps : List (D × D)} {es : List MapEntry} {r : Option Nat} {q : Option (Nat × Value)} (hp : pairsOk w S β ps es) (ha : At es 0 r q) {z : D} {zv : Value} (hz : RV w S β z zv) {n : Nat} (hlz : z.lt n) (hl : ∀ p ∈ ps, p.1.lt n ∧ p.2.lt n) :
    RV w S β ((r.bind fun i => (ps[i]?).map (·.2)).getD z) ((q.map (·.2)).getD zv) ∧ ((r.bind fun i => (ps[i]?).map (·.2)).getD z).lt n ∧ r.isSome = q.isSome := by
  rcases ha with ⟨rfl, rfl⟩ | ⟨j, e, rfl, h2, rfl⟩
  · exact ⟨hz, hlz, rfl⟩
  · have key : ∀ {ps : List (D × D)} {es : List MapEntry} {j : Nat} {e : MapEntry}, pairsOk w S β ps es → es[j]? = some e → ∃ p, ps[j]? = some p ∧ RV w S β p.2 e.val := by
      intro ps
      induction ps with
      | nil => intro es j e hp he; simp only [pairsOk] at hp; subst hp; simp at he
      | cons p ps ih =>
        intro es j e hp he
        obtain ⟨e0, es', rfl, _, h2, h3⟩ := hp
        cases j with
        | zero => simp at he; subst he; exact ⟨p, rfl, h2⟩
        | succ j => obtain ⟨p', k1, k2⟩ := ih h3 (by simpa using he); exact ⟨p', by simpa using k1, k2⟩
    obtain ⟨p, k1, k2⟩ := key hp h2
    simp only [Nat.zero_add, Option.bind_some, k1, Option.map_some, Option.getD_some]
    exact ⟨k2, (hl p (List.mem_of_getElem? k1)).2, rfl⟩
end
end Go.AE

/- AE: maps read. -/
namespace Go.AE

section
variable {c : Cfg} {o : Oper} {σ σ' : St} {a : Act} {w : World} {S : Fixed} {β : Emb}

/-- A map that is read. -/
theorem entries_ok (h : SR c.P σ a w S β) {m : AV} {um : Value} (hu : RA w S β m um) {ps : List (D × D)} (hm : entries σ m = some ps) : ∃ E : Array MapEntry, pairsOk w S β ps E.toList ∧ (∀ p ∈ ps, p.1.lt (size σ) ∧ p.2.lt (size σ)) ∧
    ((um = .map none ∧ E = #[]) ∨ ∃ b clock, um = .map (some b) ∧ w.heap[b]? = some (.map E clock)) := by
  unfold entries at hm
  split at hm
  · simp only [Option.some.injEq] at hm; subst hm
    obtain rfl : um = .map none := by simpa only [RA, RA1, RV] using hu
    exact ⟨#[], rfl, by simp, .inl ⟨rfl, rfl⟩⟩
  · rename_i id
    obtain rfl : um = .map (some (β.blk (.h id))) := by simpa only [RA, RA1, RV] using hu
    obtain ⟨E, clock, m1, m2, m3, _⟩ := map_there h hm
    exact ⟨E, m2, m3, .inr ⟨_, clock, rfl, m1⟩⟩
  · simp at hm

theorem pairsOk.mono {S' : Fixed} (hS : ∀ b off, S b off → S' b off) {n : Nat} {ps : List (D × D)} {es : List MapEntry} (hl : ∀ p ∈ ps, p.1.lt n ∧ p.2.lt n) (h : pairsOk w S β ps es) : pairsOk w S' β ps es :=
  pairsOk.keep (Keeps.mono (w := w) hS) (SameH.refl n β) hl h

theorem opLookup_ok (hP : WFP c.P) (h : SR c.P σ a w S β) {T : TypeId} {m k : Operand} {ok : Bool} (hop : o.op = .lookup T m k ok) {e : Eff} (he : opLookup c σ T m k ok = some e) : Ran c o σ a w S β e := by
  unfold opLookup at he
  split at he
  case h_2 => simp at he
  rename_i ps kd fw K E hm hk hT
  split at he
  case h_2 => simp at he
  rename_i z r hz hf
  simp only [Option.some.injEq] at he; subst he
  simp only [Option.bind_eq_some_iff] at hm hk
  obtain ⟨vm, hvm, hm⟩ := hm
  obtain ⟨vk, hvk, hk⟩ := hk
  obtain ⟨um1, um2⟩ := opd_ok h hvm
  obtain ⟨uk1, uk2⟩ := opd_ok h hvk
  obtain ⟨A, e1, e2, e3⟩ := entries_ok h um1 hm
  obtain ⟨S1, s1, s2, s3, s4⟩ := resolveN_ok h hk uk1 uk2
  have e1' := e1.mono s2.1 e2
  have hTm := mapT_ok hT
  obtain ⟨d, hd⟩ := Option.isSome_iff_exists.1 (hP.map _ _ _ (mapT_lt hT) hTm).1
  obtain ⟨q, f1, f2, f3⟩ := findK_ok hd s3 e1' hf
  obtain ⟨zv, ⟨z0, z1⟩, z2, z3, z4⟩ := zeroEl_ok hP hz
  obtain ⟨g1, g2, g3⟩ := found_ok (n := size σ) e1' f2 (z4 w S1 β (size σ)).1 (z4 w S1 β (size σ)).2 e2
  have hlen := pairsOk_length e1
  have hemp : ps.isEmpty = A.isEmpty := by
    cases ps with
    | nil => simp at hlen; simp [Array.isEmpty, ← hlen]
    | cons p r => simp at hlen; simp [Array.isEmpty, ← hlen]
  rw [hemp] at f3
  refine Ran.fz (u := if ok then .tuple #[(q.map (·.2)).getD zv, .bool r.isSome] else (q.map (·.2)).getD zv) s1 s2 ?_ ?_ ?_
  · simp only [execOp, hop]
    refine run_value ?_
    rcases e3 with ⟨h1, rfl⟩ | ⟨b, clock, h1, h2⟩
    · rw [h1]
      simp only [Instr.lookup, Sem.run_bind, run_underlying hTm w, Result.andThen_ok, Sem.run_pure, f3, f1]
      cases q with
      | none => simp only [Sem.run_bind, z1, Result.andThen_ok, Sem.run_pure, g3]; rfl
      | some q => simp only [Sem.run_pure, Result.andThen_ok, g3]; rfl
    · rw [h1]
      simp only [Instr.lookup, Sem.run_bind, run_underlying hTm w, Result.andThen_ok, Sem.run_pure, getObj_run (P := c.P) h2, f3, f1]
      cases q with
      | none => simp only [Sem.run_bind, z1, Result.andThen_ok, Sem.run_pure, g3]; rfl
      | some q => simp only [Sem.run_pure, Result.andThen_ok, g3]; rfl
  · cases ok with
    | true =>
      simp only [if_true, RA, RA1, RV]
      exact ⟨_, rfl, _, _, rfl, g1, _, _, rfl, rfl, rfl⟩
    | false => simpa only [Bool.false_eq_true, if_false, RA, RA1] using g1
  · cases ok with
    | true => simp only [if_true, AV.lt, AV.lt1, D.lt, D.lts]; exact ⟨g2, trivial, trivial⟩
    | false => simpa only [Bool.false_eq_true, if_false, AV.lt, AV.lt1] using g2
end
end Go.AE

/- AE: maps written. -/
namespace Go.AE

section
variable {c : Cfg} {o : Oper} {σ σ' : St} {a : Act} {w : World} {S : Fixed} {β : Emb}

def setW (w : World) (b : Nat) (ob : Obj) : World := { w with heap := w.heap.setIfInBounds b ob }

theorem setW_other {b b' : Nat} (ob : Obj) (h : b' ≠ b) : (setW w b ob).heap[b']? = w.heap[b']? := by
  show (w.heap.setIfInBounds b ob)[b']? = _
  rw [Array.getElem?_setIfInBounds_ne (Ne.symm h)]
theorem setW_here {b : Nat} (ob : Obj) (h : b < w.heap.size) : (setW w b ob).heap[b]? = some ob := by
  show (w.heap.setIfInBounds b ob)[b]? = _
  simp [h]

/-- A map gets other entries. -/
theorem SR.remap {P : Program} (h : SR P σ a w S β) {id : Nat} {ps ps' : List (D × D)} (hr : get σ (.h id) = some (.map ps)) (ht : Turned σ σ' (.h id) (.map ps')) {E E' : Array MapEntry} {clock clock' : Nat}
    (m1 : w.heap[β.blk (.h id)]? = some (.map E clock)) (hS : ∀ off, ¬ S (β.blk (.h id)) off) (hp : pairsOk w S β ps' E'.toList) (hB : Births E'.toList clock') (hl : ∀ p ∈ ps', p.1.lt (size σ) ∧ p.2.lt (size σ)) :
    SR P σ' a (setW w (β.blk (.h id)) (.map E' clock')) S β ∧ Fr σ w S β σ' (setW w (β.blk (.h id)) (.map E' clock')) S β := by
  have hb : β.blk (.h id) < w.heap.size := (Array.getElem?_eq_some_iff.1 m1).1
  have hsz : (setW w (β.blk (.h id)) (.map E' clock')).heap.size = w.heap.size := by simp [setW]
  have hk : Keeps w S (setW w (β.blk (.h id)) (.map E' clock')) S := fun b off hb' => ⟨hb', wcell_block (setW_other _ (fun e => hS off (by rw [← e]; exact hb'))) _⟩
  refine ⟨?_, ?_⟩
  · refine h.change hk (fun b off hb' => by rw [hsz]; exact h.inw b off hb') (Nat.le_of_eq ht.size.symm) (fun i => Nat.le_of_eq (ht.gen i).symm) (SameH.refl _ _) (SameL.refl _ _) (fun x => x = .h id) ?_ ?_ ?_ (fun t => .inl ⟨by rw [ht.env], rfl⟩) (by rw [ht.env]; exact h.bound) h.defers
    · intro x ox hx hne
      have hx' := hx
      rw [ht.other x hne] at hx'
      exact ⟨hx', ht.fz x, fun m => ⟨fun y hy => by rw [setW_other _ (h.sep x _ ox _ hx' hr hne m trivial)]; exact hy, fun _ => Iff.rfl⟩⟩
    · rintro x ox hx rfl
      rw [ht.here] at hx; cases hx
      exact ⟨⟨⟨E', clock', setW_here _ hb, hp.keep hk (SameH.refl (size σ) β) hl, hB⟩, hS⟩, by rw [ht.size]; exact hl⟩
    · rintro x y ox oy hx hy hne rfl m1' m2
      rw [ht.other y (Ne.symm hne)] at hy
      exact h.sep _ _ _ _ hr hy hne trivial m2
  · refine ⟨Nat.le_of_eq hsz.symm, hk, fun _ _ hb' => .inl hb', fun b _ ho => setW_other _ (fun e => ho ⟨.h id, _, hr, trivial, e.symm⟩), Nat.le_of_eq ht.size.symm, SameH.refl _ _, ?_, rfl, rfl, rfl⟩
    rintro b ⟨x, ox, hx, m, rfl⟩
    by_cases hne : x = .h id
    · subst hne; exact .inl ⟨_, _, hr, trivial, rfl⟩
    · rw [ht.other x hne] at hx; exact .inl ⟨x, ox, hx, m, rfl⟩
end
end Go.AE

/- AE: maps written, as operations. -/
namespace Go.AE

section
variable {c : Cfg} {o : Oper} {σ σ' : St} {a : Act} {w : World} {S : Fixed} {β : Emb}

theorem run_setObj {P : Program} {b : Nat} {E : Array MapEntry} {clock : Nat} (h : w.heap[b]? = some (.map E clock)) (ob : Obj) : (setObj b ob).run P w = .ok () (setW w b ob) := by
  simp [setObj, Sem.run, h, setW]

theorem pairs_set : ∀ {ps : List (D × D)} {es : List MapEntry} {i : Nat} {k v : D} {f : MapEntry → MapEntry}, pairsOk w S β ps es → (∀ e, es[i]? = some e → RV w S β k (f e).key ∧ RV w S β v (f e).val) → pairsOk w S β (ps.set i (k, v)) (es.modify i f)
  | [], es, i, k, v, f, h, _ => by
    simp only [pairsOk] at h; subst h
    simp [pairsOk]
  | p :: r, es, i, k, v, f, h, hf => by
    obtain ⟨e, es', rfl, h1, h2, h3⟩ := h
    cases i with
    | zero =>
      obtain ⟨g1, g2⟩ := hf e rfl
      simp only [List.set_cons_zero, List.modify_zero_cons]
      exact ⟨_, _, rfl, g1, g2, h3⟩
    | succ i =>
      simp only [List.set_cons_succ, List.modify_succ_cons]
      exact ⟨_, _, rfl, h1, h2, pairs_set h3 (fun e he => hf e (by simpa using he))⟩

theorem pairs_push : ∀ {ps : List (D × D)} {es : List MapEntry} {k v : D} {e : MapEntry}, pairsOk w S β ps es → RV w S β k e.key → RV w S β v e.val → pairsOk w S β (ps ++ [(k, v)]) (es ++ [e])
  | [], es, k, v, e, h, h1, h2 => by
    simp only [pairsOk] at h; subst h
    exact ⟨e, [], rfl, h1, h2, rfl⟩
  | p :: r, es, k, v, e, h, h1, h2 => by
    obtain ⟨e', es', rfl, g1, g2, g3⟩ := h
    exact ⟨e', _, rfl, g1, g2, pairs_push g3 h1 h2⟩

theorem pairs_erase : ∀ {ps : List (D × D)} {es : List MapEntry} {i : Nat}, pairsOk w S β ps es → pairsOk w S β (ps.eraseIdx i) (es.eraseIdx i)
  | [], es, i, h => by simp only [pairsOk] at h; subst h; simp [pairsOk]
  | p :: r, es, i, h => by
    obtain ⟨e', es', rfl, g1, g2, g3⟩ := h
    cases i with
    | zero => simpa using g3
    | succ i => simp only [List.eraseIdx_cons_succ]; exact ⟨e', _, rfl, g1, g2, pairs_erase g3⟩

theorem find_hit {P : Program} {K : TypeId} {k : D} : ∀ {ps : List (D × D)} {i n : Nat}, find P K k ps i = some (some n) → ∃ j p, n = i + j ∧ ps[j]? = some p ∧ keyEq P K k p.1 = some true
  | [], i, n, h => by simp [find] at h
  | p :: r, i, n, h => by
    simp only [find] at h
    split at h
    · rename_i hk
      simp only [Option.some.injEq] at h; subst h
      exact ⟨0, p, rfl, rfl, hk⟩
    · obtain ⟨j, q, h1, h2, h3⟩ := find_hit h
      exact ⟨j + 1, q, by omega, by simpa using h2, h3⟩
    · simp at h

theorem byte_eq {x y : ByteArray} (h : (x == y) = true) : x = y := by
  have h' : (x.data == y.data) = true := h
  have := eq_of_beq h'
  cases x; cases y; simp at this; subst this; rfl
theorem byte_refl (x : ByteArray) : (x == x) = true := by
  show (x.data == x.data) = true
  simp

theorem same_ok {P : Program} {K : TypeId} {k p : D} (hk : keyEq P K k p = some true) (hs : stays p k = true) {ku pu : Value} (h1 : RV w S β k ku) (h2 : RV w S β p pu) : Instr.sameBits 10000 pu ku = true := by
  unfold keyEq at hk
  split at hk
  · split at hk
    case isFalse => simp at hk
    rename_i hc
    obtain ⟨rfl, _⟩ := hc
    obtain rfl : ku = _ := by simpa only [RV] using h1
    obtain rfl : pu = _ := by simpa only [RV] using h2
    simp only [Option.some.injEq, beq_iff_eq] at hk
    subst hk
    simp [Instr.sameBits]
  · split at hk
    case isFalse => simp at hk
    obtain rfl : ku = _ := by simpa only [RV] using h1
    obtain rfl : pu = _ := by simpa only [RV] using h2
    simp only [Option.some.injEq] at hk
    have hk := byte_eq hk
    subst hk
    simp [Instr.sameBits, byte_refl]
  · split at hk
    case isFalse => simp at hk
    obtain rfl : ku = _ := by simpa only [RV] using h1
    obtain rfl : pu = _ := by simpa only [RV] using h2
    simp only [Option.some.injEq, beq_iff_eq] at hk
    subst hk
    simp [Instr.sameBits]
  · simp only [stays] at hs
    split at hs
    · rename_i u v hu hv
      rw [toV_ok hu h2, toV_ok hv h1]; exact hs
    · simp at hs
  · simp at hk
end
end Go.AE

/- AE: maps updated; keys taken out. -/
namespace Go.AE

section
variable {c : Cfg} {o : Oper} {σ σ' : St} {a : Act} {w : World} {S : Fixed} {β : Emb}

theorem pairs_at {ps : List (D × D)} {es : List MapEntry} (hp : pairsOk w S β ps es) {j : Nat} {e : MapEntry} (he : es[j]? = some e) : ∃ p, ps[j]? = some p ∧ RV w S β p.1 e.key ∧ RV w S β p.2 e.val := by
  induction ps generalizing es j with
  | nil => simp only [pairsOk] at hp; subst hp; simp at he
  | cons p ps ih =>
    obtain ⟨e0, es', rfl, h1, h2, h3⟩ := hp
    cases j with
    | zero => simp at he; subst he; exact ⟨p, rfl, h1, h2⟩
    | succ j => obtain ⟨p', k1, k2⟩ := ih h3 (by simpa using he); exact ⟨p', by simpa using k1, k2⟩

theorem findK_find {P : Program} {K : TypeId} {b : Bool} {k : D} {es : List (D × D)} {r : Option Nat} (h : findK P K b k es = some r) : find P K k es 0 = some r := by
  unfold findK at h
  split at h
  · exact h
  · simp at h

theorem setW_same {b : Nat} {ob : Obj} (h : w.heap[b]? = some ob) : setW w b ob = w := by
  have : w.heap.setIfInBounds b ob = w.heap := by
    apply Array.ext_getElem?
    intro i
    by_cases hi : i = b
    · subst hi
      have hlt := (Array.getElem?_eq_some_iff.1 h).1
      rw [Array.getElem?_setIfInBounds_self_of_lt hlt, h]
    · rw [Array.getElem?_setIfInBounds_ne (Ne.symm hi)]
  simp only [setW, this]

theorem births_modify {es : List MapEntry} {clock : Nat} {f : MapEntry → MapEntry} (hf : ∀ e, (f e).born = e.born) {i : Nat} (h : Births es clock) : Births (es.modify i f) clock := by
  have e : (es.modify i f).map (·.born) = es.map (·.born) := by
    apply List.ext_getElem?
    intro j
    simp only [List.getElem?_map, List.getElem?_modify]
    cases es[j]? with
    | none => rfl
    | some x => by_cases hj : i = j <;> simp [hj, hf]
  refine ⟨fun x hx => ?_, ?_⟩
  · have : x.born ∈ es.map (·.born) := by rw [← e]; exact List.mem_map_of_mem hx
    obtain ⟨y, hy, h1⟩ := List.mem_map.1 this
    rw [← h1]; exact h.1 y hy
  · have := List.pairwise_map.2 h.2
    rw [← e] at this
    exact List.pairwise_map.1 this
theorem births_push {es : List MapEntry} {clock : Nat} {k v : Value} (h : Births es clock) : Births (es ++ [{ key := k, val := v, born := clock }]) (clock + 1) := by
  refine ⟨fun x hx => ?_, List.pairwise_append.2 ⟨h.2, by simp, fun x hx y hy => ?_⟩⟩
  · rcases List.mem_append.1 hx with hx | hx
    · have := h.1 x hx; omega
    · rw [List.mem_singleton] at hx; subst hx; exact Nat.lt_succ_self _
  · rw [List.mem_singleton] at hy; subst hy
    exact Nat.ne_of_lt (h.1 x hx)
theorem births_erase {es : List MapEntry} {clock i : Nat} (h : Births es clock) : Births (es.eraseIdx i) clock :=
  ⟨fun x hx => h.1 x (List.mem_of_mem_eraseIdx hx), h.2.sublist (List.eraseIdx_sublist es i)⟩

/-- A map in an abstract heap gets other entries. -/
theorem remap_ok {P : Program} (h : SR P σ a w S β) {id : Nat} {ps ps' : List (D × D)} (hm : mapOf σ.hp id = some ps) {E E' : Array MapEntry} {clock clock' : Nat}
    (m1 : w.heap[β.blk (.h id)]? = some (.map E clock)) (hS : ∀ off, ¬ S (β.blk (.h id)) off) (hp : pairsOk w S β ps' E'.toList) (hB : Births E'.toList clock') (hl : ∀ p ∈ ps', p.1.lt (size σ) ∧ p.2.lt (size σ)) (flat : Bool) :
    SR P { σ with hp := setMap σ.hp id ps' flat } a (setW w (β.blk (.h id)) (.map E' clock')) S β ∧ Fr σ w S β { σ with hp := setMap σ.hp id ps' flat } (setW w (β.blk (.h id)) (.map E' clock')) S β :=
  h.remap (mapOf_get hm) (turned_heap (mapOf_get hm) (.map ps') flat) m1 hS hp hB hl

theorem run_stays {P : Program} {x y : Value} (h : Instr.sameBits 10000 x y = true) : (Instr.keyThatStays x y).run P w = .ok y w := by
  simp only [Instr.keyThatStays, h, if_true]; rfl

theorem opMapUpdate_ok (hP : WFP c.P) (h : SR c.P σ a w S β) {T : TypeId} {m k v : Operand} (hop : o.op = .mapUpdate T m k v ∨ o.op = .insert T m k v) {e : Eff} (he : opMapUpdate c σ T m k v = some e) : Ran c o σ a w S β e := by
  unfold opMapUpdate at he
  split at he
  case h_2 => simp at he
  rename_i id kd f1 vd f2 K E hm hk hv hT
  simp only [Option.map_eq_some_iff] at he
  obtain ⟨hp', hset, rfl⟩ := he
  simp only [Option.bind_eq_some_iff] at hk hv
  obtain ⟨vk, hvk, hk⟩ := hk
  obtain ⟨vv, hvv, hv⟩ := hv
  obtain ⟨um1, um2⟩ := opd_ok h hm
  obtain ⟨uk1, uk2⟩ := opd_ok h hvk
  obtain ⟨uv1, uv2⟩ := opd_ok h hvv
  obtain ⟨S1, s1, s2, s3, s4⟩ := resolveN_ok h hk uk1 uk2
  have hk1 := Keeps.mono (w := w) s2.1
  obtain ⟨S2, t1, t2, t3, t4⟩ := resolveN_ok (σ := withFz σ f1) s1 hv (uv1.keep hk1 (SameH.refl _ β) (SameL.refl _ β) uv2) uv2
  have hk2 := Keeps.mono (w := w) t2.1
  have s3' : RV w S2 β kd (a.eval k) := RV.keep hk2 (SameH.refl (size σ) β) _ _ s4 s3
  rw [← withFz_append] at t1
  have hfr : Fr σ w S β (withFz σ (f1 ++ f2)) w S2 β := Fr.fz (s2.trans (fun r => get_fz r) t2)
  have hum : a.eval m = .map (some (β.blk (.h id))) := by simpa only [RA, RA1, RV] using um1
  have hTm := mapT_ok hT
  obtain ⟨d, hd⟩ := Option.isSome_iff_exists.1 (hP.map _ _ _ (mapT_lt hT) hTm).1
  unfold mapSet at hset
  split at hset
  case h_2 => simp at hset
  rename_i ps hps
  obtain ⟨A, clock, m1, m2, m3, m4⟩ := map_there t1 (show mapOf (withFz σ (f1 ++ f2)).hp id = some ps from hps)
  have run0 : ∀ w', (Instr.mapUpdate T (.map (some (β.blk (.h id)))) (a.eval k) (a.eval v)).run c.P w = .ok () w' → (execOp a.eval o).run c.P w = .ok .skip w' := by
    intro w' hw
    have : execOp a.eval o = (do Instr.mapUpdate T (a.eval m) (a.eval k) (a.eval v); pure Next.skip) := by
      rcases hop with hop | hop <;> simp only [execOp, hop]
    rw [this, hum]
    exact run_skip hw
  split at hset
  case h_3 => simp at hset
  · rename_i i hf
    split at hset
    case isFalse => simp at hset
    rename_i hst
    simp only [Option.some.injEq] at hset; subst hset
    obtain ⟨q, f1', f2', f3'⟩ := findK_ok hd s3' m2 hf
    obtain ⟨j, p, hj, hpj, hkeq⟩ := find_hit (findK_find hf)
    obtain rfl : i = j := by omega
    rcases f2' with ⟨h0, _⟩ | ⟨j', e, h0, hej, hq⟩
    · simp at h0
    obtain rfl : i = j' := by simpa using h0
    obtain ⟨p', hp', r1, r2⟩ := pairs_at m2 hej
    rw [hpj] at hp'; cases hp'
    simp only [hpj, Option.map_some, Option.getD_some] at hst
    have hsame := same_ok hkeq hst s3' r1
    have hAi : A[i]? = some e := by rw [← hej]; simp
    obtain ⟨k1, k2⟩ := remap_ok t1 (show mapOf (withFz σ (f1 ++ f2)).hp id = some ps from hps) (ps' := ps.set i (kd, vd)) (E' := A.modify i fun e => { e with key := a.eval k, val := a.eval v }) (clock' := clock) m1 m4 (by
        rw [Array.toList_modify]
        exact pairs_set m2 (fun e _ => ⟨s3', t3⟩)) (by
        rw [Array.toList_modify]
        exact births_modify (f := fun e => { e with key := a.eval k, val := a.eval v }) (fun _ => rfl) (map_births t1 (show mapOf (withFz σ (f1 ++ f2)).hp id = some ps from hps) m1)) (by
        intro q hq
        rcases List.mem_or_eq_of_mem_set hq with hq | rfl
        · exact m3 q hq
        · exact ⟨s4, t4⟩) (kd.flatD && vd.flatD)
    refine ⟨_, _, _, undef, .inr ⟨rfl, run0 _ ?_⟩, k1, hfr.trans k2, by simp only [RA, RA1, RV], by simp [AV.lt, AV.lt1, D.lt]⟩
    simp only [Instr.mapUpdate, Sem.run_bind, run_underlying hTm w, getObj_run (P := c.P) m1, f3', f1', Result.andThen_ok, hq, Nat.zero_add, hAi, Option.map_some, Option.getD_some, run_stays hsame, run_setObj m1]
  · rename_i hf
    simp only [Option.some.injEq] at hset; subst hset
    obtain ⟨q, f1', f2', f3'⟩ := findK_ok hd s3' m2 hf
    rcases f2' with ⟨_, hq⟩ | ⟨j', e, h0, _⟩
    case inr => simp at h0
    obtain ⟨k1, k2⟩ := remap_ok t1 (show mapOf (withFz σ (f1 ++ f2)).hp id = some ps from hps) (ps' := ps ++ [(kd, vd)]) (E' := A.push { key := a.eval k, val := a.eval v, born := clock }) (clock' := clock + 1) m1 m4 (by
        rw [Array.toList_push]
        exact pairs_push m2 s3' t3) (by
        rw [Array.toList_push]
        exact births_push (map_births t1 (show mapOf (withFz σ (f1 ++ f2)).hp id = some ps from hps) m1)) (by
        intro q hq
        rcases List.mem_append.1 hq with hq | hq
        · exact m3 q hq
        · rw [List.mem_singleton] at hq; subst hq; exact ⟨s4, t4⟩) (kd.flatD && vd.flatD)
    refine ⟨_, _, _, undef, .inr ⟨rfl, run0 _ ?_⟩, k1, hfr.trans k2, by simp only [RA, RA1, RV], by simp [AV.lt, AV.lt1, D.lt]⟩
    simp only [Instr.mapUpdate, Sem.run_bind, run_underlying hTm w, getObj_run (P := c.P) m1, f3', f1', Result.andThen_ok, hq, run_setObj m1]

theorem deleteOp_ok (hP : WFP c.P) (h : SR c.P σ a w S β) {cl : Call} (hop : o.op = .call cl) (hc : cl.callee = .builtin .delete) {id : Nat} {um uk : Value} {k : AV} (ha : cl.args.map a.eval = #[um, uk]) (hum : RA w S β (.d (.map id)) um) (huk : RA w S β k uk) (hlk : k.lt (size σ) (gen σ))
    {e : Eff} (he : deleteOp c σ cl.argTypes id k = some e) : Ran c o σ a w S β e := by
  obtain ⟨cs, hrun⟩ := builtin_eq (c := c) (w := w) hop hc ha
  unfold deleteOp at he
  split at he
  case h_2 => simp at he
  rename_i K E kd f ps hT hk hps
  obtain ⟨S1, s1, s2, s3, s4⟩ := resolveN_ok h hk huk hlk
  simp only [Option.bind_eq_some_iff] at hT
  obtain ⟨T, hT0, hT⟩ := hT
  have hTm := mapT_ok hT
  obtain ⟨d, hd⟩ := Option.isSome_iff_exists.1 (hP.map _ _ _ (mapT_lt hT) hTm).1
  obtain rfl : um = .map (some (β.blk (.h id))) := by simpa only [RA, RA1, RV] using hum
  obtain ⟨A, clock, m1, m2, m3, m4⟩ := map_there s1 (show mapOf (withFz σ f).hp id = some ps from hps)
  have hemp : ps.isEmpty = A.isEmpty := by
    have hlen := pairsOk_length m2
    cases ps with
    | nil => simp at hlen; simp [Array.isEmpty, ← hlen]
    | cons p r => simp at hlen; simp [Array.isEmpty, ← hlen]
  have exec0 : ∀ w', (Builtin.delete_ cl.argTypes o.type #[.map (some (β.blk (.h id))), uk]).run c.P w = .ok (.tuple #[]) w' → (execOp a.eval o).run c.P w = .ok (.value (.tuple #[])) w' := by
    intro w' hw
    rw [hrun]
    exact run_value hw
  split at he
  case h_3 => simp at he
  · rename_i i hf
    simp only [Option.some.injEq] at he; subst he
    obtain ⟨q, f1', f2', f3'⟩ := findK_ok hd s3 m2 hf
    rw [hemp] at f3'
    rcases f2' with ⟨h0, _⟩ | ⟨j', e, h0, hej, hq⟩
    · simp at h0
    obtain rfl : i = j' := by simpa using h0
    obtain ⟨k1, k2⟩ := remap_ok s1 (show mapOf (withFz σ f).hp id = some ps from hps) (ps' := ps.eraseIdx i) (E' := A.eraseIdxIfInBounds i) (clock' := clock) m1 m4 (by
        have : (A.eraseIdxIfInBounds i).toList = A.toList.eraseIdx i := by
          rw [Array.toList_eraseIdxIfInBounds]
        rw [this]
        exact pairs_erase m2) (by
        rw [Array.toList_eraseIdxIfInBounds]
        exact births_erase (map_births s1 (show mapOf (withFz σ f).hp id = some ps from hps) m1)) (fun p hp => m3 p (List.mem_of_mem_eraseIdx hp)) true
    refine ⟨_, _, _, .tuple #[], .inl (exec0 _ ?_), k1, (Fr.fz s2).trans k2, ?_, by simp [AV.lt, AV.lt1, D.lt, D.lts]⟩
    · simp only [Builtin.delete_, hT0, List.getElem?_toArray, List.getElem?_cons_zero, List.getElem?_cons_succ, Sem.run_bind, run_underlying hTm w, Result.andThen_ok, getObj_run (P := c.P) m1, f3', f1', hq, Nat.zero_add, run_setObj m1]
      rfl
    · simp only [RA, RA1, RV, RVs]; exact ⟨_, rfl, rfl⟩
  · rename_i hf
    simp only [Option.some.injEq] at he; subst he
    obtain ⟨q, f1', f2', f3'⟩ := findK_ok hd s3 m2 hf
    rw [hemp] at f3'
    rcases f2' with ⟨_, hq⟩ | ⟨j', e, h0, _⟩
    case inr => simp at h0
    refine Ran.fz (u := .tuple #[]) s1 s2 (exec0 _ ?_) ?_ ?_
    · simp only [Builtin.delete_, hT0, List.getElem?_toArray, List.getElem?_cons_zero, List.getElem?_cons_succ, Sem.run_bind, run_underlying hTm w, Result.andThen_ok, getObj_run (P := c.P) m1, f3', f1', hq, run_setObj m1, setW_same m1]
      rfl
    · simp only [RA, RA1, RV, RVs]; exact ⟨_, rfl, rfl⟩
    · simp [AV.lt, AV.lt1, D.lt, D.lts]
end
end Go.AE

/- AE: the built-in functions; every operation but the calls of functions. -/
namespace Go.AE

section
variable {c : Cfg} {o : Oper} {σ σ' : St} {a : Act} {w : World} {S : Fixed} {β : Emb}

theorem RAint {k : IntKind} {n : Int} {u : Value} (h : RA w S β (.d (.int k n)) u) : u = .int k n := by simpa only [RA, RA1, RV] using h

theorem builtinOp_ok (hP : WFP c.P) (h : SR c.P σ a w S β) {cl : Call} {b : Builtin} (hop : o.op = .call cl) (hc : cl.callee = .builtin b) {heap : Bool} {t : Nat} {args : List AV} (ha : opds σ.env cl.args.toList = some args)
    {e : Eff} (he : builtinOp c σ heap t b cl.argTypes args = some e) : Ran c o σ a w S β e := by
  obtain ⟨r1, r2⟩ := opds_ok h ha
  unfold builtinOp at he
  split at he
  · obtain ⟨u, hu, h1⟩ := RAv1 r1
    exact lenOp_ok h hop hc (args_eq hu) h1 he
  · obtain ⟨u, hu, h1⟩ := RAv1 r1
    simp only [Option.map_eq_some_iff] at he
    obtain ⟨E, hE, rfl⟩ := he
    exact opCap_ok h hop hc (args_eq hu) h1 hE
  · obtain ⟨u, v, hu, h1, h2⟩ := RAv2 r1
    simp only [Option.some.injEq] at he; subst he
    exact opMin2_ok h hop hc (args_eq hu) (by rw [RAint h1, RAint h2])
  · obtain ⟨u, v, x, hu, h1, h2, h3⟩ := RAv3 r1
    simp only [Option.some.injEq] at he; subst he
    exact opMin3_ok h hop hc (args_eq hu) (by rw [RAint h1, RAint h2, RAint h3])
  · obtain ⟨u, v, hu, h1, h2⟩ := RAv2 r1
    simp only [Option.some.injEq] at he; subst he
    exact opMax2_ok h hop hc (args_eq hu) (by rw [RAint h1, RAint h2])
  · obtain ⟨u, v, hu, h1, h2⟩ := RAv2 r1
    exact opAppend_ok hP h hop hc (args_eq hu) h1 h2 (r2 _ (by simp)) (r2 _ (by simp)) he
  · obtain ⟨u, v, hu, h1, h2⟩ := RAv2 r1
    exact deleteOp_ok hP h hop hc (args_eq hu) h1 h2 (r2 _ (by simp)) he
  · obtain ⟨u, hu, h1⟩ := RAv1 r1
    exact opClear_ok hP h hop hc (args_eq hu) h1 he
  · simp at he

/-- Is an operation the call of a function? -/
def isFnCall (o : Oper) : Prop := ∃ cl g, o.op = .call cl ∧ cl.callee = .value g

theorem opStep_ok (hP : WFP c.P) (h : SR c.P σ a w S β) {call : CallF} {f : FuncId} (hn : ¬ isFnCall o) {e : Eff} (he : opStep c call f σ o = some e) : Ran c o σ a w S β e := by
  unfold opStep at he
  split at he
  case _ x hop => exact opMove_ok h (.inl hop) he
  case _ x hop => exact opMove_ok h (.inr hop) he
  case _ x y z hop => exact opPick_ok h hop he
  case _ hop => exact opAlloc_ok h hop he
  case _ hop => exact opBox_ok h hop he
  case _ hop => exact opBuild_ok hP h hop he
  case _ hop => exact opBuildSlice_ok hP h hop he
  case _ hop => exact opLoad_ok h hop he
  case _ hop => exact opStore_ok h hop he
  case _ hop => exact opNilCheck_ok h hop he
  case _ hop => exact opBin_ok h hop he
  case _ hop => exact opUn_ok h hop he
  case _ hop => exact opConvert_ok h hop he
  case _ hop => exact opFieldAddr_ok hP h hop he
  case _ hop => exact opField_ok hP h hop he
  case _ hop => exact opIndexAddr_ok hP h hop he
  case _ hop => exact opIndex_ok hP h hop he
  case _ hop => exact opExtract_ok h hop he
  case _ hop => exact opMakeMap_ok h hop he
  case _ hop => exact opMakeSlice_ok hP h hop he
  case _ hop => exact opMakeFunc_ok h hop he
  case _ hop => exact opLookup_ok hP h hop he
  case _ hop => exact opMapUpdate_ok hP h (.inl hop) he
  case _ hop => exact opMapUpdate_ok hP h (.inr hop) he
  case _ cl hop =>
    unfold opCall at he
    split at he
    case h_2 => simp at he
    rename_i args ha
    split at he
    · rename_i b hc
      exact builtinOp_ok hP h hop hc ha he
    · rename_i g hc
      exact (hn ⟨cl, g, hop, hc⟩).elim
    · simp at he
  case _ hop => exact opSlice_ok hP h hop he
  case _ => simp at he
end
end Go.AE

/- AE: the abstract heap along the operations: what is told of what was changed is true. -/
namespace Go.AE

/-- An object that holds data alone. -/
def Ob.data : Ob → Prop
  | .box _ cs => ∃ ds : List D, cs = ds.map .d
  | _ => True

def HpPure (hp : Hp) : Prop := ∀ i o, getH hp i = some o → o.o.data

def g0 : Nat → Nat := fun _ => 0

/-- A heap behind another one. -/
structure HpRel (hp0 hp : Hp) : Prop where
  len : hp0.objs.length ≤ hp.objs.length
  pure : HpPure hp
  ch : ∀ i, i < hp0.objs.length → (∀ x, hp.ch = some x → i < x) → getH hp i = getH hp0 i
  es : ∀ i, i < hp0.objs.length → (∀ x, hp.es = some x → i < x) → ∀ o, getH hp i = some o → ∃ o0, getH hp0 i = some o0 ∧ ∀ m, o0.o.lt m g0 → o.o.lt m g0

def HStep (hp hp' : Hp) : Prop := ∀ hp0, HpRel hp0 hp → HpRel hp0 hp'

theorem HStep.refl (hp : Hp) : HStep hp hp := fun _ h => h
theorem HStep.trans {a b c : Hp} (h : HStep a b) (k : HStep b c) : HStep a c := fun hp0 r => k hp0 (h hp0 r)

theorem pure_push {hp : Hp} (h : HpPure hp) {o : HOb} (ho : o.o.data) : HpPure (pushHp hp o) := by
  intro i x hx
  rw [getH_push] at hx
  split at hx
  · cases hx; exact ho
  · exact h i x hx

theorem HStep.push (hp : Hp) {o : HOb} (ho : o.o.data) : HStep hp (pushHp hp o) := fun hp0 h => by
  have hl : hp.objs.length ≤ (pushHp hp o).objs.length := by simp [pushHp]
  have hg : ∀ i, i < hp0.objs.length → getH (pushHp hp o) i = getH hp i := fun i hi => by
    have := h.len
    rw [getH_push, if_neg (by omega)]
  exact ⟨Nat.le_trans h.len hl, pure_push h.pure ho, fun i hi hx => by rw [hg i hi]; exact h.ch i hi hx, fun i hi hx o' ho' => by rw [hg i hi] at ho'; exact h.es i hi hx o' ho'⟩

theorem omin_lt {a : Option Nat} {b i : Nat} (h : ∀ x, omin a b = some x → i < x) : i < b ∧ ∀ x, a = some x → i < x := by
  cases a with
  | none => exact ⟨h b rfl, by simp⟩
  | some y =>
    have := h (min y b) rfl
    exact ⟨by omega, fun x hx => by cases hx; omega⟩

theorem ominO_lt {a b : Option Nat} {i : Nat} (h : ∀ x, ominO a b = some x → i < x) : (∀ x, a = some x → i < x) ∧ ∀ x, b = some x → i < x := by
  cases b with
  | none => exact ⟨h, by simp⟩
  | some y => obtain ⟨h1, h2⟩ := omin_lt h; exact ⟨h2, fun x hx => by cases hx; exact h1⟩

theorem getH_set' (hp : Hp) (id j : Nat) (o : Option HOb) (flat : Bool) (hne : j ≠ id) : getH (setHp hp id o flat) j = getH hp j := by
  simp only [getH, setHp, nth_setNth, if_neg hne]

/-- An object gets new contents, or none. -/
theorem HStep.set (hp : Hp) {id : Nat} {o : Option HOb} {flat : Bool} (hd : ∀ x, o = some x → x.o.data) (hs : (getH hp id).isSome) (hfl : flat = true → ∀ x, o = some x → ∀ y, getH hp id = some y → ∀ m, y.o.lt m g0 → x.o.lt m g0) : HStep hp (setHp hp id o flat) := fun hp0 h => by
  have hl : (setHp hp id o flat).objs.length = hp.objs.length := by simp [setHp, setNth_length]
  have hsame := getH_set hp id id o flat hs
  rw [if_pos rfl] at hsame
  refine ⟨by rw [hl]; exact h.len, ?_, ?_, ?_⟩
  · intro i x hx
    by_cases hi : i = id
    · subst hi; rw [hsame] at hx; exact hd x hx
    · rw [getH_set' _ _ _ _ _ hi] at hx; exact h.pure i x hx
  · intro i hi hx
    obtain ⟨h1, h2⟩ := omin_lt (show ∀ x, omin hp.ch id = some x → i < x from hx)
    rw [getH_set' _ _ _ _ _ (by omega)]
    exact h.ch i hi h2
  · intro i hi hx o' ho'
    by_cases hne : i = id
    · subst hne
      rw [hsame] at ho'
      cases flat with
      | false =>
        obtain ⟨h1, _⟩ := omin_lt (show ∀ x, omin hp.es i = some x → i < x from hx)
        omega
      | true =>
        obtain ⟨y, hy⟩ := Option.isSome_iff_exists.1 hs
        obtain ⟨o0, k1, k2⟩ := h.es i hi hx y hy
        exact ⟨o0, k1, fun m hm => hfl rfl o' ho' y hy m (k2 m hm)⟩
    · rw [getH_set' _ _ _ _ _ hne] at ho'
      refine h.es i hi (fun x hx' => ?_) o' ho'
      cases flat with
      | false => exact (omin_lt (show ∀ x, omin hp.es id = some x → i < x from hx)).2 x hx'
      | true => exact hx x hx'

theorem HStep.join {hp h : Hp} (k : HpRel hp h) : HStep hp (joinHp hp h) := fun hp0 r => by
  have hg : ∀ i, getH (joinHp hp h) i = getH h i := fun _ => rfl
  refine ⟨Nat.le_trans r.len k.len, fun i o ho => k.pure i o (by rw [← hg]; exact ho), fun i hi hx => ?_, fun i hi hx o ho => ?_⟩
  · obtain ⟨h1, h2⟩ := ominO_lt (show ∀ x, ominO hp.ch h.ch = some x → i < x from hx)
    rw [hg, k.ch i (Nat.lt_of_lt_of_le hi r.len) h2]
    exact r.ch i hi h1
  · obtain ⟨h1, h2⟩ := ominO_lt (show ∀ x, ominO hp.es h.es = some x → i < x from hx)
    rw [hg] at ho
    obtain ⟨o1, k1, k2⟩ := k.es i (Nat.lt_of_lt_of_le hi r.len) h2 o ho
    obtain ⟨o0, j1, j2⟩ := r.es i hi h1 o1 k1
    exact ⟨o0, j1, fun m hm => k2 m (j2 m hm)⟩

/-- The heap behind an operation. -/
def hpOf (hp : Hp) (e : Eff) : Hp :=
  match e.hw with
  | some h => h
  | none => hp

theorem apply_hp (σ : St) (dst : Option Nat) (e : Eff) : (apply σ dst e).hp = hpOf σ.hp e := by cases h : e.hw <;> simp [apply, hpOf, h]

section
variable {c : Cfg} {σ : St}

theorem data_map (ds : List D) {T : TypeId} : (Ob.box T (ds.map .d)).data := ⟨ds, rfl⟩

theorem newBox_heap {heap : Bool} {t : Nat} {T : TypeId} {cs : List AV} {e : Eff} (he : newBox σ heap t T cs = some e) : HStep σ.hp (hpOf σ.hp e) := by
  unfold newBox at he
  split at he
  · split at he
    · simp only [Option.some.injEq] at he; subst he
      exact HStep.push _ (data_map _)
    · simp at he
  · simp only [Option.some.injEq] at he; subst he
    exact HStep.refl _

theorem newRow_heap {heap : Bool} {t : Nat} {T : TypeId} {xs : List D} {f : List (Nat × Bool)} {e : Eff} (he : newRow c σ heap t T xs f = some e) : HStep σ.hp (hpOf σ.hp e) := by
  unfold newRow at he
  split at he
  case isFalse => simp at he
  split at he
  · simp only [Option.some.injEq] at he; subst he
    exact HStep.push _ trivial
  · obtain rfl := Option.some.inj he
    exact HStep.refl _

theorem getH_isSome {id : Nat} {o : Ob} (h : get σ (.h id) = some o) : ∃ z, getH σ.hp id = some ⟨o, z⟩ := getH_some h

/-- An object that is written. -/
theorem putOb_heap {r : Ref} {o o' : Ob} {flat : Bool} {f : List (Nat × Bool)} (h : get σ r = some o) (hd : o.data → o'.data) (hfl : flat = true → ∀ m, o.lt m g0 → o'.lt m g0) (hpp : HpPure σ.hp) : HStep σ.hp (hpOf σ.hp (putOb σ r o' flat f)) := by
  cases r with
  | l i g => exact HStep.refl _
  | h id =>
    obtain ⟨z, hz⟩ := getH_some h
    refine HStep.set _ (fun x hx => ?_) (by rw [hz]; rfl) (fun hf x hx y hy m hm => ?_)
    · cases hx; exact hd (hpp id _ hz)
    · cases hx
      rw [hz] at hy; cases hy
      exact hfl hf m hm

theorem dlts_cells {n : Nat} {x : D} (h : x.flatD = true) : D.lts n x.cells := cells_lts (D.flat_lt x h)

theorem flatDs_lts {n : Nat} {xs : List D} (h : D.flatDs xs = true) : D.lts n xs := D.flats_lts xs h

theorem spliceEl_lt {y y' : D} {off : Nat} {new : List D} (h : spliceEl y off new = some y') {n : Nat} (hy : y.lt n) (hn : D.lts n new) : y'.lt n := by
  unfold spliceEl at h
  split at h
  · split at h
    · simp only [Option.some.injEq] at h; subst h
      simp only [D.lt] at hy ⊢
      exact lts_splice hy hn off
    · simp at h
  · split at h
    · simp only [Option.some.injEq] at h; subst h
      exact (lts_iff.1 hn) _ (by simp)
    · simp at h

theorem lts_set {n j : Nat} {xs : List D} {y : D} (h : D.lts n xs) (hy : y.lt n) : D.lts n (xs.set j y) := by
  rw [lts_iff] at h ⊢
  intro d hd
  rcases List.mem_or_eq_of_mem_set hd with hd | rfl
  · exact h d hd
  · exact hy

theorem splice_map {off : Nat} {ds new : List D} : splice (ds.map AV.d) off (new.map AV.d) = (splice ds off new).map AV.d := by
  simp [splice, List.map_take, List.map_drop]

theorem store_heap {T : TypeId} {x v : AV} {e : Eff} (he : store c σ T x v = some e) (hpp : HpPure σ.hp) : HStep σ.hp (hpOf σ.hp e) := by
  unfold store at he
  split at he
  case isFalse => simp at he
  unfold storeAt at he
  split at he
  · rename_i r off hp
    split at he
    · rename_i U cs hr
      split at he
      · split at he
        · simp only [Option.some.injEq] at he; subst he; exact HStep.refl _
        · simp at he
      · rename_i id
        split at he
        · rename_i d f hd
          split at he
          · simp only [Option.some.injEq] at he; subst he
            refine putOb_heap hr ?_ ?_ hpp
            · rintro ⟨ds, rfl⟩
              rw [splice_map]; exact ⟨_, rfl⟩
            · intro hf m hm
              exact alts_splice (show AV.lts m g0 cs from hm) (alts_map.2 (dlts_cells hf)) off
          · simp at he
        · simp at he
    · simp at he
  · split at he
    · rename_i r j off hp
      split at he
      · rename_i U xs d f hr hd
        split at he
        · simp at he
        · split at he
          · rename_i y' hy'
            split at he
            · simp only [Option.some.injEq] at he; subst he
              simp only [Option.bind_eq_some_iff] at hy'
              obtain ⟨y, hy, hsp⟩ := hy'
              refine putOb_heap hr (fun _ => trivial) ?_ hpp
              intro hf m hm
              have hxs : D.lts m xs := hm
              exact lts_set hxs (spliceEl_lt hsp (lts_iff.1 hxs y (List.mem_of_getElem? hy)) (dlts_cells hf))
            · simp at he
          · simp at he
      · simp at he
    · simp at he

theorem append_heap {heap : Bool} {t : Nat} {E : TypeId} {s : AV} {ys : List D} {e : Eff} (he : append c σ heap t E s ys = some e) (hpp : HpPure σ.hp) : HStep σ.hp (hpOf σ.hp e) := by
  unfold append at he
  split at he
  case isFalse => simp at he
  split at he
  · split at he
    · simp only [Option.some.injEq] at he; subst he; exact HStep.refl _
    · split at he
      · exact newRow_heap he
      · simp at he
  · split at he
    · rename_i r hp
      split at he
      · rename_i T xs hr
        split at he
        · simp only [Option.some.injEq] at he; subst he; exact HStep.refl _
        · split at he
          case isFalse => simp at he
          split at he
          · simp only [Option.some.injEq] at he; subst he; exact HStep.refl _
          · rename_i id
            simp only [Option.some.injEq] at he; subst he
            obtain ⟨z, hz⟩ := getH_some hr
            exact (HStep.set _ (by simp) (by rw [hz]; rfl) (by simp)).trans (HStep.push _ trivial)
      · split at he
        · simp only [Option.some.injEq] at he; subst he; exact HStep.refl _
        · split at he
          case isFalse => simp at he
          split at he
          · simp only [Option.some.injEq] at he; subst he; exact HStep.refl _
          · simp at he
      · simp at he
    · rename_i r len hp
      split at he
      · rename_i T xs hr
        split at he
        · split at he
          · simp only [Option.some.injEq] at he; subst he; exact HStep.refl _
          · simp at he
        · split at he
          · simp at he
          · split at he
            · obtain rfl := Option.some.inj he
              refine putOb_heap (f := []) hr (fun _ => trivial) ?_ hpp
              intro hf m hm
              have hxs := lts_iff.1 (show D.lts m xs from hm)
              have hys := lts_iff.1 (flatDs_lts (n := m) hf)
              show D.lts m _
              rw [lts_iff]
              intro d hd
              rcases List.mem_append.1 hd with hd | hd
              · rcases List.mem_append.1 hd with hd | hd
                · exact hxs d (List.mem_of_mem_take hd)
                · exact hys d hd
              · exact hxs d (List.mem_of_mem_drop hd)
            · split at he
              · split at he
                · simp only [Option.some.injEq] at he; subst he; exact HStep.refl _
                · simp at he
              · simp at he
      · simp at he
    · simp at he

theorem setMap_heap {id : Nat} {es es' : List (D × D)} {flat : Bool} (h : mapOf σ.hp id = some es) (hfl : flat = true → ∀ m, (∀ p ∈ es, p.1.lt m ∧ p.2.lt m) → ∀ p ∈ es', p.1.lt m ∧ p.2.lt m) : HStep σ.hp (setMap σ.hp id es' flat) := by
  have hr := mapOf_get h
  obtain ⟨z, hz⟩ := getH_some hr
  refine HStep.set _ (fun x hx => by cases hx; trivial) (by rw [hz]; rfl) (fun hf x hx y hy m hm => ?_)
  cases hx
  rw [hz] at hy; cases hy
  exact hfl hf m hm

theorem mapSet_heap {P : Program} {K : TypeId} {id : Nat} {k v : D} {hp : Hp} (he : mapSet P K σ.hp id k v = some hp) : HStep σ.hp hp := by
  unfold mapSet at he
  split at he
  case h_2 => simp at he
  rename_i es hes
  have kv : ∀ m, (k.flatD && v.flatD) = true → k.lt m ∧ v.lt m := by
    intro m hf
    simp only [Bool.and_eq_true] at hf
    exact ⟨D.flat_lt k hf.1, D.flat_lt v hf.2⟩
  split at he
  · split at he
    · simp only [Option.some.injEq] at he; subst he
      refine setMap_heap hes fun hf m hm p hp => ?_
      rcases List.mem_or_eq_of_mem_set hp with hp | rfl
      · exact hm p hp
      · exact kv m hf
    · simp at he
  · simp only [Option.some.injEq] at he; subst he
    refine setMap_heap hes fun hf m hm p hp => ?_
    rcases List.mem_append.1 hp with hp | hp
    · exact hm p hp
    · rw [List.mem_singleton] at hp; subst hp; exact kv m hf
  · simp at he

theorem delete_heap {ts : Array TypeId} {id : Nat} {k : AV} {e : Eff} (he : deleteOp c σ ts id k = some e) : HStep σ.hp (hpOf σ.hp e) := by
  unfold deleteOp at he
  split at he
  case h_2 => simp at he
  rename_i K E kd f es hT hk hes
  split at he
  · simp only [Option.some.injEq] at he; subst he
    exact setMap_heap hes fun _ m hm p hp => hm p (List.mem_of_mem_eraseIdx hp)
  · simp only [Option.some.injEq] at he; subst he; exact HStep.refl _
  · simp at he

theorem pureEff_heap {v : Option AV} {e : Eff} (he : pureEff v = some e) : HStep σ.hp (hpOf σ.hp e) := by
  simp only [pureEff, Option.map_eq_some_iff] at he
  obtain ⟨v, _, rfl⟩ := he
  exact HStep.refl _
end
end Go.AE

/- AE: the abstract heap along every operation but the calls of functions. -/
namespace Go.AE

section
variable {c : Cfg} {σ : St} {o : Oper}

theorem same_heap {e : Eff} (h : e.hw = none) : HStep σ.hp (hpOf σ.hp e) := by
  simp only [hpOf, h]; exact HStep.refl _

theorem lenOp_heap {ts : Array TypeId} {v : AV} {e : Eff} (he : lenOp c σ ts v = some e) : e.hw = none := by
  unfold lenOp at he
  split at he
  · split at he <;> simp at he; subst he; rfl
  · split at he <;> simp at he; subst he; rfl
  · split at he
    · simp only [Option.map_eq_some_iff] at he; obtain ⟨x, _, rfl⟩ := he; rfl
    · simp at he
  · split at he
    · simp only [Option.map_eq_some_iff] at he; obtain ⟨x, _, rfl⟩ := he; rfl
    · simp at he

theorem clear_heap (hP : WFP c.P) {ts : Array TypeId} {v : AV} {e : Eff} (he : clearOp c σ ts v = some e) (hpp : HpPure σ.hp) : HStep σ.hp (hpOf σ.hp e) := by
  unfold clearOp at he
  split at he
  · simp only [Option.map_eq_some_iff] at he; obtain ⟨x, _, rfl⟩ := he; exact HStep.refl _
  · simp only [Option.map_eq_some_iff] at he; obtain ⟨x, _, rfl⟩ := he; exact HStep.refl _
  · split at he
    case h_2 => simp at he
    rename_i r off len E hs hE
    split at he
    case h_2 => simp at he
    rename_i T xs z hr hz
    split at he
    case isFalse => simp at he
    obtain rfl := Option.some.inj he
    obtain ⟨zv, _, _, _, z4⟩ := zeroEl_ok hP hz
    refine putOb_heap (f := []) hr (fun _ => trivial) ?_ hpp
    intro _ m hm
    have hxs := lts_iff.1 (show D.lts m xs from hm)
    show D.lts m _
    rw [lts_iff]
    intro d hd
    rcases List.mem_append.1 hd with hd | hd
    · rcases List.mem_append.1 hd with hd | hd
      · exact hxs d (List.mem_of_mem_take hd)
      · rw [(List.mem_replicate.1 hd).2]
        exact (z4 default (fun _ _ => False) ⟨fun _ => 0, fun _ => 0, fun _ => 0, fun _ => 0⟩ m).2
    · exact hxs d (List.mem_of_mem_drop hd)

theorem appendOp_heap {heap : Bool} {t : Nat} {ts : Array TypeId} {s x : AV} {e : Eff} (he : appendOp c σ heap t ts s x = some e) (hpp : HpPure σ.hp) : HStep σ.hp (hpOf σ.hp e) := by
  unfold appendOp at he
  split at he
  case h_2 => simp at he
  split at he
  case h_2 => simp at he
  split at he
  · split at he
    · split at he
      · exact append_heap he hpp
      · simp at he
    · simp only [Option.bind_eq_some_iff] at he
      obtain ⟨ys, _, he⟩ := he
      exact append_heap he hpp
  · split at he
    · split at he
      · simp only [Option.bind_eq_some_iff] at he
        obtain ⟨z, _, he⟩ := he
        exact newRow_heap he
      · simp at he
    · simp at he

theorem builtinOp_heap (hP : WFP c.P) {heap : Bool} {t : Nat} {b : Builtin} {ts : Array TypeId} {args : List AV} {e : Eff} (he : builtinOp c σ heap t b ts args = some e) (hpp : HpPure σ.hp) : HStep σ.hp (hpOf σ.hp e) := by
  unfold builtinOp at he
  split at he
  · exact same_heap (lenOp_heap he)
  · simp only [Option.map_eq_some_iff] at he; obtain ⟨x, _, rfl⟩ := he; exact HStep.refl _
  · simp only [Option.some.injEq] at he; subst he; exact HStep.refl _
  · simp only [Option.some.injEq] at he; subst he; exact HStep.refl _
  · simp only [Option.some.injEq] at he; subst he; exact HStep.refl _
  · exact appendOp_heap he hpp
  · exact delete_heap he
  · exact clear_heap hP he hpp
  · simp at he

theorem opMove_heap {f : FuncId} {x : Operand} {e : Eff} (he : opMove c f σ o x = some e) : e.hw = none := by
  unfold opMove at he
  split at he
  case h_2 => simp at he
  split at he
  · obtain rfl := Option.some.inj he; rfl
  · split at he
    · simp only [Option.map_eq_some_iff] at he; obtain ⟨p, _, rfl⟩ := he; rfl
    · simp only [Option.some.injEq] at he; subst he; rfl

theorem opAlloc_heap {f : FuncId} {T : TypeId} {e : Eff} (he : opAlloc c f σ o T = some e) : HStep σ.hp (hpOf σ.hp e) := by
  unfold opAlloc at he
  split at he
  case h_2 => simp at he
  split at he
  · split at he
    case h_2 => simp at he
    split at he
    case h_2 => simp at he
    rename_i e' he'
    simp only [Option.some.injEq] at he; subst he
    have := newBox_heap he'
    exact this
  · exact newBox_heap he

theorem opStep_heap (hP : WFP c.P) {call : CallF} {f : FuncId} (hn : ¬ isFnCall o) {e : Eff} (he : opStep c call f σ o = some e) (hpp : HpPure σ.hp) : HStep σ.hp (hpOf σ.hp e) := by
  unfold opStep at he
  split at he
  case _ x hop => exact same_heap (opMove_heap he)
  case _ x hop => exact same_heap (opMove_heap he)
  case _ x y z hop =>
    unfold opPick at he
    split at he
    · exact pureEff_heap he
    · simp at he
  case _ hop => exact opAlloc_heap he
  case _ hop =>
    unfold opBox at he
    split at he
    · split at he
      · exact newBox_heap he
      · simp at he
    · simp at he
  case _ hop =>
    unfold opBuild at he
    split at he
    · split at he
      · split at he
        · simp only [Option.some.injEq] at he; subst he; exact HStep.refl _
        · simp at he
      · simp at he
    · simp at he
  case _ hop =>
    unfold opBuildSlice at he
    split at he
    · split at he
      · split at he
        · split at he
          · unfold newRowZ at he
            split at he
            · split at he
              · obtain rfl := Option.some.inj he; exact HStep.refl _
              · simp at he
            · exact newRow_heap he
          · simp at he
        · simp at he
      · simp at he
    · simp at he
  case _ hop =>
    unfold opLoad at he
    split at he
    · exact pureEff_heap he
    · simp at he
  case _ hop =>
    unfold opStore at he
    split at he
    · exact store_heap he hpp
    · simp at he
  case _ hop =>
    unfold opNilCheck at he
    split at he
    · simp at he
    · simp at he
    · simp at he
    · exact pureEff_heap he
  case _ hop =>
    unfold opBin at he
    split at he
    · exact pureEff_heap he
    · simp at he
  case _ hop =>
    unfold opUn at he
    split at he
    · split at he
      · simp only [Option.map_eq_some_iff] at he; obtain ⟨p, _, rfl⟩ := he; exact HStep.refl _
      · simp at he
    · simp at he
  case _ hop =>
    unfold opConvert at he
    split at he
    · exact pureEff_heap he
    · simp at he
  case _ hop =>
    unfold opFieldAddr at he
    split at he
    · split at he
      · simp at he
      · exact pureEff_heap he
    · simp at he
  case _ hop =>
    unfold opField at he
    split at he
    · exact pureEff_heap he
    · simp at he
  case _ hop =>
    unfold opIndexAddr at he
    split at he
    · exact pureEff_heap he
    · simp at he
  case _ hop =>
    unfold opIndex at he
    split at he
    · split at he
      · simp only [Option.map_eq_some_iff] at he; obtain ⟨p, _, rfl⟩ := he; exact HStep.refl _
      · simp at he
    · split at he
      · split at he
        · exact pureEff_heap he
        · simp at he
      · simp at he
    · simp at he
  case _ hop =>
    unfold opExtract at he
    split at he
    · simp only [Option.map_eq_some_iff] at he; obtain ⟨p, _, rfl⟩ := he; exact HStep.refl _
    · simp at he
  case _ hop =>
    unfold opMakeMap at he
    obtain rfl := Option.some.inj he
    exact HStep.push _ trivial
  case _ hop =>
    unfold opMakeSlice at he
    split at he
    · split at he
      · simp only [Option.bind_eq_some_iff] at he
        obtain ⟨z, _, he⟩ := he
        exact newRow_heap he
      · simp at he
    · simp at he
  case _ hop =>
    unfold opMakeFunc at he
    split at he
    · simp only [Option.some.injEq] at he; subst he; exact HStep.refl _
    · simp at he
  case _ hop =>
    unfold opLookup at he
    split at he
    · split at he
      · simp only [Option.some.injEq] at he; subst he; exact HStep.refl _
      · simp at he
    · simp at he
  case _ hop =>
    unfold opMapUpdate at he
    split at he
    · simp only [Option.map_eq_some_iff] at he
      obtain ⟨hp, h1, rfl⟩ := he
      exact mapSet_heap h1
    · simp at he
  case _ hop =>
    unfold opMapUpdate at he
    split at he
    · simp only [Option.map_eq_some_iff] at he
      obtain ⟨hp, h1, rfl⟩ := he
      exact mapSet_heap h1
    · simp at he
  case _ cl hop =>
    unfold opCall at he
    split at he
    case h_2 => simp at he
    rename_i args ha
    split at he
    · rename_i b hc
      exact builtinOp_heap hP he hpp
    · rename_i g hc
      exact (hn ⟨cl, g, hop, hc⟩).elim
    · simp at he
  case _ hop =>
    unfold opSlice at he
    split at he
    · split at he
      · split at he
        · split at he
          · simp only [Option.some.injEq] at he; subst he; exact HStep.refl _
          · simp at he
        · simp at he
      · simp at he
    · split at he
      · split at he
        · simp only [Option.some.injEq] at he; subst he; exact HStep.refl _
        · simp at he
      · split at he
        · split at he
          · simp only [Option.some.injEq] at he; subst he; exact HStep.refl _
          · simp at he
        · simp at he
      · split at he
        · exact pureEff_heap he
        · simp at he
      · simp at he
  case _ => simp at he
end
end Go.AE
