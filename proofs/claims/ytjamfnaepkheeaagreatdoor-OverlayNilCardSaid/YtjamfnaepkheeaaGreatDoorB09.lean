/- Part 9 of the proof: OverlayNil returns true at every operation and leaves its argument as it was (the tied card, no condition). -/
import Derived.Laws.LoneSync
import Derived.Test.YtjamfnaepkheeaaGreatDoorB02
import Derived.Test.YtjamfnaepkheeaaGreatDoorB05
import Derived.Shelf.SlIterI.Nil
import Derived.Shelf.SortM.Plain
import Derived.Shelf.SortM.SortNone
import Derived.Defers
import Derived.Test.YtjamfnaepkheeaaGreatDoorProg
import Derived.Lib.UnsafeStr
import Derived.RegionTactic
import Derived.RegionCalls
import Derived.WalkKit
import Derived.Shelf.RegionOpenPlain

/- AE: primitives: atomic loads, stores, additions, comparisons with a store; a pointer as it is. -/
namespace Go.AE
noncomputable section

/-- Which entry of the model's a function has. -/
def PKEntry (k : PK) (e : Option (Array Value → Sem Value)) : Prop :=
  match k with
  | .load k => e = some (Extern.Atomic.loadT (.int k))
  | .store => e = some Extern.Atomic.storeT
  | .add k => e = some (Extern.Atomic.update (Op.intArith .add) k true)
  | .cas k => e = some (Extern.Atomic.casT (.int k))
  | .same => e = some Extern.AbiNoEscape.same
  | .mark0 => ∃ m : Mark, e = some (fun _ => do mark m; pure Extern.Race.none_)
  | .mark1 => ∃ m : Addr → Mark, e = some (Extern.Race.marked m)
def PKFact (P : Program) (f : FuncId) (k : PK) : Prop :=
  ∃ fn, P.funcs[f]? = some fn ∧ (fn.name == "runtime.NumGoroutine") = false ∧ fn.body.isNone = true ∧ Extern.findNext fn = none ∧ PKEntry k (Extern.find fn)

section
variable {P : Program} {w w' : World} {S S' : Fixed} {β β' : Emb} {hp hp' : Hp}

theorem getBase {id : Nat} {T : TypeId} {cs : List AV} {z : Bool} (h : getH hp id = some ⟨.box T cs, z⟩) : get (base hp) (.h id) = some (.box T cs) := by
  show (getH hp id).map (·.o) = _
  rw [h]; rfl

/-- A cell that is read. -/
theorem cellI_ok (h : HR P hp w S β) {id off : Nat} {x : D} (hc : cellI hp id off = some x) : ∃ u, w.cell? ⟨β.blk (.h id), off, none⟩ = some u ∧ RV w S β x u ∧ w.frozen? ⟨β.blk (.h id), off, none⟩ = false := by
  unfold cellI at hc
  split at hc
  · rename_i T cs z hg
    split at hc
    · rename_i y hy
      simp only [Option.some.injEq] at hc; subst hc
      obtain ⟨⟨⟨C, zz, m1, m2, m3, m4⟩, _⟩, _⟩ := h.1.obj _ _ (getBase hg)
      obtain ⟨hl, hall⟩ := RAs_iff.1 m4
      have hlt : off < C.toList.length := by rw [← hl]; exact (List.getElem?_eq_some_iff.1 hy).1
      have hu := List.getElem?_eq_getElem hlt
      have hCs : off < C.size := by simpa using hlt
      refine ⟨C.toList[off], ?_, hall off _ _ hy hu, ?_⟩
      · simp only [World.cell?, m1]
        simp [hCs]
      · have := there_of m1 (off := off) (n := 1) (by omega) (fun p h1 h2 => m2 p (by omega) (by omega)) 0 (by omega)
        simpa using this.2
    · simp at hc
  · simp at hc

/-- A cell that is written. -/
theorem setI_ok (h : HR P hp w S β) {id off : Nat} {v : D} (hs : setI hp id off v = some hp') {u : Value} (hv : ∀ (w : World) (S : Fixed) (β : Emb), RV w S β v u) (ho : OneC u) (hl : ∀ n, v.lt n) :
    HpRel hp hp' ∧ HR P hp' (w.setCell ⟨β.blk (.h id), off, none⟩ u) S β ∧ Fr (base hp) w S β (base hp') (w.setCell ⟨β.blk (.h id), off, none⟩ u) S β := by
  unfold setI at hs
  split at hs
  case h_2 => simp at hs
  rename_i T cs z hg
  split at hs
  case isFalse => simp at hs
  rename_i hoff
  simp only [Option.some.injEq] at hs; subst hs
  have hgc : getH (clean hp) id = some ⟨.box T cs, z⟩ := hg
  have hd : ∀ cs' : List AV, (∃ ds : List D, cs = ds.map .d) → cs' = cs.set off (.d v) → (Ob.box T cs').data := by
    rintro cs' ⟨ds, rfl⟩ rfl
    exact ⟨ds.set off v, by rw [List.map_set]⟩
  have hpure := h.2 id _ hg
  have hrel : HpRel hp (setHp (clean hp) id (some ⟨.box T (cs.set off (.d v)), z⟩) true) := by
    refine HStep.set (clean hp) (fun x hx => ?_) (by rw [hgc]; rfl) (fun _ x hx y hy m hm => ?_) hp (HpRel.clean h.2)
    · cases hx; exact hd _ hpure rfl
    · cases hx
      rw [hgc] at hy; cases hy
      have hm' := alts_iff.1 (show AV.lts m g0 cs from hm)
      show AV.lts m g0 (cs.set off (.d v))
      rw [alts_iff]
      intro d hd
      rcases List.mem_or_eq_of_mem_set hd with hd | rfl
      · exact hm' d hd
      · exact hl m
  obtain ⟨⟨⟨C, zz, m1, m2, m3, m4⟩, m5⟩, m6⟩ := h.1.obj _ _ (getBase hg)
  have hzf : (getH hp id).elim true (·.fz) = z := by rw [hg]; rfl
  have ht := turned_heap (σ := base hp) (getBase hg) (.box T (cs.set off (.d v))) true
  have hlen : cs.length = C.size := by have := RAs_length m4; simpa using this
  have hw := h.1.write (getBase hg) (by trivial) (by trivial) ht m1 off [u] m5 (fun hk => ⟨⟨⟨_, zz, heap_setCells _ w _ _ m1, by rw [putCells_size]; exact m2, ?_, ?_⟩, m5⟩, ?_⟩)
  · have e1 : w.setCells (β.blk (.h id)) off [u] = w.setCell ⟨β.blk (.h id), off, none⟩ u := rfl
    rw [e1] at hw
    have hz0 : (getH (base hp).hp id).elim true (·.fz) = z := hzf
    rw [hz0] at hw
    have hobj : (setHp (clean hp) id (some ⟨.box T (cs.set off (.d v)), z⟩) true).objs = (setHp hp id (some ⟨.box T (cs.set off (.d v)), z⟩) true).objs := rfl
    have hsr : SR P (base (setHp hp id (some ⟨.box T (cs.set off (.d v)), z⟩) true)) act0 (w.setCell ⟨β.blk (.h id), off, none⟩ u) S β := hw.1
    have hfr : Fr (base hp) w S β (base (setHp hp id (some ⟨.box T (cs.set off (.d v)), z⟩) true)) (w.setCell ⟨β.blk (.h id), off, none⟩ u) S β := hw.2
    have hpu : HpPure (setHp hp id (some ⟨.box T (cs.set off (.d v)), z⟩) true) := fun i o ho => hrel.pure i o ho
    exact ⟨hrel, HR.objs hobj ⟨hsr, hpu⟩, Fr.objs hobj hfr⟩
  · rw [putCells_toList _ _ _ (by simp; omega)]
    intro y hy
    rcases mem_splice hy with hy | hy
    · exact m3 y hy
    · rw [List.mem_singleton] at hy; subst hy; exact ho
  · rw [putCells_toList _ _ _ (by simp; omega)]
    have hsp : cs.set off (.d v) = splice cs off [.d v] := by
      simp only [splice, List.length_singleton]
      rw [List.set_eq_take_append_cons_drop, if_pos hoff]
      simp
    rw [hsp]
    refine (RAs_splice m4 (new := [.d v]) (vs := [u]) ⟨u, [], rfl, hv w S β, rfl⟩ off).keep hk (SameH.refl (size (base hp)) β) (SameL.refl (gen (base hp)) β) ?_
    exact alts_splice (new := [.d v]) m6 ⟨hl _, trivial⟩ off
  · show AV.lts _ _ (cs.set off (.d v))
    have hm' := alts_iff.1 (show AV.lts (size (base hp)) (gen (base hp)) cs from m6)
    rw [alts_iff]
    intro d hd
    rcases List.mem_or_eq_of_mem_set hd with hd | rfl
    · exact hm' d hd
    · exact hl _

theorem clean_back {r : D} {v : Value} (h : HR P hp w S β) (hr : RV w S β r v) (hl : r.lt hp.objs.length) (hno : ∀ T xs, r ≠ .own T xs) : Back P hp w S β ⟨r, clean hp⟩ v w := by
  refine ⟨HpRel.clean h.2, S, β, HR.objs (hp := hp) (hp' := clean hp) rfl h, Fr.objs (hp := hp) (hp' := clean hp) rfl (Fr.refl _ _ _ _), ?_⟩
  show RR P hp w β (clean hp) w S β r v
  cases r <;> first | exact ⟨hr, hl⟩ | exact (hno _ _ rfl).elim

/-- A primitive does what its entry does. -/
theorem primK_ok {f : FuncId} {k : PK} (hk : PKFact P f k) {args : List D} {R : Res} (hR : primK P k args hp = some R) (h : HR P hp w S β) {vs : Array Value} (ha : RVs w S β args vs.toList) (hl : D.lts hp.objs.length args) : CallsBack P f vs w (Back P hp w S β R) := by
  obtain ⟨fn, f1, f2, f3, f4, f5⟩ := hk
  have one : ∀ {id off : Nat} {us : List Value} {v : Value}, RV w S β (.ptr id off) v → v = .pointer (some ⟨β.blk (.h id), off, none⟩) := fun h => by simpa only [RV] using h
  have int : ∀ {k : IntKind} {n : Int} {v : Value}, RV w S β (.int k n) v → v = .int k n := fun h => by simpa only [RV] using h
  unfold primK at hR
  split at hR
  · -- load
    rename_i k id off
    obtain ⟨v1, us, he, h1, h2⟩ := ha
    have h2 : us = [] := h2
    subst h2
    have hvs : vs = #[v1] := by apply Array.ext'; simpa using he
    subst hvs
    obtain rfl := one (us := []) h1
    split at hR
    case h_2 => simp at hR
    rename_i j m hc
    split at hR
    case isFalse => simp at hR
    rename_i hj; subst hj
    simp only [Option.some.injEq] at hR; subst hR
    obtain ⟨u, c1, c2, _⟩ := cellI_ok h hc
    obtain rfl := int c2
    exact .inl ⟨_, _, run_call_load f1 f2 f3 f4 j f5 c1, clean_back h (by simp only [RV]) (by simp [D.lt]) (by simp)⟩
  · -- store
    rename_i id off k y
    obtain ⟨v1, us, he, h1, v2, us2, rfl, h2, h3⟩ := ha
    have h3 : us2 = [] := h3
    subst h3
    have hvs : vs = #[v1, v2] := by apply Array.ext'; simpa using he
    subst hvs
    obtain rfl := one (us := []) h1
    obtain rfl := int h2
    split at hR
    case h_2 => simp at hR
    rename_i x hc
    simp only [Option.map_eq_some_iff] at hR
    obtain ⟨hp', hs, rfl⟩ := hR
    obtain ⟨u, c1, _, c3⟩ := cellI_ok h hc
    obtain ⟨k1, k2, k3⟩ := setI_ok h hs (u := .int k y) (fun _ _ _ => by simp only [RV]) trivial (fun _ => by simp [D.lt])
    exact .inl ⟨_, _, run_call_store f1 f2 f3 f4 f5 c1 c3, k1, S, β, k2, k3, ⟨by simp only [RV, RVs]; exact ⟨_, rfl, rfl⟩, by simp [D.lt, D.lts]⟩⟩
  · -- add
    rename_i k id off j y
    obtain ⟨v1, us, he, h1, v2, us2, rfl, h2, h3⟩ := ha
    have h3 : us2 = [] := h3
    subst h3
    have hvs : vs = #[v1, v2] := by apply Array.ext'; simpa using he
    subst hvs
    obtain rfl := one (us := []) h1
    obtain rfl := int h2
    split at hR
    case h_2 => simp at hR
    rename_i i x hc
    split at hR
    case isFalse => simp at hR
    rename_i hij
    obtain ⟨rfl, rfl⟩ := hij
    split at hR
    case h_2 => simp at hR
    rename_i l s hp1
    split at hR
    case isFalse => simp at hR
    rename_i hl'; subst hl'
    simp only [Option.map_eq_some_iff] at hR
    obtain ⟨hp', hs, rfl⟩ := hR
    obtain ⟨u, c1, c2, c3⟩ := cellI_ok h hc
    obtain rfl := int c2
    obtain ⟨k1, k2, k3⟩ := setI_ok h hs (u := .int l s) (fun _ _ _ => by simp only [RV]) trivial (fun _ => by simp [D.lt])
    exact .inl ⟨_, _, run_call_add f1 f2 f3 f4 l f5 c1 c3 (pureRun_ok hp1 w), k1, S, β, k2, k3, ⟨by simp only [RV], by simp [D.lt]⟩⟩
  · -- compare and swap
    rename_i k id off j o l y
    obtain ⟨v1, us, he, h1, v2, us2, rfl, h2, v3, us3, rfl, h3, h4⟩ := ha
    have h4 : us3 = [] := h4
    subst h4
    have hvs : vs = #[v1, v2, v3] := by apply Array.ext'; simpa using he
    subst hvs
    obtain rfl := one (us := []) h1
    obtain rfl := int h2
    obtain rfl := int h3
    split at hR
    case h_2 => simp at hR
    rename_i i x hc
    split at hR
    case isFalse => simp at hR
    rename_i hij
    obtain ⟨rfl, rfl, rfl⟩ := hij
    obtain ⟨u, c1, c2, c3⟩ := cellI_ok h hc
    obtain rfl := int c2
    split at hR
    · rename_i hx; subst hx
      simp only [Option.map_eq_some_iff] at hR
      obtain ⟨hp', hs, rfl⟩ := hR
      obtain ⟨k1, k2, k3⟩ := setI_ok h hs (u := .int l y) (fun _ _ _ => by simp only [RV]) trivial (fun _ => by simp [D.lt])
      exact .inl ⟨_, _, run_call_cas_hit f1 f2 f3 f4 l f5 c1 c3, k1, S, β, k2, k3, ⟨by simp only [RV], by simp [D.lt]⟩⟩
    · rename_i hx
      simp only [Option.some.injEq] at hR; subst hR
      exact .inl ⟨_, _, run_call_cas_miss f1 f2 f3 f4 l f5 c1 c3 hx, clean_back h (by simp only [RV]) (by simp [D.lt]) (by simp)⟩
  · -- the pointer as it is
    rename_i id off
    obtain ⟨v1, us, he, h1, h2⟩ := ha
    have h2 : us = [] := h2
    subst h2
    have hvs : vs = #[v1] := by apply Array.ext'; simpa using he
    subst hvs
    simp only [Option.some.injEq] at hR; subst hR
    refine .inl ⟨v1, w, ?_, clean_back h h1 hl.1 (by simp)⟩
    rw [run_callFunc_extern f1 f2 f3 f4 f5]
    rfl
  · -- a mark
    have hvs : vs = #[] := by apply Array.ext'; exact ha
    subst hvs
    simp only [Option.some.injEq] at hR; subst hR
    obtain ⟨m, f5⟩ := f5
    exact .inl ⟨.tuple #[], w, run_call_mark0 f1 f2 f3 f4 m f5 w, clean_back h (by simp only [RV, RVs]; exact ⟨_, rfl, rfl⟩) (by simp [D.lt, D.lts]) (by simp)⟩
  · -- a mark at an address
    rename_i id off
    obtain ⟨v1, us, he, h1, h2⟩ := ha
    have h2 : us = [] := h2
    subst h2
    have hvs : vs = #[v1] := by apply Array.ext'; simpa using he
    subst hvs
    obtain rfl := one (us := []) h1
    simp only [Option.some.injEq] at hR; subst hR
    obtain ⟨m, f5⟩ := f5
    exact .inl ⟨.tuple #[], w, run_call_marked f1 f2 f3 f4 m f5 _ w, clean_back h (by simp only [RV, RVs]; exact ⟨_, rfl, rfl⟩) (by simp [D.lt, D.lts]) (by simp)⟩
  · simp at hR
end
end
end Go.AE

/- AE: primitives: slices.Sorted over maps.Keys, the keys numbers. -/
namespace Go.AE
noncomputable section
open Go.RowKit

theorem nodupI_iff : ∀ {l : List Int}, nodupI l = true → l.Nodup
  | [], _ => List.nodup_nil
  | x :: r, h => by
    simp only [nodupI, Bool.and_eq_true, Bool.not_eq_true', List.any_eq_false, beq_iff_eq] at h
    exact List.nodup_cons.2 ⟨fun hx => h.1 x hx rfl, nodupI_iff h.2⟩

theorem insOrd_perm (x : Int) : ∀ l, (insOrd x l).Perm (x :: l)
  | [] => .refl _
  | y :: r => by
    simp only [insOrd]
    split
    · exact .refl _
    · exact ((insOrd_perm x r).cons y).trans (List.Perm.swap x y r)
theorem sortOrd_perm : ∀ l, (sortOrd l).Perm l
  | [] => .refl _
  | x :: r => (insOrd_perm x _).trans ((sortOrd_perm r).cons x)
theorem insOrd_le (x : Int) : ∀ {l : List Int}, l.Pairwise (· ≤ ·) → (insOrd x l).Pairwise (· ≤ ·)
  | [], _ => by simp [insOrd]
  | y :: r, h => by
    simp only [insOrd]
    obtain ⟨h1, h2⟩ := List.pairwise_cons.1 h
    split
    · rename_i hxy
      refine List.pairwise_cons.2 ⟨fun z hz => ?_, h⟩
      rcases List.mem_cons.1 hz with rfl | hz
      · exact hxy
      · exact Int.le_trans hxy (h1 z hz)
    · rename_i hxy
      refine List.pairwise_cons.2 ⟨fun z hz => ?_, insOrd_le x h2⟩
      rcases List.mem_cons.1 ((insOrd_perm x r).mem_iff.1 hz) with rfl | hz
      · omega
      · exact h1 z hz
theorem sortOrd_le : ∀ l, (sortOrd l).Pairwise (· ≤ ·)
  | [] => .nil
  | x :: r => insOrd_le x (sortOrd_le r)

theorem mergeSort_ord {l ks : List Int} (h : l.Perm ks) : l.mergeSort (fun x y => decide (x ≤ y)) = sortOrd ks := by
  have tr : ∀ a b c : Int, decide (a ≤ b) = true → decide (b ≤ c) = true → decide (a ≤ c) = true := fun a b c h1 h2 => by simp only [decide_eq_true_eq] at *; exact Int.le_trans h1 h2
  have to : ∀ a b : Int, (decide (a ≤ b) || decide (b ≤ a)) = true := fun a b => by simp only [Bool.or_eq_true, decide_eq_true_eq]; exact Int.le_total a b
  refine List.Perm.eq_of_pairwise (le := fun a b : Int => a ≤ b) (fun a b _ _ h1 h2 => Int.le_antisymm h1 h2) ?_ (sortOrd_le ks) (((List.mergeSort_perm l _).trans h).trans (sortOrd_perm ks).symm)
  exact (List.pairwise_mergeSort tr to l).imp (fun h => by simpa using h)

/-! ### worlds that grew -/
section
variable {P : Program} {w w' : World} {S : Fixed} {β : Emb} {hp : Hp}

theorem HR.below (h : HR P hp w S β) (hb : Below w.heap.size w w') : HR P hp w' S β ∧ Fr (base hp) w S β (base hp) w' S β := by
  have hk : Keeps w S w' S := fun b off hs => ⟨hs, wcell_block (hb.block b (h.1.inw b off hs)) off⟩
  refine ⟨⟨?_, h.2⟩, ⟨hb.size, hk, fun _ _ hs => .inl hs, fun b hlt _ => hb.block b hlt, Nat.le_refl _, SameH.refl _ _, fun _ ho => .inl ho, hb.os, hb.tape, hb.output⟩⟩
  refine h.1.change hk (fun b off hs => Nat.lt_of_lt_of_le (h.1.inw b off hs) hb.size) (Nat.le_refl _) (fun _ => Nat.le_refl _) (SameH.refl _ _) (SameL.refl _ _) (fun _ => False) ?_ (fun _ _ _ hN => hN.elim) (fun _ _ _ _ _ _ _ hN => hN.elim) (fun t => .inl ⟨rfl, rfl⟩) h.1.bound h.1.defers
  exact fun r o hr _ => ⟨hr, rfl, fun m => ⟨fun y hy => by rw [hb.block _ (mem_lt h.1 hr m)]; exact hy, fun _ => Iff.rfl⟩⟩

/-- A new row that a function of the shelf hands back. -/
theorem own_back (h : HR P hp w S β) (hb : Below w.heap.size w w') {T : TypeId} (hT : T ≠ 0) (hsz : sizeT P T = 1) {xs : List D} {us : List Value} {v : Value} (hrow : w'.ownsRow w.heap.size T 1 v xs.length us) (hall : us.length = xs.length ∧ ∀ (i : Nat) x u, xs[i]? = some x → us[i]? = some u → Fits x [u] u ∧ ∀ w S β, RV w S β x u) (hfl : ∀ n, D.lts n xs) : Back P hp w S β ⟨.own T xs, clean hp⟩ v w' := by
  obtain ⟨k1, k2⟩ := h.below hb
  refine ⟨HpRel.clean h.2, S, β, HR.objs (hp := hp) (hp' := clean hp) rfl k1, Fr.objs (hp := hp) (hp' := clean hp) rfl k2, ?_⟩
  show OwnOk P hp w β (clean hp) w' S β T xs v
  rcases hrow.2 with ⟨rfl, hz⟩ | ⟨g, cap, cur, rfl, hbase, hg, r1, r2, r3, r4⟩
  · have hxs : xs = [] := List.eq_nil_of_length_eq_zero hz
    subst hxs
    exact ⟨0, 0, 0, none, rfl, fun h0 => by omega, by rw [if_neg hT]; exact ⟨(add_here β _ _ _ _ _).2.2.2, .inl ⟨(add_here β _ _ _ _ _).2.1, rfl⟩⟩, trivial, fun h0 => by omega⟩
  · refine ⟨g, cap, 1, some ⟨g, 0, none⟩, rfl, fun _ => rfl, ?_, hfl _, fun h0 => ⟨.inr hbase, fun ho => ?_⟩⟩
    · rw [if_neg hT]
      obtain ⟨e1, e2, e3, e4⟩ := add_here β (.l 0 1) g cap 1 xs.length
      refine ⟨e4, ?_⟩
      by_cases hc : cap = 0
      · exact .inl ⟨by rw [e2, hc], List.eq_nil_of_length_eq_zero (by omega)⟩
      · refine .inr ⟨by rw [e2]; omega, by rw [e3]; omega, by rw [e3, hsz], by rw [e2]; exact r1, ⟨cur, (0, 0), by rw [e1]; exact hg, by rw [e2, e3]; exact r3, fun off _ _ h => by simp at h, fun j x hx => ?_⟩, fun off hs => ?_, fun hf => by simp at hf, fun C' T' z' h' => by rw [e1, hg] at h'; cases h'; rfl⟩
        · rw [e3]
          have hj : j < us.length := by rw [hall.1]; exact (List.getElem?_eq_some_iff.1 hx).1
          have hu := List.getElem?_eq_getElem hj
          obtain ⟨f1, f2⟩ := hall.2 j x _ hx hu
          refine ⟨[us[j]], us[j], rfl, fun i u hi => ?_, f1, f2 _ _ _⟩
          cases i with
          | succ i => simp at hi
          | zero =>
            simp at hi; subst hi
            have : (cur.toList.take (xs.length * 1))[j]? = some us[j] := by rw [r4]; exact hu
            rw [List.getElem?_take] at this
            split at this
            · simpa using this
            · simp at this
        · rw [e1] at hs
          have := h.1.inw g off hs
          omega
    · have := owned_lt h.1 (owned_clean ho)
      omega
  where
  owned_clean {b : Nat} (ho : Owned (base (clean hp)) β b) : Owned (base hp) β b := ho
end

/-- A key that is a number. -/
def natKey : Value → Int
  | .int _ n => n
  | _ => 0

/-! ### the machine's side -/
section
open Go.Proofs Go.Shelf
variable {P : Program} {ρ : Ren}

/-- What is asked of a program. -/
structure SortedFact (P : Program) (ρ : Ren) : Prop where
  l6 : SlLaysZI.n6 P ρ
  l10 : SlLaysZI.n10 P ρ
  srt : ∀ m, AnyZI.SortsIn P ρ Fence.wide m
  e9 : ∀ args w, (callFunc (ρ.f 9) args).run P w = .ok (.enter (ρ.f 9) args) w
  e10 : ∀ args w, (callFunc (ρ.f 10) args).run P w = .ok (.enter (ρ.f 10) args) w
  nz : ρ.t 26 ≠ 0
  sz : sizeT P (ρ.t 26) = 1

variable {w : World} {S : Fixed} {β : Emb} {hp : Hp}

theorem keys_rel : ∀ {ps : List (D × D)} {es : List MapEntry} {ks : List Int}, pairsOk w S β ps es → intsOf (ps.map (·.1)) = some ks → es.map (·.key) = ks.map (Value.int .i64)
  | [], es, ks, h, hk => by
    simp only [pairsOk] at h; subst h
    simp only [List.map_nil, intsOf, Option.some.injEq] at hk; subst hk; rfl
  | p :: r, es, ks, h, hk => by
    obtain ⟨e, es', rfl, h1, h2, h3⟩ := h
    simp only [List.map_cons] at hk
    unfold intsOf at hk
    split at hk
    · rename_i heq; simp at heq
    · rename_i n r' heq
      obtain ⟨hp1, rfl⟩ := List.cons.inj heq
      simp only [Option.map_eq_some_iff] at hk
      obtain ⟨ks', hk', rfl⟩ := hk
      rw [hp1] at h1
      have h1 : e.key = .int .i64 n := by simpa only [RV] using h1
      simp [h1, keys_rel h3 hk']
    · simp at hk

theorem sortedKeys_ok (F : SortedFact P ρ) {args : List D} {R : Res} (hR : sortedKeys (ρ.f 10) (ρ.t 26) args hp = some R) (h : HR P hp w S β) {vs : Array Value} (ha : RVs w S β args vs.toList) : CallsBack P (ρ.f 6) vs w (Back P hp w S β R) := by
  unfold sortedKeys at hR
  split at hR
  case h_2 => simp at hR
  rename_i g id
  split at hR
  case isFalse => simp at hR
  rename_i hg; subst hg
  split at hR
  case h_2 => simp at hR
  rename_i ks hks
  split at hR
  case isFalse => simp at hR
  rename_i hcond
  simp only [Bool.and_eq_true] at hcond
  obtain ⟨⟨c1, c2⟩, c3⟩ := hcond
  have c1 := nodupI_iff c1
  have c2 : ∀ x ∈ ks, (Lit.int .i64 x).wf = true := List.all_eq_true.1 c2
  have c3 : ks.length ≤ maxN := Nat.le_of_ble_eq_true c3
  simp only [Option.some.injEq] at hR; subst hR
  simp only [Option.bind_eq_some_iff] at hks
  obtain ⟨ps, hps, hks⟩ := hks
  unfold capAt at hps
  split at hps
  case h_2 => simp at hps
  rename_i m hm
  -- the values
  obtain ⟨v1, us, he, h1, h2⟩ := ha
  have h2 : us = [] := h2
  subst h2
  have hvs : vs = #[v1] := by apply Array.ext'; simpa using he
  subst hvs
  obtain ⟨fs, cs, rfl, hfs, hcs⟩ : ∃ fs cs : Array Value, v1 = .func (.func (ρ.f 10)) fs cs ∧ RVs w S β [] fs.toList ∧ RVs w S β [.ptr id 0] cs.toList := by simpa only [RV] using h1
  have hfs : fs = #[] := by apply Array.ext'; exact hfs
  subst hfs
  obtain ⟨pv, pvs, he2, hp1, hp2⟩ := hcs
  have hp2 : pvs = [] := hp2
  subst hp2
  have hcs : cs = #[pv] := by apply Array.ext'; simpa using he2
  subst hcs
  obtain rfl : pv = .pointer (some ⟨β.blk (.h id), 0, none⟩) := by simpa only [RV] using hp1
  -- the memory
  obtain ⟨u, m1, m2, _⟩ := cellI_ok h hm
  obtain rfl : u = .map (some (β.blk (.h m))) := by simpa only [RV] using m2
  have hbm : β.blk (.h id) < w.heap.size := by
    simp only [World.cell?] at m1
    cases hx : w.heap[β.blk (.h id)]? with
    | none => rw [hx] at m1; simp at m1
    | some o => exact (Array.getElem?_eq_some_iff.1 hx).1
  have hmm : mapOf (base hp).hp m = some ps := hps
  obtain ⟨⟨⟨E, clock, q1, q2, q3⟩, _⟩, _⟩ := h.1.obj _ _ (mapOf_get hmm)
  have hkeys := keys_rel q2 hks
  have hlen : E.size = ks.length := by
    have := congrArg List.length hkeys
    simpa using this
  have keyAt : ∀ x ∈ E.toList, ∃ n, x.key = .int .i64 n ∧ n ∈ ks := fun x hx => by
    have : x.key ∈ E.toList.map (·.key) := List.mem_map_of_mem hx
    rw [hkeys] at this
    obtain ⟨n, hn, e⟩ := List.mem_map.1 this
    exact ⟨n, e.symm, hn⟩
  have ku := F.l10.t26
  let RR : Value → Option (DataW Unit × List MemPlace) := fun _ => some (.nil, [])
  have hkey : ∀ x ∈ E.toList, ∃ n, x.key = .int .i64 n ∧ WideElems.rd P (ρ.t 26) RR x = some (.int .i64 n, .nil) := fun x hx => by
    obtain ⟨n, e, hn⟩ := keyAt x hx
    refine ⟨n, e, ?_⟩
    have : keyOf P (ρ.t 26) x.key = some (.int .i64 n) := by simp [keyOf, mapKey, ku, e, c2 n hn]
    simp [WideElems.rd, this, RR]
  have hnd : E.toList.Pairwise (fun x y => x.key ≠ y.key) := by
    have : (E.toList.map (·.key)).Pairwise (· ≠ ·) := by
      rw [hkeys]
      exact List.pairwise_map.2 (c1.imp (fun hne e => hne (by simpa using e)))
    exact List.pairwise_map.1 this
  have hstamp : MapKept.Stamped E clock := (MapKept.stamped_iff E clock).2 ⟨q3.1, List.pairwise_map.2 q3.2, hnd⟩
  have hmax : maxN ≤ maxLen := by decide
  have hfit : WideElems.Fit P (ρ.t 26) RR E clock := ⟨by omega, hstamp, fun x hx => by obtain ⟨n, _, e⟩ := hkey x hx; exact ⟨_, e⟩⟩
  have hown : w.ownsMap P (ρ.t 26) RR (β.blk (.h m)) ks.length (.map ((E.toList.map (WideElems.rg P (ρ.t 26) RR)).foldr DataW.insert [])) := ⟨E, clock, q1, hfit, by omega, rfl⟩
  have hperm : (intKeys (.map ((E.toList.map (WideElems.rg P (ρ.t 26) RR)).foldr DataW.insert []))).Perm ks := by
    show (((E.toList.map (WideElems.rg P (ρ.t 26) RR)).foldr DataW.insert []).map fun p => intOf p.1).Perm ks
    refine ((Go.WideShapes.sorted_perm _).map _).trans ?_
    rw [List.map_map]
    have : E.toList.map ((fun p : Lit × DataW Unit => intOf p.1) ∘ WideElems.rg P (ρ.t 26) RR) = ks := by
      have e1 : ∀ x ∈ E.toList, ((fun p : Lit × DataW Unit => intOf p.1) ∘ WideElems.rg P (ρ.t 26) RR) x = AE.natKey x.key := fun x hx => by
        obtain ⟨n, e, hr⟩ := hkey x hx
        simp [WideElems.rg, hr, intOf, e, natKey]
      rw [List.map_congr_left e1]
      have : (E.toList.map (·.key)).map natKey = ks := by rw [hkeys, List.map_map]; simp [natKey, Function.comp_def]
      rw [List.map_map] at this
      exact this
    rw [this]
  have hsize : Maps.size (.map ((E.toList.map (WideElems.rg P (ρ.t 26) RR)).foldr DataW.insert []) : DataW Unit) ≤ maxN := by
    have := hown.size_le
    omega
  have hseq := AnyZI.keys_gives F.l10 Fence.wide 2 trivial rfl (by omega) (β.blk (.h id)) (β.blk (.h m)) ks.length _ w hbm m1 hown
  have cS := AnyZI.sorted_in F.l6 Fence.wide 5 trivial trivial trivial trivial rfl (by omega) (F.srt _) F.e9 (ρ.f 10) #[.pointer (some ⟨β.blk (.h id), 0, none⟩)] trivial F.e10 _ _ (by omega) (by unfold maxN at hsize; omega) w hseq
  have cS := (callsIn_wide (n := 5)).1 cS
  obtain ⟨nm, hn, hf6⟩ := F.l6.f6
  refine .inr ⟨enters_of hf6 hn rfl _ _, cS.mono ?_⟩
  rintro e w' ⟨v, ss, rfl, hS, hrow, _, hb⟩
  have hss : ss.mergeSort (fun x y => decide (x ≤ y)) = sortOrd ks := mergeSort_ord (hS.trans hperm)
  rw [hss] at hrow
  have hl2 : ss.length = (sortOrd ks).length := by
    rw [(sortOrd_perm ks).length_eq]; exact (hS.trans hperm).length_eq
  refine own_back h hb F.nz F.sz (us := (sortOrd ks).map encZ) ?_ ?_ ?_
  · rw [List.length_map, ← hl2]; exact hrow
  · refine ⟨by simp, fun i x u hx hu => ?_⟩
    rw [List.getElem?_map, Option.map_eq_some_iff] at hx hu
    obtain ⟨n, hn, rfl⟩ := hx
    obtain ⟨n', hn', rfl⟩ := hu
    rw [hn] at hn'; cases hn'
    exact ⟨rfl, fun _ _ _ => by simp only [RV]⟩
  · intro n
    rw [lts_iff]
    intro d hd
    obtain ⟨x, _, rfl⟩ := List.mem_map.1 hd
    simp [D.lt]
end
end
end Go.AE

/- AE: primitives: calls one behind another, each over the heap that the one before left. -/
namespace Go.AE
noncomputable section

section
variable {P : Program} {w w' : World} {S S' : Fixed} {β β' : Emb} {hp hp' : Hp}

/-- A heap, behind some calls. -/
structure Behind (P : Program) (hp : Hp) (w : World) (S : Fixed) (β : Emb) (hp' : Hp) (w' : World) (S' : Fixed) (β' : Emb) : Prop where
  rel : HpRel hp hp'
  hr : HR P hp' w' S' β'
  fr : Fr (base hp) w S β (base hp') w' S' β'

theorem Behind.start (h : HR P hp w S β) : Behind P hp w S β (clean hp) w S β :=
  ⟨HpRel.clean h.2, HR.objs (hp := hp) (hp' := clean hp) rfl h, Fr.objs (hp := hp) (hp' := clean hp) rfl (Fr.refl _ _ _ _)⟩

theorem Behind.step {j : Hp} (A : Behind P hp w S β j w' S' β') {R : Res} {v : Value} {w2 : World} (B : Back P j w' S' β' R v w2) : ∃ S2 β2, Behind P hp w S β (joinHp j R.hp) w2 S2 β2 ∧ RR P j w' β' R.hp w2 S2 β2 R.r v := by
  obtain ⟨b1, S2, β2, b2, b3, b4⟩ := B
  refine ⟨S2, β2, ⟨HStep.join b1 hp A.rel, ?_, ?_⟩, b4⟩
  · exact HR.objs (hp := R.hp) (hp' := joinHp j R.hp) rfl b2
  · exact A.fr.trans (Fr.objs (hp := R.hp) (hp' := joinHp j R.hp) rfl b3)

theorem Behind.unit {j j' : Hp} (A : Behind P hp w S β j w' S' β') {r : Option Res} (hr : unitR j r = some j') {v : Value} {w2 : World} (B : ∀ R, r = some R → Back P j w' S' β' R v w2) : ∃ S2 β2, Behind P hp w S β j' w2 S2 β2 ∧ v = .tuple #[] := by
  unfold unitR at hr
  split at hr
  case h_2 => simp at hr
  rename_i hp1
  simp only [Option.some.injEq] at hr; subst hr
  obtain ⟨S2, β2, k1, k2⟩ := A.step (B _ rfl)
  obtain ⟨us, rfl, hus⟩ : ∃ us : Array Value, v = .tuple us ∧ RVs w2 S2 β2 [] us.toList := by simpa only [RV] using k2.1
  have hus : us = #[] := by apply Array.ext'; exact hus
  subst hus
  exact ⟨S2, β2, k1, rfl⟩

theorem Behind.false {j j' : Hp} (A : Behind P hp w S β j w' S' β') {r : Option Res} (hr : falseR j r = some j') {v : Value} {w2 : World} (B : ∀ R, r = some R → Back P j w' S' β' R v w2) : ∃ S2 β2, Behind P hp w S β j' w2 S2 β2 ∧ v = .bool false := by
  unfold falseR at hr
  split at hr
  case h_2 => simp at hr
  rename_i hp1
  simp only [Option.some.injEq] at hr; subst hr
  obtain ⟨S2, β2, k1, k2⟩ := A.step (B _ rfl)
  exact ⟨S2, β2, k1, by simpa only [RV] using k2.1⟩

theorem unitR_some {j j' : Hp} {r : Option Res} (h : unitR j r = some j') : ∃ R, r = some R := by
  unfold unitR at h; split at h
  · exact ⟨_, rfl⟩
  · simp at h
theorem falseR_some {j j' : Hp} {r : Option Res} (h : falseR j r = some j') : ∃ R, r = some R := by
  unfold falseR at h; split at h
  · exact ⟨_, rfl⟩
  · simp at h

/-- A call of a function with a text. -/
theorem callsOf {call : CallF} (hC : CallOK P call) {f : FuncId} (hf : hasBody P f = true) {args : List D} {R : Res} (hr : call f args hp = some R) (h : HR P hp w S β) {vs : Array Value} (ha : RVs w S β args vs.toList) (hl : D.lts hp.objs.length args) :
    (callFunc f vs).run P w = .ok (.enter f vs) w ∧ Calls P f vs w fun e w' => ∃ v, e = .returned v ∧ Back P hp w S β R v w' := by
  have key : (callFunc f vs).run P w = .ok (.enter f vs) w := by
    unfold hasBody at hf
    split at hf
    · rename_i fn hfn
      simp only [Bool.and_eq_true, Bool.not_eq_true', decide_eq_false_iff_not] at hf
      obtain ⟨b, hb⟩ := Option.isSome_iff_exists.1 hf.1
      exact run_callFunc hfn hb hf.2 vs w
    · simp at hf
  rcases hC f args hp R hr w S β vs h ha hl with ⟨v, w', h1, _⟩ | ⟨h1, h2⟩
  · rw [key] at h1; simp at h1
  · refine ⟨key, h2.mono fun e w' he => ?_⟩
    cases e with
    | returned v => exact ⟨v, rfl, he⟩
    | panicked _ => exact he.elim
    | outgrown => exact he.elim

/-- A deferred call. -/
theorem deferredOf {c0 : Cfg} {loops : Nat} {call : CallF} (hm : c0.P.follows .mixedOrders = true) (hP : WFP c0.P) (hF : WFF c0 (drawOk c0)) (hC : CallOK c0.P call) {f : FuncId} {args : List D} {R : Res} (hr : enterB c0 loops call f args hp = some R) (h : HR c0.P hp w S β) {vs : Array Value} (ha : RVs w S β args vs.toList) (hl : D.lts hp.objs.length args) (u : FrameMode) :
    (callFunc f vs).run c0.P w = .ok (.enter f vs) w ∧ CallsD c0.P f vs u w fun e u' w' => u' = u ∧ ∃ v, e = .returned v ∧ Back c0.P hp w S β R v w' := by
  unfold enterB at hr
  split at hr
  case h_2 => simp at hr
  rename_i fn hfn
  split at hr
  case h_2 => simp at hr
  rename_i b hb
  have hwp := enter_wp hP hF (fun _ hC f hp0 N => drawOK (f := f) (hp0 := hp0) (N := N) hP hC hm) hC hfn hb hr h ha hl
  refine ⟨run_callFunc hfn hb (hF.name f fn b hfn hb) vs w, (callsD_of_wp hfn hb hwp).mono ?_⟩
  rintro e u' w' ⟨rfl, he⟩
  refine ⟨rfl, ?_⟩
  cases e with
  | returned v => exact ⟨v, rfl, he⟩
  | panicked _ => exact he.elim
  | outgrown => exact he.elim
end
end
end Go.AE

/- (*sync.Once).doSlow at this program. -/
namespace Go.Proofs.AeT
open Go Go.AE Go.Proofs
noncomputable section

set_option maxRecDepth 100000 in
set_option maxHeartbeats 1600000 in
theorem slow_ok {c0 : Cfg} (hc : c0.P = Tryz.prog) {loops : Nat} {call : CallF} (hm : c0.P.follows .mixedOrders = true) (hP : WFP c0.P) (hF : WFF c0 (drawOk c0)) (hC : CallOK c0.P call) {args : List D} {hp : Hp} {R : Res} (hr : slowRun c0 loops 336 322 338 337 call args hp = some R)
    {w : World} {S : Fixed} {β : Emb} (h : HR c0.P hp w S β) {vs : Array Value} (ha : RVs w S β args vs.toList) (hl : D.lts hp.objs.length args) : CallsBack c0.P 323 vs w (Back c0.P hp w S β R) := by
  unfold slowRun at hr
  split at hr
  case h_2 => simp at hr
  rename_i id off g first caps
  split at hr
  case isFalse => simp at hr
  rename_i hg
  split at hr
  case h_2 => simp at hr
  rename_i j1 e1
  split at hr
  case h_2 => simp at hr
  rename_i j2 e2
  split at hr
  case h_2 => simp at hr
  rename_i j3 e3
  split at hr
  case h_2 => simp at hr
  rename_i j4 e4
  split at hr
  case h_2 => simp at hr
  rename_i j5 e5
  simp only [Option.some.injEq] at hr; subst hr
  obtain ⟨R1, q1⟩ := unitR_some e1
  obtain ⟨R2, q2⟩ := falseR_some e2
  obtain ⟨R3, q3⟩ := unitR_some e3
  obtain ⟨R4, q4⟩ := unitR_some e4
  obtain ⟨R5, q5⟩ := unitR_some e5
  -- the values
  obtain ⟨v1, us, he, h1, v2, us2, rfl, h2, h3⟩ := ha
  have h3 : us2 = [] := h3
  subst h3
  have hvs : vs = #[v1, v2] := by apply Array.ext'; simpa using he
  subst hvs
  obtain rfl : v1 = .pointer (some ⟨β.blk (.h id), off, none⟩) := by simpa only [RV] using h1
  obtain ⟨fs, cs, rfl, hfs, hcs⟩ : ∃ fs cs : Array Value, v2 = .func (.func g) fs cs ∧ RVs w S β first fs.toList ∧ RVs w S β caps cs.toList := by simpa only [RV] using h2
  have hid : id < hp.objs.length := hl.1
  have hlf : D.lts hp.objs.length first ∧ D.lts hp.objs.length caps := hl.2.1
  have rvp : ∀ {w : World} {S : Fixed} {β : Emb} {o : Nat}, RVs w S β [.ptr id o] [.pointer (some ⟨β.blk (.h id), o, none⟩)] := ⟨_, _, rfl, by simp only [RV], rfl⟩
  have A0 := Behind.start h
  have bl : ∀ {j w' S' β'}, Behind c0.P hp w S β j w' S' β' → β'.blk (.h id) = β.blk (.h id) := fun A => (A.fr.sameH id hid).1
  have ll : ∀ {j w' S' β'}, Behind c0.P hp w S β j w' S' β' → hp.objs.length ≤ j.objs.length := fun A => A.rel.len
  have lp : ∀ {j w' S' β' o}, Behind c0.P hp w S β j w' S' β' → D.lts j.objs.length [.ptr id o] := fun A => ⟨Nat.lt_of_lt_of_le hid (ll A), trivial⟩
  obtain ⟨n1, c1⟩ := callsOf hC (f := 336) (by rw [hc]; kernel_rfl) q1 A0.hr (vs := #[.pointer (some ⟨β.blk (.h id), off + 1, none⟩)]) rvp (lp A0)
  refine .inr ⟨by rw [hc]; exact run_callFunc Tryz.func323 rfl (by decide) _ _, ?_⟩
  suffices hs : Calls c0.P 323 #[.pointer (some ⟨β.blk (.h id), off, none⟩), .func (.func g) fs cs] w (fun e w' => ∃ v, e = .returned v ∧ Back c0.P hp w S β ⟨.tup [], j5⟩ v w') from hs.mono fun e w' ⟨v, he, hb⟩ => by subst he; exact hb
  have rvb : ∀ {j w' S' β' o}, Behind c0.P hp w S β j w' S' β' → RVs w' S' β' [.ptr id o] [.pointer (some ⟨β.blk (.h id), o, none⟩)] := fun A => ⟨_, _, rfl, by simp only [RV]; rw [bl A], rfl⟩
  have hnot : ∀ (x : Bool) (w : World), (Op.unary .not (.bool x)).run Tryz.prog w = .ok (.bool (!x)) w := fun _ _ => rfl
  rw [hc] at n1 c1 ⊢
  go_enter_defers Tryz.func323, Tryz.ntmps323
  go_wp2_with (go_at_call 336; refine c1.mono ?_; rintro e w1 ⟨v1, rfl, b1⟩)
  rw [← hc] at b1
  obtain ⟨S1, β1, A1, rfl⟩ := A0.unit e1 (fun R hR => by rw [q1] at hR; cases hR; exact b1)
  obtain ⟨n2, c2⟩ := callsOf hC (f := 322) (by rw [hc]; kernel_rfl) q2 A1.hr (vs := #[.pointer (some ⟨β.blk (.h id), off, none⟩)]) (rvb A1) (lp A1)
  rw [hc] at n2 c2
  refine c2.mono ?_
  rintro e w2 ⟨v2, rfl, b2⟩
  rw [← hc] at b2
  obtain ⟨S2, β2, A2, rfl⟩ := A1.false e2 (fun R hR => by rw [q2] at hR; cases hR; exact b2)
  have hfl : D.lts j2.objs.length (first ++ caps) := by
    rw [lts_iff]
    intro d hd
    have h1 := fun d hd => D.lt.mono (ll A2) d (lts_iff.1 hlf.1 d hd)
    have h2 := fun d hd => D.lt.mono (ll A2) d (lts_iff.1 hlf.2 d hd)
    rcases List.mem_append.1 hd with hd | hd
    · exact h1 d hd
    · exact h2 d hd
  have hfv : RVs w2 S2 β2 (first ++ caps) (fs ++ cs).toList := by
    have k1 := RVs.keep A2.fr.keep A2.fr.sameH _ _ hlf.1 hfs
    have k2 := RVs.keep A2.fr.keep A2.fr.sameH _ _ hlf.2 hcs
    simpa using RVs_append k1 k2
  obtain ⟨n3, c3⟩ := callsOf hC (f := g) hg q3 A2.hr (vs := fs ++ cs) hfv hfl
  rw [hc] at n3 c3
  have H3 : Go.RowKit.Hid (Calls Tryz.prog g (fs ++ cs) w2 fun e w' => ∃ v, e = .returned v ∧ Back Tryz.prog j2 w2 S2 β2 R3 v w') := c3
  have H8 : Go.RowKit.Hid ((callFunc g (fs ++ cs)).run Tryz.prog w2 = .ok (.enter g (fs ++ cs)) w2) := n3
  clear c3 c1 c2 n1 n2 n3
  have H1 : Go.RowKit.Hid (unitR j2 (call g (first ++ caps) j2) = some j3) := e3
  have H4 : Go.RowKit.Hid (unitR j3 (enterB c0 loops call 338 [D.ptr id off, D.bool true] j3) = some j4) := e4
  have H5 : Go.RowKit.Hid (unitR j4 (enterB c0 loops call 337 [D.ptr id (off + 1)] j4) = some j5) := e5
  have H6 : Go.RowKit.Hid (call g (first ++ caps) j2 = some R3 ∧ enterB c0 loops call 338 [D.ptr id off, D.bool true] j3 = some R4 ∧ enterB c0 loops call 337 [D.ptr id (off + 1)] j4 = some R5) := ⟨q3, q4, q5⟩
  have H7 : Go.RowKit.Hid (c0.P = Tryz.prog) := hc
  clear e1 e2 e3 e4 e5 q1 q2 q3 q4 q5 hc b1 b2 hfl hfv
  go_wp2
  rw [H8.out]
  refine Calls.mono H3.out ?_
  rintro e w3 ⟨v3, rfl, b3⟩
  have hc := H7.out
  obtain ⟨q3, q4, q5⟩ := H6.out
  rw [← hc] at b3
  obtain ⟨S3, β3, A3, rfl⟩ := A2.unit H1.out (fun R hR => by rw [q3] at hR; cases hR; exact b3)
  go_wp2
  -- the deferred calls
  have d4 := deferredOf hm hP hF hC q4 A3.hr (vs := #[.pointer (some ⟨β.blk (.h id), off, none⟩), .bool true]) ⟨_, _, rfl, by simp only [RV]; rw [bl A3], _, _, rfl, by simp only [RV], rfl⟩ ⟨Nat.lt_of_lt_of_le hid (ll A3), trivial, trivial⟩ .returning
  rw [hc] at d4
  refine leaves_cons (f := 338) (by simp) d4.1 ?_
  refine d4.2.mono ?_
  rintro e u' w4 ⟨rfl, v4, rfl, b4⟩
  rw [← hc] at b4
  obtain ⟨S4, β4, A4, rfl⟩ := A3.unit H4.out (fun R hR => by rw [q4] at hR; cases hR; exact b4)
  have d5 := deferredOf hm hP hF hC q5 A4.hr (vs := #[.pointer (some ⟨β.blk (.h id), off + 1, none⟩)]) (rvb A4) (lp A4) (settle .returning)
  rw [hc] at d5
  refine leaves_cons (f := 337) (by simp [settle]) d5.1 ?_
  refine d5.2.mono ?_
  rintro e u' w5 ⟨rfl, v5, rfl, b5⟩
  rw [← hc] at b5
  obtain ⟨S5, β5, A5, rfl⟩ := A4.unit H5.out (fun R hR => by rw [q5] at hR; cases hR; exact b5)
  have last : Back Tryz.prog hp w S β { r := D.tup [], hp := j5 } (.tuple #[]) w5 := by
    rw [← hc]
    refine ⟨A5.rel, S5, β5, A5.hr, A5.fr, ?_, ?_⟩
    · simp only [RV, RVs]; exact ⟨_, rfl, rfl⟩
    · simp [D.lt, D.lts]
  simp [Leaves, settle, results, Tryz.results323, last]
end
end Go.Proofs.AeT

/- AE: primitives: a row of bytes becomes a string; slices.Clone of an empty slice. -/
namespace Go.AE
noncomputable section
open Go.RowKit

section
variable {P : Program} {w w' : World} {S : Fixed} {β : Emb} {hp : Hp}

theorem freeze_cell (w : World) (a p : Addr) (n : Nat) : (w.freeze a n).cell? p = w.cell? p := by
  unfold World.freeze
  split
  · rfl
  · simp only [World.cell?, Array.getElem?_modify]
    by_cases he : a.block = p.block
    · rw [if_pos he]
      cases w.heap[p.block]? with
      | none => rfl
      | some o => cases o <;> rfl
    · rw [if_neg he]
theorem freeze_other (w : World) (a : Addr) (n : Nat) {b : Nat} (h : b ≠ a.block) : (w.freeze a n).heap[b]? = w.heap[b]? := by
  unfold World.freeze
  split
  · rfl
  · simp only [Array.getElem?_modify]
    rw [if_neg (Ne.symm h)]
theorem freeze_here (w : World) (a : Addr) {n : Nat} (hn : n ≠ 0) {C : Array Value} {T : TypeId} {z : Nat × Nat} (h : w.heap[a.block]? = some (.cells C T z)) :
    (w.freeze a n).heap[a.block]? = some (.cells C T (if z.1 == z.2 then (a.off, a.off + n) else (min z.1 a.off, max z.2 (a.off + n)))) := by
  unfold World.freeze
  rw [if_neg hn]
  simp only [Array.getElem?_modify, if_true, h]
  rfl
theorem freeze_rest (w : World) (a : Addr) (n : Nat) : (w.freeze a n).heap.size = w.heap.size ∧ (w.freeze a n).os = w.os ∧ (w.freeze a n).tape = w.tape ∧ (w.freeze a n).output = w.output := by
  unfold World.freeze
  split
  · exact ⟨rfl, rfl, rfl, rfl⟩
  · exact ⟨by simp, rfl, rfl, rfl⟩

/-- A row of the heap is data from now on. -/
theorem HR.freeze (h : HR P hp w S β) {i : Nat} {T : TypeId} {xs : List D} {z : Bool} (hg : getH hp i = some ⟨.row T xs, z⟩) (hrow : RowOk P w S β (.h i) T xs z) (hne : xs.length * β.esz (.h i) ≠ 0) :
    ∃ S', HR P (setHp (clean hp) i (some ⟨.row T xs, true⟩) true) (w.drew.freeze ⟨β.blk (.h i), 0, none⟩ (xs.length * β.esz (.h i))) S' β ∧
      Fr (base hp) w S β (base (setHp (clean hp) i (some ⟨.row T xs, true⟩) true)) (w.drew.freeze ⟨β.blk (.h i), 0, none⟩ (xs.length * β.esz (.h i))) S' β ∧ HpRel hp (setHp (clean hp) i (some ⟨.row T xs, true⟩) true) := by
  generalize hn : xs.length * β.esz (.h i) = n at *
  obtain ⟨f1, f2, f3, f4⟩ := freeze_rest w.drew ⟨β.blk (.h i), 0, none⟩ n
  have hgc : getH (clean hp) i = some ⟨.row T xs, z⟩ := hg
  have hs : (getH (clean hp) i).isSome := by rw [hgc]; rfl
  have hget : get (base hp) (.h i) = some (.row T xs) := by show (getH hp i).map (·.o) = _; rw [hg]; rfl
  have hrel : HpRel hp (setHp (clean hp) i (some ⟨.row T xs, true⟩) true) :=
    HStep.set (clean hp) (fun x hx => by cases hx; exact trivial) hs (fun _ x hx y hy m hm => by cases hx; rw [hgc] at hy; cases hy; exact hm) hp (HpRel.clean h.2)
  have getO : ∀ j, getH (setHp (clean hp) i (some ⟨.row T xs, true⟩) true) j = if j = i then some ⟨.row T xs, true⟩ else getH hp j := fun j => getH_set _ _ _ _ _ hs
  have hlen : (setHp (clean hp) i (some ⟨.row T xs, true⟩) true).objs.length = hp.objs.length := by simp [setHp, clean, setNth_length]
  have hk : Keeps w S (w.drew.freeze ⟨β.blk (.h i), 0, none⟩ n) (fun b off => S b off ∨ (b = β.blk (.h i) ∧ off < n)) := fun b off hb => ⟨.inl hb, freeze_cell _ _ _ _⟩
  have hblk : β.blk (.h i) < w.heap.size := mem_lt h.1 hget hrow.cap
  have e0 : ∀ b : Nat, w.drew.heap[b]? = w.heap[b]? := fun _ => rfl
  refine ⟨fun b off => S b off ∨ (b = β.blk (.h i) ∧ off < n), ⟨?_, hrel.pure⟩, ?_, hrel⟩
  · refine h.1.change hk ?_ (Nat.le_of_eq hlen.symm) (fun _ => Nat.le_refl _) (SameH.refl _ _) (SameL.refl _ _) (fun r => r = .h i) ?_ ?_ ?_ (fun t => .inl ⟨rfl, rfl⟩) h.1.bound h.1.defers
    · rintro b off (hb | ⟨rfl, _⟩)
      · rw [f1]; exact h.1.inw b off hb
      · rw [f1]; exact hblk
    · intro r o hr hN
      cases r with
      | l j g => rw [get_base_l] at hr; simp at hr
      | h j =>
        have hji : j ≠ i := fun e => hN (by rw [e])
        have hr' : (getH (setHp (clean hp) i (some ⟨.row T xs, true⟩) true) j).map (·.o) = some o := hr
        rw [getO j, if_neg hji] at hr'
        have hr2 : get (base hp) (.h j) = some o := hr'
        refine ⟨hr2, ?_, fun m => ?_⟩
        · show ((getH (setHp (clean hp) i (some ⟨.row T xs, true⟩) true) j).map (·.fz)).getD true = ((getH hp j).map (·.fz)).getD true
          rw [getO j, if_neg hji]
        · have hb := h.1.sep _ _ _ _ hr2 hget (by simpa using hji) m hrow.cap
          refine ⟨fun x hx => by rw [freeze_other _ _ _ hb, e0]; exact hx, fun off => ⟨?_, .inl⟩⟩
          rintro (hs | ⟨he, _⟩)
          · exact hs
          · exact (hb he).elim
    · rintro r o hr rfl
      have hr' : (getH (setHp (clean hp) i (some ⟨.row T xs, true⟩) true) i).map (·.o) = some o := hr
      rw [getO i, if_pos rfl] at hr'
      cases hr'
      have hfz : frozen (base (setHp (clean hp) i (some ⟨.row T xs, true⟩) true)) (.h i) = true := by
        show ((getH (setHp (clean hp) i (some ⟨.row T xs, true⟩) true) i).map (·.fz)).getD true = true
        rw [getO i, if_pos rfl]; rfl
      rw [hfz]
      obtain ⟨hok, hlt⟩ := h.1.obj _ _ hget
      have hlt' : D.lts hp.objs.length xs := hlt
      refine ⟨⟨hok.1, .inr ⟨hrow.cap, hrow.esz, hrow.ty, hrow.fits, ?_, ?_, ?_, ?_⟩⟩, ?_⟩
      · obtain ⟨C, zz, m1, m2, m3, m4⟩ := hrow.mem
        have ho := hrow.org _ _ _ m1
        refine ⟨C, _, freeze_here w.drew ⟨β.blk (.h i), 0, none⟩ hne m1, m2, ?_, fun j x hx => (m4 j x hx).keep hk (SameH.refl hp.objs.length β) (lts_iff.1 hlt' x (List.mem_of_getElem? hx))⟩
        intro off h1 h2
        rw [if_pos rfl, hn] at h1
        have h3 := m3 off (by split <;> omega) h2
        split
        · simp only; omega
        · simp only
          rintro ⟨_, h5⟩
          have := Nat.lt_or_ge off zz.2
          omega
      · rintro off (hb | ⟨_, hb⟩)
        · exact ⟨rfl, (hrow.free off hb).2⟩
        · exact ⟨rfl, by rw [hn]; exact hb⟩
      · intro _ off hoff
        exact .inr ⟨rfl, by rw [← hn]; exact hoff⟩
      · obtain ⟨C, zz, m1, _⟩ := hrow.mem
        have ho := hrow.org _ _ _ m1
        intro C' T' z' h'
        rw [freeze_here w.drew ⟨β.blk (.h i), 0, none⟩ hne m1] at h'
        cases h'
        split
        · rfl
        · simp
      · show D.lts _ xs
        rw [size_base, hlen]; exact hlt'
    · rintro r r' o o' hr hr' hne' rfl hm hm'
      cases r' with
      | l j g => rw [get_base_l] at hr'; simp at hr'
      | h j =>
        have hji : j ≠ i := fun e => hne' (by rw [e])
        have hr2 : (getH (setHp (clean hp) i (some ⟨.row T xs, true⟩) true) j).map (·.o) = some o' := hr'
        rw [getO j, if_neg hji] at hr2
        have hr3 : get (base hp) (.h j) = some o' := hr2
        exact h.1.sep _ _ _ _ hget hr3 hne' hrow.cap hm'
  · refine ⟨Nat.le_of_eq f1.symm, hk, ?_, ?_, Nat.le_of_eq hlen.symm, SameH.refl _ _, ?_, f2, f3, f4⟩
    · rintro b off (hb | ⟨rfl, _⟩)
      · exact .inl hb
      · exact .inr (.inl ⟨_, _, hget, hrow.cap, rfl⟩)
    · intro b _ ho
      rw [freeze_other _ _ _ (fun e => ho ⟨_, _, hget, hrow.cap, e.symm⟩), e0]
    · rintro b ⟨r, o, hr, m, rfl⟩
      cases r with
      | l j g => rw [get_base_l] at hr; simp at hr
      | h j =>
        left
        by_cases hji : j = i
        · subst hji; exact ⟨_, _, hget, hrow.cap, rfl⟩
        · have hr' : (getH (setHp (clean hp) i (some ⟨.row T xs, true⟩) true) j).map (·.o) = some o := hr
          rw [getO j, if_neg hji] at hr'
          exact ⟨.h j, o, hr', m, rfl⟩

theorem bytes_rel : ∀ {xs : List D} {l : List UInt8}, bytesGo xs = some l → ∀ (j : Nat) x, l[j]? = some x → ∃ n, xs[j]? = some (.int .u8 n) ∧ x = UInt8.ofNat n.toNat
  | [], l, h, j, x, hx => by simp only [bytesGo, Option.some.injEq] at h; subst h; simp at hx
  | d :: r, l, h, j, x, hx => by
    unfold bytesGo at h
    split at h
    · rename_i heq; simp at heq
    · rename_i n r' heq
      cases heq
      simp only [Option.map_eq_some_iff] at h
      obtain ⟨l', h1, rfl⟩ := h
      cases j with
      | zero => simp at hx; exact ⟨n, rfl, hx.symm⟩
      | succ j => obtain ⟨m, k1, k2⟩ := bytes_rel h1 j x (by simpa using hx); exact ⟨m, by simpa using k1, k2⟩
    · simp at h
theorem bytes_length : ∀ {xs : List D} {l : List UInt8}, bytesGo xs = some l → l.length = xs.length
  | [], l, h => by simp only [bytesGo, Option.some.injEq] at h; subst h; rfl
  | d :: r, l, h => by
    unfold bytesGo at h
    split at h
    · rename_i heq; simp at heq
    · rename_i n r' heq
      cases heq
      simp only [Option.map_eq_some_iff] at h
      obtain ⟨l', h1, rfl⟩ := h
      simp [bytes_length h1]
    · simp at h
end
end
end Go.AE

/- (*strings.Builder).String at this program. -/
namespace Go.Proofs.AeT
open Go Go.AE Go.Proofs
noncomputable section

set_option maxHeartbeats 1000000 in
set_option maxRecDepth 100000 in
theorem string_calls (b off g cap : Nat) (cur : Array Value) (z : Nat × Nat) (l : List UInt8) (w : World) (hc : w.cell? ⟨b, off + 1, none⟩ = some (.slice (some ⟨g, 0, none⟩) l.length cap)) (hcap : cap ≠ 0) (hg : w.heap[g]? = some (.cells cur 5 z)) (h0 : l ≠ []) (hn : l.length ≤ cur.size) (h63 : l.length ≤ 9223372036854775807)
    (hcell : ∀ j x, l[j]? = some x → w.cell? ((⟨g, 0, none⟩ : Addr).add j) = some (.int .u8 x.toNat)) :
    Calls Tryz.prog 240 #[.pointer (some ⟨b, off, none⟩)] w fun e w' => e = .returned (.string ⟨l.toArray⟩) ∧ w' = w.drew.freeze ⟨g, 0, none⟩ l.length := by
  have c1 : w.drew.cell? ⟨b, off + 1, none⟩ = some (.slice (some ⟨g, 0, none⟩) l.length cap) := hc
  have hSD : (Builtin.unsafeSliceData_ #[339] 377 #[.slice (some ⟨g, 0, none⟩) l.length cap]).run Tryz.prog w.drew = .ok (.pointer (some ⟨g, 0, none⟩)) w.drew := Lib.run_unsafeSliceData_row _ _ _ _ _ _ hcap
  have hUS : (Builtin.unsafeString_ #[377, 3] 9 #[.pointer (some ⟨g, 0, none⟩), .int .i64 l.length]).run Tryz.prog w.drew = .ok (.string ⟨l.toArray⟩) (w.drew.freeze ⟨g, 0, none⟩ l.length) := by
    refine Lib.run_unsafeString_row w.drew 377 3 9 5 Tryz.underlying377 (by kernel_rfl) g cur.size (by have hg' : w.drew.heap[g]? = some (.cells cur 5 z) := hg; simp [World.shape?, hg']) l h0 hn h63 hcell
  have mixed : Tryz.prog.follows .mixedOrders = true := by kernel_rfl
  clear hc hcap hcell
  go_enter Tryz.func240, Tryz.ntmps240
  go_wp2
  go_region_o
  all_goals (go_wp2; go_ret; exact ⟨rfl, rfl⟩)

theorem strRun_ok {args : List D} {hp : Hp} {R : Res} (hR : strRun 5 args hp = some R) {w : World} {S : Fixed} {β : Emb} (h : HR Tryz.prog hp w S β) {vs : Array Value} (ha : RVs w S β args vs.toList) : CallsBack Tryz.prog 240 vs w (Back Tryz.prog hp w S β R) := by
  unfold strRun at hR
  split at hR
  case h_2 => simp at hR
  rename_i id off
  split at hR
  case h_2 => simp at hR
  rename_i i hci
  split at hR
  case h_2 => simp at hR
  rename_i U xs z hg
  split at hR
  case isFalse => simp at hR
  rename_i hU; subst hU
  split at hR
  · simp at hR
  rename_i x r
  split at hR
  case isFalse => simp at hR
  rename_i hin
  simp only [Option.map_eq_some_iff] at hR
  obtain ⟨b, hb, rfl⟩ := hR
  simp only [bytesOf, Option.map_eq_some_iff] at hb
  obtain ⟨l, hl, rfl⟩ := hb
  simp only [Bool.and_eq_true] at hin
  obtain ⟨hin0, hin1, hin2⟩ := hin
  have hin2 : r.length + 1 ≤ maxN := Nat.le_of_ble_eq_true hin2
  have hinb : ∀ d ∈ x :: r, inByte d = true := fun d hd => by
    rcases List.mem_cons.1 hd with rfl | hd
    · exact hin0
    · exact List.all_eq_true.1 hin1 d hd
  -- the values
  obtain ⟨v1, us, he, h1, h2⟩ := ha
  have h2 : us = [] := h2
  subst h2
  have hvs : vs = #[v1] := by apply Array.ext'; simpa using he
  subst hvs
  obtain rfl : v1 = .pointer (some ⟨β.blk (.h id), off, none⟩) := by simpa only [RV] using h1
  obtain ⟨u, m1, m2, _⟩ := cellI_ok h hci
  obtain ⟨a, rfl, ha⟩ : ∃ a, u = .slice a (β.len (.h i)) (β.cap (.h i)) ∧ (0 < β.cap (.h i) → a = some ⟨β.blk (.h i), 0, none⟩) := by simpa only [RV] using m2
  have hget : get (base hp) (.h i) = some (.row 5 (x :: r)) := by show (getH hp i).map (·.o) = _; rw [hg]; rfl
  obtain ⟨⟨hlen, hrow⟩, hlt⟩ := h.1.obj _ _ hget
  have hfz : AE.frozen (base hp) (.h i) = z := by show ((getH hp i).map (·.fz)).getD true = z; rw [hg]; rfl
  rw [hfz] at hrow
  have hrow : RowOk Tryz.prog w S β (.h i) 5 (x :: r) z := by
    rcases hrow with ⟨_, h0⟩ | h0
    · simp at h0
    · exact h0
  have hesz : β.esz (.h i) = 1 := hrow.ty.trans (by kernel_rfl)
  obtain rfl := ha hrow.cap
  have hll := bytes_length hl
  obtain ⟨C, zz, k1, k2, k3, k4⟩ := hrow.mem
  have hfit := hrow.fits
  have hn : (x :: r).length * β.esz (.h i) = l.length := by rw [hesz, hll]; omega
  have hne : (x :: r).length * β.esz (.h i) ≠ 0 := by rw [hesz]; simp
  rw [hlen, ← hll] at m1
  have hcs := string_calls (β.blk (.h id)) off (β.blk (.h i)) (β.cap (.h i)) C zz l w m1 (Nat.ne_of_gt hrow.cap) k1 (by intro e; rw [e] at hll; simp at hll) (by rw [hll, k2, hesz]; omega) (by rw [hll]; simp only [List.length_cons]; unfold maxN at hin2; omega) ?_
  · refine .inr ⟨run_callFunc Tryz.func240 rfl (by decide) _ _, hcs.mono ?_⟩
    rintro e w' ⟨rfl, rfl⟩
    obtain ⟨S', q1, q2, q3⟩ := h.freeze hg hrow hne
    rw [hn] at q1 q2
    refine ⟨q3, S', β, q1, q2, ?_, ?_⟩
    · simp only [RV]
    · simp [D.lt]
  · intro j y hy
    obtain ⟨n, hxj, rfl⟩ := bytes_rel hl j y hy
    obtain ⟨us, v, g1, g2, g3, g4⟩ := k4 j _ hxj
    rw [hesz] at g1 g2
    obtain rfl : v = .int .u8 n := by simpa only [RV] using g4
    obtain rfl : us = [.int .u8 n] := g3
    have hC := g2 0 _ rfl
    have hb := hinb _ (List.mem_of_getElem? hxj)
    simp only [inByte, Bool.and_eq_true, decide_eq_true_eq] at hb
    have hbn : ((UInt8.ofNat n.toNat).toNat : Int) = n := by
      rw [UInt8.toNat_ofNat']
      omega
    simp only [Nat.mul_one, Nat.add_zero] at hC
    rw [hbn]
    have ej : (⟨β.blk (.h i), 0, none⟩ : Addr).add j = ⟨β.blk (.h i), j, none⟩ := by
      unfold Addr.add
      split
      · rename_i h0; rw [h0]
      · simp
    rw [ej]
    simp only [World.cell?, k1]
    simpa using hC
end
end Go.Proofs.AeT
