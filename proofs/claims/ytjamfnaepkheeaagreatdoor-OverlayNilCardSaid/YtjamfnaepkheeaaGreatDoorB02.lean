/- Part 2 of the proof: OverlayNil returns true at every operation and leaves its argument as it was (the tied card, no condition). -/
import Derived.Test.YtjamfnaepkheeaaGreatDoorB01
import Derived.Tactics
import Derived.LoopN
import Derived.Scope

/- AE: calls: the contract; the caller's state behind a call. -/
namespace Go.AE

/-- A state of the heap alone. -/
def base (hp : Hp) : St := { env := fun _ => .d .undef, loc := fun _ => ⟨0, none⟩, fz := fun _ => true, hp := hp }
def act0 : Act := ⟨#[], []⟩

/-- A heap belongs to a world. -/
def HR (P : Program) (hp : Hp) (w : World) (S : Fixed) (β : Emb) : Prop := SR P (base hp) act0 w S β ∧ HpPure hp

/-- A row that is handed over. -/
def OwnOk (P : Program) (hp : Hp) (w0 : World) (β0 : Emb) (hp' : Hp) (w : World) (S : Fixed) (β : Emb) (T : TypeId) (xs : List D) (v : Value) : Prop :=
  ∃ b cap esz a, v = .slice a xs.length cap ∧ (0 < cap → a = some ⟨b, 0, none⟩) ∧ (if T = 0 then cap = 0 ∧ xs = [] else ObOk P w S (β.add (.l 0 1) b cap esz xs.length) (.l 0 1) (.row T xs) false) ∧
    D.lts hp'.objs.length xs ∧ (0 < cap → (Owned (base hp) β0 b ∨ w0.heap.size ≤ b) ∧ ¬ Owned (base hp') β b)

/-- What comes back. -/
def RR (P : Program) (hp : Hp) (w0 : World) (β0 : Emb) (hp' : Hp) (w : World) (S : Fixed) (β : Emb) (r : D) (v : Value) : Prop :=
  match r with
  | .own T xs => OwnOk P hp w0 β0 hp' w S β T xs v
  | d => RV w S β d v ∧ d.lt hp'.objs.length

def Back (P : Program) (hp : Hp) (w : World) (S : Fixed) (β : Emb) (R : Res) (v : Value) (w' : World) : Prop :=
  HpRel hp R.hp ∧ ∃ S' β', HR P R.hp w' S' β' ∧ Fr (base hp) w S β (base R.hp) w' S' β' ∧ RR P hp w β R.hp w' S' β' R.r v

/-- What a call is to do. -/
def CallsBack (P : Program) (f : FuncId) (vs : Array Value) (w : World) (B : Value → World → Prop) : Prop :=
  (∃ v w', (callFunc f vs).run P w = .ok (.value v) w' ∧ B v w') ∨
  ((callFunc f vs).run P w = .ok (.enter f vs) w ∧ Calls P f vs w fun | .returned v, w' => B v w' | _, _ => False)

theorem CallsBack.fact {P : Program} {f : FuncId} {vs : Array Value} {w : World} {B : Value → World → Prop} (h : CallsBack P f vs w B) : ∃ v w', B v w' := by
  rcases h with ⟨v, w', _, h⟩ | ⟨_, h⟩
  · exact ⟨v, w', h⟩
  · obtain ⟨e, w', _, hR, _⟩ := h []
    cases e with
    | returned v => exact ⟨v, w', hR⟩
    | panicked _ => exact hR.elim
    | outgrown => exact hR.elim

def CallOK (P : Program) (call : CallF) : Prop :=
  ∀ f args hp R, call f args hp = some R → ∀ w S β (vs : Array Value), HR P hp w S β → RVs w S β args vs.toList → D.lts hp.objs.length args → CallsBack P f vs w (Back P hp w S β R)

section
variable {P : Program} {σ σ' : St} {a : Act} {w w' : World} {S S' : Fixed} {β β' : Emb}

theorem get_base (hp : Hp) (i : Nat) : get (base hp) (.h i) = get { σ with hp := hp } (.h i) := rfl
theorem get_base_l (hp : Hp) (i g : Nat) : get (base hp) (.l i g) = none := by
  simp only [get, getL, base]
  cases Nat.beq 0 g <;> rfl

theorem owned_base {hp : Hp} {b : Nat} (h : Owned (base hp) β b) : ∃ i o, get (base hp) (.h i) = some o ∧ HasMem β (.h i) o ∧ β.blk (.h i) = b := by
  obtain ⟨r, o, hr, hm, hb⟩ := h
  cases r with
  | l i g => rw [get_base_l] at hr; simp at hr
  | h i => exact ⟨i, o, hr, hm, hb⟩

theorem size_base (hp : Hp) : size (base hp) = hp.objs.length := rfl

theorem data_lt {o : Ob} (hd : o.data) {n : Nat} {gs gs' : Nat → Nat} (h : o.lt n gs) : o.lt n gs' := by
  cases o with
  | box T cs =>
    obtain ⟨ds, rfl⟩ := hd
    exact alts_map.2 (alts_map.1 (show AV.lts n gs (ds.map .d) from h))
  | row T xs => exact h
  | bare => trivial
  | map es => exact h

/-- An object that holds data, in a world that keeps it. -/
theorem ObOk.move {r r' : Ref} {o : Ob} (hd : o.data) {fz : Bool} {n : Nat} {gs : Nat → Nat} (hk : Keeps w S w' S') (hH : SameH n β β') (hl : o.lt n gs)
    (hβ : β'.blk r' = β.blk r ∧ β'.cap r' = β.cap r ∧ β'.esz r' = β.esz r ∧ β'.len r' = β.len r)
    (hw : HasMem β r o → ∀ x, w.heap[β.blk r]? = some x → w'.heap[β.blk r]? = some x) (hS : HasMem β r o → ∀ off, S' (β.blk r) off ↔ S (β.blk r) off)
    (h : ObOk P w S β r o fz) : ObOk P w' S' β' r' o fz := by
  obtain ⟨e1, e2, e3, e4⟩ := hβ
  cases o with
  | box T cs =>
    obtain ⟨ds, rfl⟩ := hd
    obtain ⟨⟨C, z, h1, h2, ho, h3⟩, h4⟩ := h
    refine ⟨⟨C, z, by rw [e1]; exact hw trivial _ h1, h2, ho, RAs_map.2 (RVs.keep hk hH _ _ (alts_map.1 (show AV.lts n gs (ds.map .d) from hl)) (RAs_map.1 h3))⟩, fun off => ?_⟩
    rw [e1, hS trivial off]; exact h4 off
  | row T xs =>
    obtain ⟨h1, h2⟩ := h
    refine ⟨by rw [e4]; exact h1, ?_⟩
    rcases h2 with ⟨h2, h3⟩ | h2
    · exact .inl ⟨by rw [e2]; exact h2, h3⟩
    · refine .inr ⟨by rw [e2]; exact h2.cap, by rw [e3]; exact h2.esz, by rw [e3]; exact h2.ty, by rw [e2]; exact h2.fits, ?_, ?_, ?_, ?_⟩
      · obtain ⟨C, z, m1, m2, m3, m4⟩ := h2.mem
        refine ⟨C, z, by rw [e1]; exact hw h2.cap _ m1, by rw [e2, e3]; exact m2, by rw [e3]; exact m3, fun j x hx => ?_⟩
        rw [e3]
        exact (m4 j x hx).keep hk hH (lts_iff.1 hl x (List.mem_of_getElem? hx))
      · intro off; rw [e1, e3, hS h2.cap off]; exact h2.free off
      · intro hz off; rw [e1, e3, hS h2.cap off]; exact h2.fixed hz off
      · obtain ⟨C, z, m1, _⟩ := h2.mem
        intro C' T' z' hz'
        rw [e1, hw h2.cap _ m1] at hz'; cases hz'
        exact h2.org _ _ _ m1
  | bare => exact ⟨by rw [e2]; exact h.1, by rw [e4]; exact h.2⟩
  | map es =>
    obtain ⟨⟨E, clock, h1, h2, hB⟩, h4⟩ := h
    refine ⟨⟨E, clock, by rw [e1]; exact hw trivial _ h1, h2.keep hk hH hl, hB⟩, fun off => ?_⟩
    rw [e1, hS trivial off]; exact h4 off

/-- A part of a state's heap. -/
theorem SR.toHeap (h : SR P σ a w S β) {hp : Hp} (hp0 : HpPure hp) (hsub : ∀ i o, getH hp i = some o → getH σ.hp i = some o ∧ o.o.lt hp.objs.length (fun _ => 0)) : HR P hp w S β := by
  have sub : ∀ {i o}, get (base hp) (.h i) = some o → get σ (.h i) = some o ∧ frozen σ (.h i) = frozen (base hp) (.h i) ∧ o.data ∧ o.lt hp.objs.length (fun _ => 0) := by
    intro i o hr
    simp only [get, Option.map_eq_some_iff] at hr
    obtain ⟨x, hx, rfl⟩ := hr
    obtain ⟨h1, h2⟩ := hsub i x hx
    have hx' : getH (base hp).hp i = some x := hx
    refine ⟨by simp only [get, h1]; rfl, by simp only [frozen, h1, hx'], hp0 i x hx, h2⟩
  refine ⟨⟨fun t => ⟨by simp [base, AV.lt, AV.lt1, D.lt], by simp only [base, RA, RA1, RV]⟩, fun t _ => rfl, rfl, ?_, ?_, h.inw⟩, hp0⟩
  · intro r o hr
    cases r with
    | l i g => rw [get_base_l] at hr; simp at hr
    | h i =>
      obtain ⟨h1, h2, h3, h4⟩ := sub hr
      obtain ⟨k1, _⟩ := h.obj (.h i) o h1
      rw [← h2]
      exact ⟨k1, data_lt h3 h4⟩
  · intro r r' o o' hr hr'
    cases r with
    | l i g => rw [get_base_l] at hr; simp at hr
    | h i => cases r' with
      | l i g => rw [get_base_l] at hr'; simp at hr'
      | h j => exact h.sep (.h i) (.h j) o o' (sub hr).1 (sub hr').1

/-- The heap as it is. -/
theorem SR.toHR (h : SR P σ a w S β) (hp0 : HpPure σ.hp) : HR P σ.hp w S β := by
  refine h.toHeap hp0 fun i o ho => ⟨ho, ?_⟩
  have hg : get σ (.h i) = some o.o := by simp only [get, ho]; rfl
  exact data_lt (hp0 i o ho) (h.obj _ _ hg).2

/-- The embedding behind a call: the heap's as the call left it, the others as they were. -/
def Emb.mix (β β' : Emb) : Emb where
  blk r := match r with | .l .. => β.blk r | .h _ => β'.blk r
  cap r := match r with | .l .. => β.cap r | .h _ => β'.cap r
  esz r := match r with | .l .. => β.esz r | .h _ => β'.esz r
  len r := match r with | .l .. => β.len r | .h _ => β'.len r

theorem mix_h (β β' : Emb) (n : Nat) : SameH n β' (β.mix β') := fun _ _ => ⟨rfl, rfl, rfl, rfl⟩
theorem mix_l (β β' : Emb) (gs : Nat → Nat) : SameL gs β (β.mix β') := fun _ _ _ => ⟨rfl, rfl, rfl, rfl⟩

theorem hasMem_mix {β β' : Emb} {i : Nat} {o : Ob} : HasMem (β.mix β') (.h i) o ↔ HasMem β' (.h i) o := by cases o <;> exact Iff.rfl
theorem hasMem_mix_l {β β' : Emb} {i g : Nat} {o : Ob} : HasMem (β.mix β') (.l i g) o ↔ HasMem β (.l i g) o := by cases o <;> exact Iff.rfl

theorem owned_of_heap {b : Nat} (h : Owned (base σ.hp) β b) : Owned σ β b := by
  obtain ⟨i, o, h1, h2, h3⟩ := owned_base h
  exact ⟨.h i, o, h1, h2, h3⟩

/-- A local object's block is none of the heap's. -/
theorem local_apart (h : SR P σ a w S β) {i g : Nat} {o : Ob} (hr : get σ (.l i g) = some o) (hm : HasMem β (.l i g) o) : ¬ Owned (base σ.hp) β (β.blk (.l i g)) := by
  intro ho
  obtain ⟨j, o', h1, h2, h3⟩ := owned_base ho
  exact h.sep (.h j) (.l i g) o' o h1 hr (by simp) h2 hm h3

/-- The caller's state behind a call. -/
theorem SR.called (h : SR P σ a w S β) {hp : Hp} (k : HR P hp w' S' β') (f : Fr (base σ.hp) w S β (base hp) w' S' β') : SR P { σ with hp := hp } a w' S' (β.mix β') ∧ Fr σ w S β { σ with hp := hp } w' S' (β.mix β') := by
  have hH : SameH (size σ) β (β.mix β') := f.sameH
  have hsz : size σ ≤ size { σ with hp := hp } := f.next
  have getl : ∀ i g, get { σ with hp := hp } (.l i g) = get σ (.l i g) := fun _ _ => rfl
  refine ⟨?_, ?_⟩
  · refine h.change f.keep k.1.inw hsz (fun _ => Nat.le_refl _) hH (mix_l β β' _) (fun r => ∃ i, r = .h i) ?_ ?_ ?_ (fun t => .inl ⟨rfl, rfl⟩) h.bound h.defers
    · intro r o hr hN
      cases r with
      | h i => exact (hN ⟨i, rfl⟩).elim
      | l i g =>
        rw [getl] at hr
        refine ⟨hr, rfl, fun m => ?_⟩
        have hlt := mem_lt h hr m
        have hap := local_apart h hr m
        refine ⟨fun x hx => by rw [f.frame _ hlt hap]; exact hx, fun off => ⟨fun hb => ?_, fun hb => (f.keep _ _ hb).1⟩⟩
        rcases f.newS _ _ hb with h1 | h1 | h1
        · exact h1
        · exact (hap h1).elim
        · omega
    · rintro r o hr ⟨i, rfl⟩
      have hr' : get (base hp) (.h i) = some o := hr
      obtain ⟨k1, k2⟩ := k.1.obj (.h i) o hr'
      have hd : o.data := by
        simp only [get, Option.map_eq_some_iff] at hr'
        obtain ⟨x, hx, rfl⟩ := hr'
        exact k.2 i x hx
      have k2' : o.lt hp.objs.length (gen { σ with hp := hp }) := data_lt hd k2
      exact ⟨k1.move hd (Keeps.refl w' S') (mix_h β β' _) k2 ⟨rfl, rfl, rfl, rfl⟩ (fun _ x hx => hx) (fun _ _ => Iff.rfl), k2'⟩
    · rintro r r' o o' hr hr' hne ⟨i, rfl⟩ hm hm'
      have hr0 : get (base hp) (.h i) = some o := hr
      cases r' with
      | h j => exact k.1.sep (.h i) (.h j) o o' hr0 hr' hne (hasMem_mix.1 hm) (hasMem_mix.1 hm')
      | l j g =>
        rw [getl] at hr'
        have m' := hasMem_mix_l.1 hm'
        have hlt := mem_lt h hr' m'
        intro he
        have he' : β'.blk (.h i) = β.blk (.l j g) := he
        rcases f.own _ ⟨.h i, o, hr0, hasMem_mix.1 hm, rfl⟩ with h1 | h1
        · rw [he'] at h1; exact local_apart h hr' m' h1
        · rw [he'] at h1; omega
  · refine ⟨f.size, f.keep, fun b off hb => ?_, fun b hb ho => f.frame b hb (fun h1 => ho (owned_of_heap h1)), hsz, hH, ?_, f.os, f.tape, f.output⟩
    · rcases f.newS b off hb with h1 | h1 | h1
      · exact .inl h1
      · exact .inr (.inl (owned_of_heap h1))
      · exact .inr (.inr h1)
    · rintro b ⟨r, o, hr, hm, rfl⟩
      cases r with
      | h i =>
        rcases f.own _ ⟨.h i, o, hr, hasMem_mix.1 hm, rfl⟩ with h1 | h1
        · exact .inl (owned_of_heap h1)
        · exact .inr h1
      | l i g => exact .inl ⟨.l i g, o, hr, hasMem_mix_l.1 hm, rfl⟩
end
end Go.AE

/- AE: calls: what comes back; the calls of functions. -/
namespace Go.AE

section
variable {P : Program} {c : Cfg} {o : Oper} {σ σ' : St} {a : Act} {w w' : World} {S S' : Fixed} {β β' : Emb}

theorem HR.objs {hp hp' : Hp} (he : hp'.objs = hp.objs) (h : HR P hp w S β) : HR P hp' w S β := by
  obtain ⟨o1, c1, e1⟩ := hp
  obtain ⟨o2, c2, e2⟩ := hp'
  simp only at he; subst he
  exact ⟨⟨h.1.env, h.1.bound, h.1.defers, h.1.obj, h.1.sep, h.1.inw⟩, h.2⟩

theorem Fr.objs {hp hp' : Hp} (he : hp'.objs = hp.objs) (h : Fr σ w S β (base hp) w' S' β') : Fr σ w S β (base hp') w' S' β' := by
  obtain ⟨o1, c1, e1⟩ := hp
  obtain ⟨o2, c2, e2⟩ := hp'
  simp only at he; subst he
  exact ⟨h.size, h.keep, h.newS, h.frame, h.next, h.sameH, h.own, h.os, h.tape, h.output⟩

theorem owned_objs {hp hp' : Hp} (he : hp'.objs = hp.objs) {b : Nat} : Owned (base hp') β b ↔ Owned (base hp) β b := by
  obtain ⟨o1, c1, e1⟩ := hp
  obtain ⟨o2, c2, e2⟩ := hp'
  simp only at he; subst he
  exact Iff.rfl

/-- An operation does what it says, at the level of the machine. -/
def RanW (c : Cfg) (o : Oper) (σ : St) (a : Act) (w : World) (S : Fixed) (β : Emb) (e : Eff) : Prop :=
  ∀ (next : Act → World → Prop) (Q : Exit → Act → World → Prop),
    (∀ w' S' β' u, SR c.P (apply σ none e) a w' S' β' → Fr σ w S β (apply σ none e) w' S' β' → RA w' S' β' e.v u → e.v.lt (size (apply σ none e)) (gen (apply σ none e)) → next (a.put o.dst u) w') → o.wp c.P a w next Q

theorem Ran.toW {e : Eff} (h : Ran c o σ a w S β e) : RanW c o σ a w S β e := by
  intro next Q hn
  obtain ⟨w', S', β', u, hr, h1, h2, h3, h4⟩ := h
  simp only [Oper.wp]
  rcases hr with hr | ⟨rfl, hr⟩
  · rw [hr, Oper.upon_value]; exact hn w' S' β' u h1 h2 h3 h4
  · rw [hr, Oper.upon_skip]; exact hn w' S' β' undef h1 h2 h3 h4

/-- And what it says of the abstract heap is true. -/
def RanA (c : Cfg) (o : Oper) (σ : St) (a : Act) (w : World) (S : Fixed) (β : Emb) (e : Eff) : Prop := RanW c o σ a w S β e ∧ HStep σ.hp (hpOf σ.hp e)

/-- A call does what it says. -/
theorem CallsBack.toW {e : Eff} {f : FuncId} {vs : Array Value} {B : Value → World → Prop} (h : CallsBack c.P f vs w B) (hrun : (execOp a.eval o).run c.P w = (callFunc f vs).run c.P w)
    (hb : ∀ v w', B v w' → ∃ S' β', SR c.P (apply σ none e) a w' S' β' ∧ Fr σ w S β (apply σ none e) w' S' β' ∧ RA w' S' β' e.v v ∧ e.v.lt (size (apply σ none e)) (gen (apply σ none e))) : RanW c o σ a w S β e := by
  intro next Q hn
  simp only [Oper.wp, hrun]
  rcases h with ⟨v, w', h1, h2⟩ | ⟨h1, h2⟩
  · rw [h1, Oper.upon_value]
    obtain ⟨S', β', k1, k2, k3, k4⟩ := hb v w' h2
    exact hn w' S' β' v k1 k2 k3 k4
  · rw [h1, Oper.upon_enter]
    refine h2.mono fun en w' hen => ?_
    cases en with
    | returned v =>
      obtain ⟨S', β', k1, k2, k3, k4⟩ := hb v w' hen
      exact hn w' S' β' v k1 k2 k3 k4
    | panicked ch => exact hen.elim
    | outgrown => exact hen.elim

/-- A row of the caller's own. -/
theorem SR.adopt (h : SR P σ a w S β) {r : Ref} {o : Ob} (hg : Grown1 σ σ' r o) {b cap e l : Nat} (ho : o = .bare ∨ ∃ T xs, o = .row T xs)
    (hok : ObOk P w S (β.add r b cap e l) r o false) (hlt : o.lt (size σ') (gen σ')) (hfree : 0 < cap → ¬ Owned σ β b) : SR P σ' a w S (β.add r b cap e l) := by
  have mem_other : ∀ {x : Ref} {ox : Ob}, x ≠ r → HasMem (β.add r b cap e l) x ox → HasMem β x ox := by
    intro x ox hne hm
    cases ox with
    | row T xs => simp only [HasMem] at hm ⊢; rw [(add_other β _ _ _ _ hne).2.1] at hm; exact hm
    | bare => exact hm
    | _ => trivial
  have mem_here : HasMem (β.add r b cap e l) r o → 0 < cap := by
    intro hm
    rcases ho with rfl | ⟨T, xs, rfl⟩
    · exact hm.elim
    · simp only [HasMem] at hm; rw [(add_here β _ _ _ _ _).2.1] at hm; exact hm
  refine h.change (Keeps.refl w S) h.inw hg.size hg.gen (sameH_add hg.fresh _ _ _ _) (sameL_add hg.fresh _ _ _ _) (fun x => x = r) ?_ ?_ ?_ (fun t => .inl ⟨by rw [hg.env], rfl⟩) (by rw [hg.env]; exact h.bound) h.defers
  · intro x ox hx hne
    obtain ⟨g1, g2⟩ := hg.other x ox hne hx
    exact ⟨g1, g2, fun m => ⟨fun y hy => hy, fun _ => Iff.rfl⟩⟩
  · rintro x ox hx rfl
    rw [hg.here] at hx; cases hx
    rw [hg.fz]; exact ⟨hok, hlt⟩
  · rintro x y ox oy hx hy hne rfl m1 m2
    obtain ⟨g1, _⟩ := hg.other y oy (Ne.symm hne) hy
    rw [(add_here β x _ _ _ _).1, (add_other β _ _ _ _ (Ne.symm hne)).1]
    rw [hg.here] at hx; cases hx
    intro he
    exact hfree (mem_here m1) ⟨y, oy, g1, mem_other (Ne.symm hne) m2, he.symm⟩

theorem Fr.adopt {σ0 : St} {w0 : World} {S0 : Fixed} {β0 : Emb} (f : Fr σ0 w0 S0 β0 σ w S β) {r : Ref} {o : Ob} (hg : Grown1 σ σ' r o) {b cap e l : Nat} (ho : o = .bare ∨ ∃ T xs, o = .row T xs)
    (hb : 0 < cap → Owned σ0 β0 b ∨ w0.heap.size ≤ b) : Fr σ0 w0 S0 β0 σ' w S (β.add r b cap e l) := by
  refine ⟨f.size, f.keep, f.newS, f.frame, Nat.le_trans f.next hg.size, f.sameH.trans f.next (sameH_add hg.fresh _ _ _ _), ?_, f.os, f.tape, f.output⟩
  rintro b' ⟨x, ox, hx, m, rfl⟩
  by_cases hne : x = r
  · subst hne
    rw [(add_here β x _ _ _ _).1]
    rw [hg.here] at hx; cases hx
    refine hb ?_
    rcases ho with rfl | ⟨T, xs, rfl⟩
    · exact m.elim
    · simp only [HasMem] at m; rw [(add_here β _ _ _ _ _).2.1] at m; exact m
  · obtain ⟨g1, _⟩ := hg.other x ox hne hx
    rw [(add_other β _ _ _ _ hne).1]
    refine f.own _ ⟨x, ox, g1, ?_, rfl⟩
    cases ox with
    | row T xs => simp only [HasMem] at m ⊢; rw [(add_other β _ _ _ _ hne).2.1] at m; exact m
    | bare => exact m
    | _ => trivial

theorem not_owned_called (h : SR P σ a w S β) {hp : Hp} (f : Fr (base σ.hp) w S β (base hp) w' S' β') {b : Nat} (h1 : Owned (base σ.hp) β b ∨ w.heap.size ≤ b) (h2 : ¬ Owned (base hp) β' b) : ¬ Owned { σ with hp := hp } (β.mix β') b := by
  rintro ⟨r, o, hr, hm, he⟩
  cases r with
  | h i => exact h2 ⟨.h i, o, hr, hasMem_mix.1 hm, he⟩
  | l i g =>
    have hr' : get σ (.l i g) = some o := hr
    have hm' := hasMem_mix_l.1 hm
    have he' : β.blk (.l i g) = b := he
    rcases h1 with h1 | h1
    · rw [← he'] at h1; exact local_apart h hr' hm' h1
    · have := mem_lt h hr' hm'; omega

theorem back_heap {t : Nat} {f : List (Nat × Bool)} {R : Res} {e : Eff} (he : back σ t f R = some e) : hpOf σ.hp e = R.hp := by
  unfold back at he
  split at he
  · obtain rfl := Option.some.inj he; rfl
  · obtain rfl := Option.some.inj he; rfl

/-- What comes back is what the caller has. -/
theorem back_ok {f : List (Nat × Bool)} (h : SR P (withFz σ f) a w S β) {t : Nat} {R : Res} {v : Value} (hb : Back P σ.hp w S β R v w') {e : Eff} (he : back σ t f { R with hp := joinHp σ.hp R.hp } = some e) :
    ∃ S' β', SR P (apply σ none e) a w' S' β' ∧ Fr (withFz σ f) w S β (apply σ none e) w' S' β' ∧ RA w' S' β' e.v v ∧ e.v.lt (size (apply σ none e)) (gen (apply σ none e)) := by
  obtain ⟨_, S', β', k1, k2, k3⟩ := hb
  have ho : (joinHp σ.hp R.hp).objs = R.hp.objs := rfl
  have k1' := k1.objs ho
  have k2' := k2.objs ho
  obtain ⟨c1, c2⟩ := SR.called (σ := withFz σ f) h k1' k2'
  unfold back at he
  split at he
  · rename_i T xs hr
    simp only at hr
    rw [hr] at k3
    obtain ⟨b, cap, esz, p, rfl, hp, hok, hl, hfree⟩ := k3
    obtain rfl := Option.some.inj he
    have hg := grown_local { withFz σ f with hp := joinHp σ.hp R.hp } t (if T = 0 then .bare else .row T xs)
    have hobs : (if T = 0 then Ob.bare else .row T xs) = .bare ∨ ∃ T' xs', (if T = 0 then Ob.bare else .row T xs) = .row T' xs' := by
      by_cases h0 : T = 0
      · exact .inl (by rw [if_pos h0])
      · exact .inr ⟨T, xs, by rw [if_neg h0]⟩
    have hnf : 0 < cap → ¬ Owned { withFz σ f with hp := joinHp σ.hp R.hp } (β.mix β') b := fun h0 => not_owned_called (σ := withFz σ f) h k2' (hfree h0).1 (fun h1 => (hfree h0).2 ((owned_objs ho).1 h1))
    have hok' : ObOk P w' S' ((β.mix β').add (.l t ((σ.loc t).g + 1)) b cap esz xs.length) (.l t ((σ.loc t).g + 1)) (if T = 0 then .bare else .row T xs) false := by
      by_cases h0 : T = 0
      · rw [if_pos h0] at hok ⊢
        obtain ⟨hc0, hx0⟩ := hok
        exact ⟨by rw [(add_here _ _ _ _ _ _).2.1]; exact hc0, by rw [(add_here _ _ _ _ _ _).2.2.2, hx0]; rfl⟩
      · rw [if_neg h0] at hok ⊢
        refine ObOk.move (r := .l 0 1) (o := .row T xs) (n := R.hp.objs.length) (gs := fun _ => 0) trivial (Keeps.refl w' S') ?_ hl ?_ (fun _ x hx => hx) (fun _ _ => Iff.rfl) hok
        · intro i _
          have e1 := add_other (β.mix β') (r := .l t ((σ.loc t).g + 1)) (x := .h i) b cap esz xs.length (by simp)
          have e2 := add_other β' (r := .l 0 1) (x := .h i) b cap esz xs.length (by simp)
          exact ⟨e1.1.trans e2.1.symm, e1.2.1.trans e2.2.1.symm, e1.2.2.1.trans e2.2.2.1.symm, e1.2.2.2.trans e2.2.2.2.symm⟩
        · have e1 := add_here (β.mix β') (.l t ((σ.loc t).g + 1)) b cap esz xs.length
          have e2 := add_here β' (.l 0 1) b cap esz xs.length
          exact ⟨e1.1.trans e2.1.symm, e1.2.1.trans e2.2.1.symm, e1.2.2.1.trans e2.2.2.1.symm, e1.2.2.2.trans e2.2.2.2.symm⟩
    have hap : apply σ none { v := .lsf t ((σ.loc t).g + 1), lw := [(t, ⟨(σ.loc t).g + 1, some (if T = 0 then .bare else .row T xs)⟩)], fw := f ++ [(t, false)], hw := some (joinHp σ.hp R.hp) } =
        { { withFz σ f with hp := joinHp σ.hp R.hp } with loc := upd σ.loc t ⟨(σ.loc t).g + 1, some (if T = 0 then .bare else .row T xs)⟩, fz := upd (setMany σ.fz f) t false } := by
      simp only [apply, setMany_append, withFz]
      rfl
    rw [hap]
    have hlt : (if T = 0 then Ob.bare else .row T xs).lt R.hp.objs.length (gen { { withFz σ f with hp := joinHp σ.hp R.hp } with loc := upd σ.loc t ⟨(σ.loc t).g + 1, some (if T = 0 then .bare else .row T xs)⟩, fz := upd (setMany σ.fz f) t false }) := by
      by_cases h0 : T = 0
      · rw [if_pos h0]; trivial
      · rw [if_neg h0]; exact hl
    refine ⟨S', (β.mix β').add (.l t ((σ.loc t).g + 1)) b cap esz xs.length, c1.adopt hg hobs hok' hlt hnf, c2.adopt hg hobs (fun h0 => ?_), ?_, ?_⟩
    · rcases (hfree h0).1 with h1 | h1
      · exact .inl (owned_of_heap h1)
      · exact .inr h1
    · simp only [RA, RA1]
      have e1 := add_here (β.mix β') (.l t ((σ.loc t).g + 1)) b cap esz xs.length
      rw [e1.1, e1.2.1, e1.2.2.2]
      exact ⟨p, rfl, hp⟩
    · simp [AV.lt, AV.lt1, gen, upd_same]
  · rename_i x hno
    simp only at hno
    obtain rfl := Option.some.inj he
    have hrr : RV w' S' β' R.r v ∧ R.r.lt R.hp.objs.length := by
      revert k3
      unfold RR
      split
      · rename_i T xs hx; exact (hno T xs hx).elim
      · exact id
    refine ⟨S', β.mix β', c1, c2, ?_, ?_⟩
    · simp only [RA, RA1]
      exact RV.keep (Keeps.refl w' S') (mix_h β β' R.hp.objs.length) _ _ hrr.2 hrr.1
    · simp only [AV.lt, AV.lt1]; exact hrr.2
end
end Go.AE

/- AE: the calls of functions. -/
namespace Go.AE

section
variable {P : Program} {c : Cfg} {o : Oper} {σ σ' : St} {a : Act} {w w' : World} {S S' : Fixed} {β β' : Emb}

theorem run_call {cl : Call} {g : Operand} (hop : o.op = .call cl) (hc : cl.callee = .value g) {fid : FuncId} {fs cs us : Array Value} (hg : a.eval g = .func (.func fid) fs cs) (hu : cl.args.map a.eval = us) :
    (execOp a.eval o).run c.P w = (callFunc fid (fs ++ us ++ cs)).run c.P w := by
  simp only [execOp, hop, Go.resolve, hc, hg, Deferred.ofValue, hu, Sem.run_bind, Sem.run_pure, Result.andThen_ok, invoke]

theorem plain_ok {call : CallF} (hC : CallOK c.P call) (hpp : HpPure σ.hp) (h : SR c.P σ a w S β) {cl : Call} {g : Operand} (hop : o.op = .call cl) (hc : cl.callee = .value g) {fid : FuncId} {first caps : List D}
    (hg : opd σ.env g = some (.d (.fn fid first caps))) {args : List AV} (ha : opds σ.env cl.args.toList = some args) {raw : Bool} {ds : List D} {fw : List (Nat × Bool)} (hr : resolves raw σ.loc args = some (ds, fw)) {R : Res} (hR : call fid (first ++ ds ++ caps) σ.hp = some R)
    {t : Nat} {e : Eff} (he : back σ t fw { R with hp := joinHp σ.hp R.hp } = some e) : RanA c o σ a w S β e := by
  obtain ⟨g1, g2⟩ := opd_ok h hg
  obtain ⟨r1, r2⟩ := opds_ok h ha
  obtain ⟨fs, cs, hgv, v1, v2⟩ : ∃ fs cs : Array Value, a.eval g = .func (.func fid) fs cs ∧ RVs w S β first fs.toList ∧ RVs w S β caps cs.toList := by simpa only [RA, RA1, RV] using g1
  have g2' : D.lts (size σ) first ∧ D.lts (size σ) caps := by simpa only [AV.lt, AV.lt1, D.lt] using g2
  obtain ⟨S1, s1, s2, s3, s4⟩ := resolves_ok h hr r1 r2
  have hk := Keeps.mono (w := w) s2.1
  have hargs : cl.args.map a.eval = (cl.args.toList.map a.eval).toArray := args_eq rfl
  have hall : RVs w S1 β (first ++ ds ++ caps) (fs ++ cl.args.map a.eval ++ cs).toList := by
    rw [Array.toList_append, Array.toList_append, Array.toList_map]
    exact RVs_append (RVs_append (RVs.keep hk (SameH.refl (size σ) β) _ _ g2'.1 v1) s3) (RVs.keep hk (SameH.refl (size σ) β) _ _ g2'.2 v2)
  have hlt : D.lts (size σ) (first ++ ds ++ caps) := by
    have g3 := lts_iff.1 g2'.1
    have g4 := lts_iff.1 g2'.2
    have s4 := lts_iff.1 s4
    rw [lts_iff]
    intro d hd
    rcases List.mem_append.1 hd with hd | hd
    · rcases List.mem_append.1 hd with hd | hd
      · exact g3 d hd
      · exact s4 d hd
    · exact g4 d hd
  have hHR : HR c.P σ.hp w S1 β := SR.toHR (σ := withFz σ fw) s1 hpp
  have hcb := hC _ _ _ _ hR w S1 β _ hHR hall hlt
  refine ⟨hcb.toW (run_call hop hc hgv rfl) fun v w' hb => ?_, by
    rw [back_heap he]
    obtain ⟨_, _, hb⟩ := hcb.fact
    exact HStep.join hb.1⟩
  obtain ⟨S', β', k1, k2, k3, k4⟩ := back_ok s1 hb he
  exact ⟨S', β', k1, (Fr.fz s2).trans k2, k3, k4⟩

theorem callOp_ok {call : CallF} (hC : CallOK c.P call) (hpp : HpPure σ.hp) (h : SR c.P σ a w S β) {cl : Call} {g : Operand} (hop : o.op = .call cl) (hc : cl.callee = .value g) {gv : AV} (hg : opd σ.env g = some gv) {args : List AV} (ha : opds σ.env cl.args.toList = some args)
    {t : Nat} {e : Eff} (he : callOp c call σ t gv args = some e)
    (lend : ∀ fid first caps i n wd rest, gv = .d (.fn fid first caps) → (args = .lsf i n :: rest ∧ wd = none ∨ ∃ off len, args = .ls i n off len :: rest ∧ wd = some (off, len)) → lendOp call σ fid first caps i n wd rest = some e → RanA c o σ a w S β e) : RanA c o σ a w S β e := by
  unfold callOp at he
  split at he
  case h_2 => simp at he
  rename_i fid first caps
  have hby : ∀ x r, (if c.byref fid = true then args else []) = x :: r → args = x :: r := by
    intro x r hx
    split at hx
    · exact hx
    · simp at hx
  split at he
  · rename_i i n rest hx
    exact lend _ _ _ _ _ _ _ rfl (.inl ⟨hby _ _ hx, rfl⟩) he
  · rename_i i n off len rest hx
    exact lend _ _ _ _ _ _ _ rfl (.inr ⟨off, len, hby _ _ hx, rfl⟩) he
  · split at he
    case h_2 => simp at he
    rename_i ds fw hr
    split at he
    case h_2 => simp at he
    rename_i R hR
    exact plain_ok hC hpp h hop hc hg ha hr hR he
end
end Go.AE

/- AE: a row that is lent to a call. -/
namespace Go.AE

section
variable {P : Program} {c : Cfg} {o : Oper} {σ σ' : St} {a : Act} {w w' : World} {S S' : Fixed} {β β' : Emb}

/-- An object gets another name; its memory is as it was. -/
theorem SR.rename {r r' : Ref} {o : Ob} (h : SR P σ a w S β) (hr : get σ r = some o) (hd : o.data) (hm : Moved σ σ' r r' o) :
    SR P σ' a w S (β.add r' (β.blk r) (β.cap r) (β.esz r) (β.len r)) ∧ Fr σ w S β σ' w S (β.add r' (β.blk r) (β.cap r) (β.esz r) (β.len r)) := by
  obtain ⟨hok, hlt⟩ := h.obj _ _ hr
  have e1 := add_here β r' (β.blk r) (β.cap r) (β.esz r) (β.len r)
  have mem_other : ∀ {x : Ref} {ox : Ob}, x ≠ r' → HasMem (β.add r' (β.blk r) (β.cap r) (β.esz r) (β.len r)) x ox → HasMem β x ox := by
    intro x ox hne hm
    cases ox with
    | row T xs => simp only [HasMem] at hm ⊢; rw [(add_other β _ _ _ _ hne).2.1] at hm; exact hm
    | bare => exact hm
    | _ => trivial
  have mem_here : HasMem (β.add r' (β.blk r) (β.cap r) (β.esz r) (β.len r)) r' o → HasMem β r o := by
    intro hm
    cases o with
    | row T xs => simp only [HasMem] at hm ⊢; rw [e1.2.1] at hm; exact hm
    | bare => exact hm
    | _ => trivial
  refine ⟨?_, ?_⟩
  · refine h.change (Keeps.refl w S) h.inw hm.size hm.gen (sameH_add hm.fresh _ _ _ _) (sameL_add hm.fresh _ _ _ _) (fun x => x = r') ?_ ?_ ?_ (fun t => .inl ⟨by rw [hm.env], rfl⟩) (by rw [hm.env]; exact h.bound) h.defers
    · intro x ox hx hne
      obtain ⟨g1, g2, _⟩ := hm.other x ox hne hx
      exact ⟨g1, g2, fun m => ⟨fun y hy => hy, fun _ => Iff.rfl⟩⟩
    · rintro x ox hx rfl
      rw [hm.here] at hx; cases hx
      rw [hm.fz]
      exact ⟨hok.move hd (Keeps.refl w S) (sameH_add hm.fresh _ _ _ _) hlt ⟨e1.1, e1.2.1, e1.2.2.1, e1.2.2.2⟩ (fun _ y hy => hy) (fun _ _ => Iff.rfl), hlt.mono hm.size hm.gen⟩
    · rintro x y ox oy hx hy hne rfl m1 m2
      obtain ⟨g1, _, g3⟩ := hm.other y oy (Ne.symm hne) hy
      rw [hm.here] at hx; cases hx
      rw [e1.1, (add_other β _ _ _ _ (Ne.symm hne)).1]
      exact h.sep _ _ _ _ hr g1 (Ne.symm g3) (mem_here m1) (mem_other (Ne.symm hne) m2)
  · refine ⟨Nat.le_refl _, Keeps.refl w S, fun _ _ hb => .inl hb, fun b hb _ => rfl, hm.size, sameH_add hm.fresh _ _ _ _, ?_, rfl, rfl, rfl⟩
    rintro b ⟨x, ox, hx, m, rfl⟩
    by_cases hne : x = r'
    · subst hne
      rw [hm.here] at hx; cases hx
      left; exact ⟨r, o, hr, mem_here m, e1.1.symm⟩
    · obtain ⟨g1, _, _⟩ := hm.other x ox hne hx
      left; exact ⟨x, ox, g1, mem_other hne m, ((add_other β _ _ _ _ hne).1).symm⟩

/-- A local row goes to the heap. -/
def lentSt (σ : St) (i n : Nat) (o : Ob) : St := { σ with loc := upd σ.loc i ⟨n, none⟩, hp := pushHp σ.hp ⟨o, false⟩ }

theorem moved_lent {i n : Nat} {o : Ob} (h : get σ (.l i n) = some o) (hz : σ.fz i = false) : Moved σ (lentSt σ i n o) (.l i n) (.h (size σ)) o where
  fresh := by simp [Ref.fresh]
  here := by simp [get, lentSt, getH_push, size]
  other x ox hne hx := by
    cases x with
    | l j k =>
      have hx' : getL (upd σ.loc i ⟨n, none⟩) j k = some ox := hx
      rw [getL_upd σ.loc i ⟨n, none⟩ j k] at hx'
      by_cases hj : j = i
      · rw [if_pos hj] at hx'
        split at hx' <;> simp at hx'
      · rw [if_neg hj] at hx'
        exact ⟨hx', rfl, fun e => hj (by cases e; rfl)⟩
    | h j =>
      have hj : ¬ j = σ.hp.objs.length := fun e => hne (by rw [e]; rfl)
      have hx' : (getH (pushHp σ.hp ⟨o, false⟩) j).map (·.o) = some ox := hx
      rw [getH_push, if_neg hj] at hx'
      refine ⟨hx', ?_, by simp⟩
      simp only [frozen, lentSt, getH_push, if_neg hj]
  fz := by simp only [frozen, lentSt, getH_push, size, if_true]; exact hz.symm
  size := by simp [size, lentSt, pushHp]
  gen j := by
    simp only [gen, lentSt]
    by_cases hj : j = i
    · subst hj; rw [upd_same]; exact Nat.le_of_eq (gen_of_get h).symm
    · rw [upd_other _ _ hj]; exact Nat.le_refl _
  env := rfl

theorem lentRow_ok {hp : Hp} {id j T : Nat} {ys : List D} (h : lentRow hp id j T = some ys) : id ≤ j ∧ getH hp j = some ⟨.row T ys, false⟩ ∧ D.flatDs ys = true := by
  unfold lentRow at h
  split at h
  case isFalse => simp at h
  rename_i hij
  split at h
  · rename_i U ys' hg
    split at h
    · rename_i hc
      obtain ⟨rfl, hf⟩ := hc
      simp only [Option.some.injEq] at h; subst h
      exact ⟨hij, hg, hf⟩
    · simp at h
  · simp at h

/-- The caller's state where a row was lent, and comes back (under the heap's name j). -/
theorem SR.lent (h : SR P σ a w S β) (hpp : HpPure σ.hp) {i n : Nat} {T : TypeId} {xs : List D} (hr : get σ (.l i n) = some (.row T xs)) (hz : σ.fz i = false) {hp : Hp}
    (k : HR P hp w' S' β') (f : Fr (base (pushHp σ.hp ⟨.row T xs, false⟩)) w S (β.add (.h (size σ)) (β.blk (.l i n)) (β.cap (.l i n)) (β.esz (.l i n)) (β.len (.l i n))) (base hp) w' S' β')
    (hch : ∀ x, x < size σ → getH hp x = getH σ.hp x) {j : Nat} {ys zs : List D} (hij : size σ ≤ j) (hj : getH hp j = some ⟨.row T ys, false⟩) (hf : D.flatDs ys = true) (hzs : ∃ m, zs = ys.take m)
    {m : Nat} (hm : m = n + 1 ∨ (m = n ∧ j = size σ ∧ zs.length = xs.length)) :
    ∃ β2, SR P { σ with loc := upd σ.loc i ⟨m, some (.row T zs)⟩ } a w' S' β2 ∧ Fr σ w S β { σ with loc := upd σ.loc i ⟨m, some (.row T zs)⟩ } w' S' β2 ∧
      β2.blk (.l i m) = β'.blk (.h j) ∧ β2.cap (.l i m) = β'.cap (.h j) ∧ β2.esz (.l i m) = β'.esz (.h j) ∧ β2.len (.l i m) = zs.length ∧ zs.length ≤ ys.length := by
  have hgn := gen_of_get hr
  obtain ⟨q1, q2⟩ := h.rename hr trivial (moved_lent hr hz)
  have hsz1 : (pushHp σ.hp ⟨.row T xs, false⟩).objs.length = size σ + 1 := by simp [pushHp, size]
  have sameH0 : SameH (size σ) β β' := fun x hx => by
    have e1 := f.sameH x (by rw [size_base, hsz1]; omega)
    have e2 := q2.sameH x hx
    exact ⟨e1.1.trans e2.1, e1.2.1.trans e2.2.1, e1.2.2.1.trans e2.2.2.1, e1.2.2.2.trans e2.2.2.2⟩
  have hzl : zs.length ≤ ys.length := by obtain ⟨m', rfl⟩ := hzs; rw [List.length_take]; omega
  have hjg : get (base hp) (.h j) = some (.row T ys) := by
    show (getH hp j).map (·.o) = _
    rw [hj]; rfl
  have hjz : frozen (base hp) (.h j) = false := by
    show ((getH hp j).map (·.fz)).getD true = false
    rw [hj]; rfl
  obtain ⟨hok, _⟩ := k.1.obj _ _ hjg
  rw [hjz] at hok
  have mix2 := add_here (β.mix β') (.l i m) (β'.blk (.h j)) (β'.cap (.h j)) (β'.esz (.h j)) zs.length
  -- who owns a block at the call's beginning
  have ownB : ∀ {b}, Owned (base (pushHp σ.hp ⟨.row T xs, false⟩)) (β.add (.h (size σ)) (β.blk (.l i n)) (β.cap (.l i n)) (β.esz (.l i n)) (β.len (.l i n))) b → Owned σ β b := by
    intro b hb
    rcases q2.own b (owned_of_heap (σ := lentSt σ i n (.row T xs)) hb) with h1 | h1
    · exact h1
    · have := owned_lt q1 (owned_of_heap (σ := lentSt σ i n (.row T xs)) hb); omega
  have apart : ∀ {i' g : Nat} {ox : Ob}, get σ (.l i' g) = some ox → i' ≠ i → HasMem β (.l i' g) ox → ¬ Owned (base (pushHp σ.hp ⟨.row T xs, false⟩)) (β.add (.h (size σ)) (β.blk (.l i n)) (β.cap (.l i n)) (β.esz (.l i n)) (β.len (.l i n))) (β.blk (.l i' g)) := by
    intro i' g ox hx hne hmm
    have hx2 : get (lentSt σ i n (.row T xs)) (.l i' g) = some ox := by
      show getL (upd σ.loc i ⟨n, none⟩) i' g = some ox
      rw [getL_upd σ.loc i ⟨n, none⟩ i' g, if_neg hne]; exact hx
    have eo := add_other β (r := .h (size σ)) (x := .l i' g) (β.blk (.l i n)) (β.cap (.l i n)) (β.esz (.l i n)) (β.len (.l i n)) (by simp)
    have hm2 : HasMem (β.add (.h (size σ)) (β.blk (.l i n)) (β.cap (.l i n)) (β.esz (.l i n)) (β.len (.l i n))) (.l i' g) ox := by
      cases ox with
      | row T' xs' => simp only [HasMem] at hmm ⊢; rw [eo.2.1]; exact hmm
      | bare => exact hmm
      | _ => trivial
    have := local_apart q1 hx2 hm2
    rw [eo.1] at this
    exact this
  have getl : ∀ {i' g : Nat} {ox : Ob}, get { σ with loc := upd σ.loc i ⟨m, some (.row T zs)⟩ } (.l i' g) = some ox → (i' = i ∧ g = m ∧ ox = .row T zs) ∨ (i' ≠ i ∧ get σ (.l i' g) = some ox) := by
    intro i' g ox hx
    have hx' : getL (upd σ.loc i ⟨m, some (.row T zs)⟩) i' g = some ox := hx
    rw [getL_upd σ.loc i ⟨m, some (.row T zs)⟩ i' g] at hx'
    by_cases hi : i' = i
    · rw [if_pos hi] at hx'
      split at hx'
      · rename_i hg
        simp only [Option.some.injEq] at hx'
        exact .inl ⟨hi, hg.symm, hx'.symm⟩
      · simp at hx'
    · rw [if_neg hi] at hx'; exact .inr ⟨hi, hx'⟩
  have hgen : ∀ i', gen σ i' ≤ gen { σ with loc := upd σ.loc i ⟨m, some (.row T zs)⟩ } i' := by
    intro i'
    simp only [gen]
    by_cases hi : i' = i
    · rw [hi, upd_same]
      show (σ.loc i).g ≤ m
      have hgn' : n = (σ.loc i).g := hgn
      rcases hm with h1 | ⟨h1, _⟩ <;> omega
    · rw [upd_other _ _ hi]; exact Nat.le_refl _
  have sameLm : SameL (gen σ) β ((β.mix β').add (.l i m) (β'.blk (.h j)) (β'.cap (.h j)) (β'.esz (.h j)) zs.length) := by
    intro i' g hg
    by_cases hx : (Ref.l i' g) = .l i m
    · rw [hx]
      obtain ⟨hi, hgm⟩ := Ref.l.inj hx
      rcases hm with h1 | ⟨h1, h2, hzx⟩
      · rw [hi, hgm] at hg; have hgn' : n = gen σ i := hgn; omega
      · have e1 := f.sameH (size σ) (by rw [size_base, hsz1]; omega)
        have e2 := add_here β (.h (size σ)) (β.blk (.l i n)) (β.cap (.l i n)) (β.esz (.l i n)) (β.len (.l i n))
        rw [h1, h2] at mix2 ⊢
        refine ⟨mix2.1.trans (e1.1.trans e2.1), mix2.2.1.trans (e1.2.1.trans e2.2.1), mix2.2.2.1.trans (e1.2.2.1.trans e2.2.2.1), mix2.2.2.2.trans ?_⟩
        rw [hzx]; exact ((h.obj _ _ hr).1.1).symm
    · exact add_other (β.mix β') _ _ _ _ hx
  have sameHm : SameH (size σ) β ((β.mix β').add (.l i m) (β'.blk (.h j)) (β'.cap (.h j)) (β'.esz (.h j)) zs.length) := by
    intro x hx
    have e := add_other (β.mix β') (r := .l i m) (x := .h x) (β'.blk (.h j)) (β'.cap (.h j)) (β'.esz (.h j)) zs.length (by simp)
    have e2 := sameH0 x hx
    exact ⟨e.1.trans e2.1, e.2.1.trans e2.2.1, e.2.2.1.trans e2.2.2.1, e.2.2.2.trans e2.2.2.2⟩
  have sameHh : ∀ N, SameH N β' ((β.mix β').add (.l i m) (β'.blk (.h j)) (β'.cap (.h j)) (β'.esz (.h j)) zs.length) := fun N x _ => by
    have e := add_other (β.mix β') (r := .l i m) (x := .h x) (β'.blk (.h j)) (β'.cap (.h j)) (β'.esz (.h j)) zs.length (by simp)
    exact ⟨e.1, e.2.1, e.2.2.1, e.2.2.2⟩
  have memHeap : ∀ {x : Nat} {ox : Ob}, HasMem ((β.mix β').add (.l i m) (β'.blk (.h j)) (β'.cap (.h j)) (β'.esz (.h j)) zs.length) (.h x) ox → HasMem β' (.h x) ox := by
    intro x ox hmm
    cases ox with
    | row T' xs' => exact hmm
    | bare => exact hmm
    | _ => trivial
  have memLoc : ∀ {i' g : Nat} {ox : Ob}, i' ≠ i → HasMem ((β.mix β').add (.l i m) (β'.blk (.h j)) (β'.cap (.h j)) (β'.esz (.h j)) zs.length) (.l i' g) ox → HasMem β (.l i' g) ox := by
    intro i' g ox hne hmm
    have e := add_other (β.mix β') (r := .l i m) (x := .l i' g) (β'.blk (.h j)) (β'.cap (.h j)) (β'.esz (.h j)) zs.length (fun e => hne (by cases e; rfl))
    cases ox with
    | row T' xs' => simp only [HasMem] at hmm ⊢; rw [e.2.1] at hmm; exact hmm
    | bare => exact hmm
    | _ => trivial
  have memRow : HasMem ((β.mix β').add (.l i m) (β'.blk (.h j)) (β'.cap (.h j)) (β'.esz (.h j)) zs.length) (.l i m) (.row T zs) → HasMem β' (.h j) (.row T ys) := by
    intro hmm
    simp only [HasMem] at hmm ⊢; rw [mix2.2.1] at hmm; exact hmm
  have heapOld : ∀ {x : Nat} {ox : Ob}, get σ (.h x) = some ox → x < size σ ∧ get (base hp) (.h x) = some ox ∧ frozen (base hp) (.h x) = frozen σ (.h x) ∧ ox.data := by
    intro x ox hx
    have hxl : x < size σ := get_old hx
    have e := hch x hxl
    refine ⟨hxl, ?_, ?_, ?_⟩
    · show (getH hp x).map (·.o) = some ox
      rw [e]; exact hx
    · show ((getH hp x).map (·.fz)).getD true = ((getH σ.hp x).map (·.fz)).getD true
      rw [e]
    · simp only [get, Option.map_eq_some_iff] at hx
      obtain ⟨y, hy, rfl⟩ := hx
      exact hpp x y hy
  have ownHp : ∀ {x : Nat} {ox : Ob}, get (base hp) (.h x) = some ox → HasMem β' (.h x) ox → Owned σ β (β'.blk (.h x)) ∨ w.heap.size ≤ β'.blk (.h x) := by
    intro x ox hx hmm
    rcases f.own _ ⟨.h x, ox, hx, hmm, rfl⟩ with h1 | h1
    · exact .inl (ownB h1)
    · exact .inr h1
  have apart2 : ∀ {x : Nat} {ox : Ob} {i' g : Nat} {oy : Ob}, get (base hp) (.h x) = some ox → HasMem β' (.h x) ox → get σ (.l i' g) = some oy → i' ≠ i → HasMem β (.l i' g) oy → β'.blk (.h x) ≠ β.blk (.l i' g) := by
    intro x ox i' g oy hx hmx hy hne hmy he
    rcases f.own _ ⟨.h x, ox, hx, hmx, rfl⟩ with h1 | h1
    · rw [he] at h1; exact apart hy hne hmy h1
    · rw [he] at h1; have := mem_lt h hy hmy; omega
  refine ⟨(β.mix β').add (.l i m) (β'.blk (.h j)) (β'.cap (.h j)) (β'.esz (.h j)) zs.length, ?_, ?_, mix2.1, mix2.2.1, mix2.2.2.1, mix2.2.2.2, hzl⟩
  · refine h.change f.keep k.1.inw (Nat.le_refl _) hgen sameHm sameLm (fun r => (∃ x, r = .h x) ∨ r = .l i m) ?_ ?_ ?_ (fun t => .inl ⟨rfl, rfl⟩) h.bound h.defers
    · intro r ox hx hN
      cases r with
      | h x => exact (hN (.inl ⟨x, rfl⟩)).elim
      | l i' g =>
        rcases getl hx with ⟨rfl, rfl, _⟩ | ⟨hne, hx'⟩
        · exact (hN (.inr rfl)).elim
        · refine ⟨hx', rfl, fun mm => ?_⟩
          have hlt := mem_lt h hx' mm
          have hap := apart hx' hne mm
          refine ⟨fun y hy => by rw [f.frame _ hlt hap]; exact hy, fun off => ⟨fun hb => ?_, fun hb => (f.keep _ _ hb).1⟩⟩
          rcases f.newS _ _ hb with h1 | h1 | h1
          · exact h1
          · exact (hap h1).elim
          · omega
    · rintro r ox hx (⟨x, rfl⟩ | rfl)
      · have hx' : get σ (.h x) = some ox := hx
        obtain ⟨g1, g2, g3, g4⟩ := heapOld hx'
        obtain ⟨k1, k2⟩ := k.1.obj _ _ g2
        rw [g3] at k1
        exact ⟨k1.move g4 (Keeps.refl w' S') (sameHh hp.objs.length) k2 (sameHh (x + 1) x (by omega)) (fun _ y hy => hy) (fun _ _ => Iff.rfl), (h.obj _ _ hx').2.mono (Nat.le_refl _) hgen⟩
      · rcases getl hx with ⟨_, _, rfl⟩ | ⟨hne, _⟩
        · refine ⟨?_, ?_⟩
          · have hfz : frozen { σ with loc := upd σ.loc i ⟨m, some (.row T zs)⟩ } (.l i m) = false := hz
            rw [hfz]
            refine ⟨mix2.2.2.2, ?_⟩
            have hfl : D.lts (size σ) ys := D.flats_lts ys hf
            rcases hok.2 with ⟨hc0, hy0⟩ | hrow
            · left
              refine ⟨mix2.2.1.trans hc0, ?_⟩
              subst hy0
              obtain ⟨m', rfl⟩ := hzs
              simp
            · right
              refine ⟨by rw [mix2.2.1]; exact hrow.cap, by rw [mix2.2.2.1]; exact hrow.esz, by rw [mix2.2.2.1]; exact hrow.ty, by rw [mix2.2.1]; exact Nat.le_trans hzl hrow.fits, ?_, ?_, ?_, by rw [mix2.1]; exact hrow.org⟩
              · obtain ⟨C, z, m1, m2, m3, m4⟩ := hrow.mem
                refine ⟨C, z, by rw [mix2.1]; exact m1, by rw [mix2.2.1, mix2.2.2.1]; exact m2, by simpa using m3, fun p x hx => ?_⟩
                rw [mix2.2.2.1]
                have hx' : ys[p]? = some x := by
                  obtain ⟨m', rfl⟩ := hzs
                  rw [List.getElem?_take] at hx
                  split at hx
                  · exact hx
                  · simp at hx
                exact (m4 p x hx').keep (Keeps.refl w' S') (sameHh (size σ)) (lts_iff.1 hfl x (List.mem_of_getElem? hx'))
              · intro off hb
                rw [mix2.1] at hb
                have := (hrow.free off hb).1
                simp at this
              · intro hb; simp at hb
          · show D.lts (size σ) zs
            have hfl : D.lts (size σ) ys := D.flats_lts ys hf
            obtain ⟨m', rfl⟩ := hzs
            rw [lts_iff] at hfl ⊢
            exact fun d hd => hfl d (List.mem_of_mem_take hd)
        · exact (hne rfl).elim
    · rintro r r' ox oy hx hy hne hN m1 m2
      -- the names behind
      have blkH : ∀ x, ((β.mix β').add (.l i m) (β'.blk (.h j)) (β'.cap (.h j)) (β'.esz (.h j)) zs.length).blk (.h x) = β'.blk (.h x) := fun x => rfl
      have blkL : ∀ {i' g}, i' ≠ i → ((β.mix β').add (.l i m) (β'.blk (.h j)) (β'.cap (.h j)) (β'.esz (.h j)) zs.length).blk (.l i' g) = β.blk (.l i' g) := fun hne' =>
        (add_other (β.mix β') (r := .l i m) (β'.blk (.h j)) (β'.cap (.h j)) (β'.esz (.h j)) zs.length (fun e => hne' (by cases e; rfl))).1
      rcases hN with ⟨x, rfl⟩ | rfl
      · have hx' : get σ (.h x) = some ox := hx
        obtain ⟨g1, g2, _, _⟩ := heapOld hx'
        cases r' with
        | h y =>
          have hy' : get σ (.h y) = some oy := hy
          exact k.1.sep (.h x) (.h y) ox oy g2 (heapOld hy').2.1 hne (memHeap m1) (memHeap m2)
        | l i' g =>
          rcases getl hy with ⟨rfl, rfl, rfl⟩ | ⟨hne', hy'⟩
          · rw [blkH, mix2.1]
            exact k.1.sep (.h x) (.h j) ox _ g2 hjg (by intro e; cases e; omega) (memHeap m1) (memRow m2)
          · rw [blkH, blkL hne']
            exact apart2 g2 (memHeap m1) hy' hne' (memLoc hne' m2)
      · rcases getl hx with ⟨_, _, rfl⟩ | ⟨hne', _⟩
        · rw [mix2.1]
          cases r' with
          | h y =>
            have hy' : get σ (.h y) = some oy := hy
            obtain ⟨g1, g2, _, _⟩ := heapOld hy'
            rw [blkH]
            exact k.1.sep (.h j) (.h y) _ oy hjg g2 (by intro e; cases e; omega) (memRow m1) (memHeap m2)
          | l i' g =>
            rcases getl hy with ⟨rfl, rfl, rfl⟩ | ⟨hne', hy'⟩
            · exact (hne rfl).elim
            · rw [blkL hne']
              exact apart2 hjg (memRow m1) hy' hne' (memLoc hne' m2)
        · exact (hne' rfl).elim
  · refine ⟨f.size, f.keep, fun b off hb => ?_, fun b hb ho => f.frame b hb (fun h1 => ho (ownB h1)), Nat.le_refl _, sameHm, ?_, f.os, f.tape, f.output⟩
    · rcases f.newS b off hb with h1 | h1 | h1
      · exact .inl h1
      · exact .inr (.inl (ownB h1))
      · exact .inr (.inr h1)
    · rintro b ⟨r, ox, hx, mm, rfl⟩
      cases r with
      | h x =>
        have hx' : get σ (.h x) = some ox := hx
        exact ownHp (heapOld hx').2.1 (memHeap mm)
      | l i' g =>
        rcases getl hx with ⟨rfl, rfl, rfl⟩ | ⟨hne', hx'⟩
        · rw [mix2.1]; exact ownHp hjg (memRow mm)
        · have e := add_other (β.mix β') (r := .l i m) (x := .l i' g) (β'.blk (.h j)) (β'.cap (.h j)) (β'.esz (.h j)) zs.length (fun e => hne' (by cases e; rfl))
          rw [e.1]
          exact .inl ⟨.l i' g, ox, hx', memLoc hne' mm, rfl⟩
end
end Go.AE

/- AE: the calls of functions, all of them. -/
namespace Go.AE

section
variable {P : Program} {c : Cfg} {o : Oper} {σ σ' : St} {a : Act} {w w' : World} {S S' : Fixed} {β β' : Emb}

/-- All arguments of a call. -/
theorem allArgs {first ds caps : List D} {fs cs : Array Value} {us : List Value} {n : Nat} (h1 : RVs w S β first fs.toList) (h2 : RVs w S β ds us) (h3 : RVs w S β caps cs.toList) (l1 : D.lts n first) (l2 : D.lts n ds) (l3 : D.lts n caps) :
    RVs w S β (first ++ ds ++ caps) (fs ++ us.toArray ++ cs).toList ∧ D.lts n (first ++ ds ++ caps) := by
  refine ⟨?_, ?_⟩
  · rw [Array.toList_append, Array.toList_append]
    exact RVs_append (RVs_append h1 h2) h3
  · have g1 := lts_iff.1 l1
    have g2 := lts_iff.1 l2
    have g3 := lts_iff.1 l3
    rw [lts_iff]
    intro d hd
    rcases List.mem_append.1 hd with hd | hd
    · rcases List.mem_append.1 hd with hd | hd
      · exact g1 d hd
      · exact g2 d hd
    · exact g3 d hd

/-- A slice of a local row. -/
theorem sl_bare {i n : Nat} (h : SR P σ a w S β) (hr : get σ (.l i n) = some .bare) {x : AV} {wd : Option (Nat × Nat)} (hx : (x = .lsf i n ∧ wd = none) ∨ ∃ off len, x = .ls i n off len ∧ wd = some (off, len)) (hw : wd.elim 0 (·.2) = 0)
    {u : Value} (hu : RA w S β x u) : RV w S β .nil0 u := by
  obtain ⟨b1, b2⟩ := (h.obj _ _ hr).1
  rcases hx with ⟨rfl, rfl⟩ | ⟨off, len, rfl, rfl⟩
  · obtain ⟨p, rfl, _⟩ : ∃ p, u = .slice p (β.len (.l i n)) (β.cap (.l i n)) ∧ _ := by simpa only [RA, RA1] using hu
    rw [b1, b2]; simp only [RV]; exact ⟨p, rfl⟩
  · obtain ⟨p, cap, rfl, hc, _⟩ : ∃ p cap, u = .slice p len cap ∧ off + cap = β.cap (.l i n) ∧ _ := by simpa only [RA, RA1] using hu
    have hl : len = 0 := hw
    have : cap = 0 := by omega
    subst hl; subst this
    simp only [RV]; exact ⟨p, rfl⟩

def lentArg (id : Nat) (wd : Option (Nat × Nat)) : D :=
  match wd with
  | none => .hsf id
  | some p => .hs id p.1 p.2

theorem sl_lent {i n N : Nat} {x : AV} {wd : Option (Nat × Nat)} (hx : (x = .lsf i n ∧ wd = none) ∨ ∃ off len, x = .ls i n off len ∧ wd = some (off, len)) {u : Value} (hu : RA w S β x u) :
    RV w S (β.add (.h N) (β.blk (.l i n)) (β.cap (.l i n)) (β.esz (.l i n)) (β.len (.l i n))) (lentArg N wd) u := by
  have e := add_here β (.h N) (β.blk (.l i n)) (β.cap (.l i n)) (β.esz (.l i n)) (β.len (.l i n))
  rcases hx with ⟨rfl, rfl⟩ | ⟨off, len, rfl, rfl⟩
  · simp only [RA, RA1] at hu
    simp only [lentArg, RV]
    rw [e.1, e.2.1, e.2.2.2]; exact hu
  · simp only [RA, RA1] at hu
    simp only [lentArg, RV]
    rw [e.1, e.2.1, e.2.2.1]; exact hu

theorem below_none {id : Nat} {o : Option Nat} (h : (below id o).isNone = true) : ∀ x, o = some x → id ≤ x := by
  intro x hx
  subst hx
  unfold below at h
  simp only at h
  split at h
  · simp at h
  · omega

theorem lendOp_ok {call : CallF} (hC : CallOK c.P call) (hpp : HpPure σ.hp) (h : SR c.P σ a w S β) {cl : Call} {g : Operand} (hop : o.op = .call cl) (hc : cl.callee = .value g) {fid : FuncId} {first caps : List D}
    (hg : opd σ.env g = some (.d (.fn fid first caps))) {i n : Nat} {wd : Option (Nat × Nat)} {x : AV} {rest : List AV} (ha : opds σ.env cl.args.toList = some (x :: rest)) (hx : (x = .lsf i n ∧ wd = none) ∨ ∃ off len, x = .ls i n off len ∧ wd = some (off, len))
    {e : Eff} (he : lendOp call σ fid first caps i n wd rest = some e) : RanA c o σ a w S β e := by
  obtain ⟨g1, g2⟩ := opd_ok h hg
  obtain ⟨r1, r2⟩ := opds_ok h ha
  obtain ⟨u0, us, hus, hu0, hur⟩ := r1
  obtain ⟨fs, cs, hgv, v1, v2⟩ : ∃ fs cs : Array Value, a.eval g = .func (.func fid) fs cs ∧ RVs w S β first fs.toList ∧ RVs w S β caps cs.toList := by simpa only [RA, RA1, RV] using g1
  have g2' : D.lts (size σ) first ∧ D.lts (size σ) caps := by simpa only [AV.lt, AV.lt1, D.lt] using g2
  have hargs : cl.args.map a.eval = (u0 :: us).toArray := args_eq hus
  unfold lendOp at he
  split at he
  · -- no memory
    rename_i ds f hb hr
    split at he
    case isFalse => simp at he
    rename_i hw
    split at he
    case h_2 => simp at he
    rename_i R hR
    obtain ⟨S1, s1, s2, s3, s4⟩ := resolves_ok h hr hur (fun y hy => r2 y (by simp [hy]))
    have hk := Keeps.mono (w := w) s2.1
    obtain ⟨A1, A2⟩ := allArgs (n := size σ) (RVs.keep hk (SameH.refl (size σ) β) _ _ g2'.1 v1) (ds := .nil0 :: ds) (us := u0 :: us) ⟨u0, us, rfl, sl_bare (S := S1) s1 hb hx hw (RA.keep hk (SameH.refl (size σ) β) (SameL.refl (gen σ) β) (r2 x (by simp)) hu0), s3⟩
      (RVs.keep hk (SameH.refl (size σ) β) _ _ g2'.2 v2) g2'.1 ⟨by simp [D.lt], s4⟩ g2'.2
    have hHR : HR c.P σ.hp w S1 β := SR.toHR (σ := withFz σ f) s1 hpp
    have hcb := hC _ _ _ _ hR w S1 β _ hHR A1 A2
    have fin : back σ 0 f { R with hp := joinHp σ.hp R.hp } = some e → RanA c o σ a w S β e := by
      intro he
      refine ⟨hcb.toW (run_call hop hc hgv hargs) fun v w' hb => ?_, by
        rw [back_heap he]
        obtain ⟨_, _, hb⟩ := hcb.fact
        exact HStep.join hb.1⟩
      obtain ⟨S', β', k1, k2, k3, k4⟩ := back_ok s1 hb he
      exact ⟨S', β', k1, (Fr.fz s2).trans k2, k3, k4⟩
    split at he
    · exact fin he
    · exact fin he
    · simp at he
  · -- memory
    rename_i T xs ds f hro hr
    split at he
    · simp at he
    rename_i hz
    split at he
    case h_2 => simp at he
    rename_i R hR
    split at he
    case isFalse => simp at he
    rename_i hch
    obtain ⟨S1, s1, s2, s3, s4⟩ := resolves_ok h hr hur (fun y hy => r2 y (by simp [hy]))
    have hk := Keeps.mono (w := w) s2.1
    have hro1 : get (withFz σ f) (.l i n) = some (.row T xs) := hro
    have hz1 : (withFz σ f).fz i = false := by simpa [withFz] using hz
    obtain ⟨q1, q2⟩ := s1.rename hro1 trivial (moved_lent hro1 hz1)
    have hk2 : Keeps w S w S1 := hk
    have lt1 : size σ ≤ size σ + 1 := Nat.le_succ _
    have hsame := q2.sameH
    have keepV : ∀ {ds : List D} {us : List Value}, D.lts (size σ) ds → RVs w S1 β ds us → RVs w S1 (β.add (.h (size σ)) (β.blk (.l i n)) (β.cap (.l i n)) (β.esz (.l i n)) (β.len (.l i n))) ds us :=
      fun hl hv => RVs.keep (Keeps.refl w S1) hsame _ _ hl hv
    obtain ⟨A1, A2⟩ := allArgs (n := size σ + 1) (keepV g2'.1 (RVs.keep hk (SameH.refl (size σ) β) _ _ g2'.1 v1)) (ds := lentArg (size σ) wd :: ds) (us := u0 :: us)
      ⟨u0, us, rfl, sl_lent hx (RA.keep hk (SameH.refl (size σ) β) (SameL.refl (gen σ) β) (r2 x (by simp)) hu0), keepV s4 s3⟩
      (keepV g2'.2 (RVs.keep hk (SameH.refl (size σ) β) _ _ g2'.2 v2)) (D.lts.mono lt1 _ g2'.1) ⟨by rcases hx with ⟨_, rfl⟩ | ⟨_, _, _, rfl⟩ <;> simp [lentArg, D.lt], D.lts.mono lt1 _ s4⟩ (D.lts.mono lt1 _ g2'.2)
    have hpp2 : HpPure (pushHp σ.hp ⟨.row T xs, false⟩) := pure_push hpp trivial
    have hHR : HR c.P (pushHp σ.hp ⟨.row T xs, false⟩) w S1 (β.add (.h (size σ)) (β.blk (.l i n)) (β.cap (.l i n)) (β.esz (.l i n)) (β.len (.l i n))) := SR.toHR (σ := lentSt (withFz σ f) i n (.row T xs)) q1 hpp2
    have hR' : call fid (first ++ lentArg (size σ) wd :: ds ++ caps) (pushHp σ.hp ⟨.row T xs, false⟩) = some R := hR
    have hcb := hC _ _ _ _ hR' w S1 _ _ hHR A1 (by
      have : (pushHp σ.hp ⟨.row T xs, false⟩).objs.length = size σ + 1 := by simp [pushHp, size]
      rw [this]; exact A2)
    obtain ⟨_, _, hrel, _⟩ := hcb.fact
    have c2 := hrel.ch
    have hbel := below_none hch
    have hold : ∀ x, x < size σ → getH R.hp x = getH σ.hp x := by
      intro x hxl
      have hxl' : x < σ.hp.objs.length := hxl
      have e1 := c2 x (by simp [pushHp]; omega) (fun y hy => Nat.lt_of_lt_of_le hxl (hbel y hy))
      rw [e1, getH_push, if_neg (by omega)]
    -- what came back, by its kind
    have fin : ∀ {j m : Nat} {ys zs : List D} {v0 : AV}, lentRow R.hp (size σ) j T = some ys → (∃ m', zs = ys.take m') → (m = n + 1 ∨ (m = n ∧ j = size σ ∧ zs.length = xs.length)) → (v0 = .lsf i m ∨ v0 = .d (.tup [])) →
        (∀ (w' : World) (S' : Fixed) (β' β2 : Emb) v, RR c.P (pushHp σ.hp ⟨.row T xs, false⟩) w (β.add (.h (size σ)) (β.blk (.l i n)) (β.cap (.l i n)) (β.esz (.l i n)) (β.len (.l i n))) R.hp w' S' β' R.r v → β'.len (.h j) = ys.length →
          β2.blk (.l i m) = β'.blk (.h j) → β2.cap (.l i m) = β'.cap (.h j) → β2.len (.l i m) = zs.length → RA w' S' β2 v0 v) →
        RanA c o σ a w S β { v := v0, lw := [(i, ⟨m, some (.row T zs)⟩)], fw := f } := by
      intro j m ys zs v0 hlr hzs hm hv0 hra
      obtain ⟨l1, l2, l3⟩ := lentRow_ok hlr
      refine ⟨hcb.toW (run_call hop hc hgv hargs) fun v w' hb => ?_, HStep.refl _⟩
      obtain ⟨_, S', β', k1, k2, k3⟩ := hb
      obtain ⟨β2, t1, t2, t3, t4, t5, t6, t7⟩ := s1.lent hpp hro1 hz1 k1 k2 hold l1 l2 l3 hzs hm
      have hjg : get (base R.hp) (.h j) = some (.row T ys) := by
        show (getH R.hp j).map (·.o) = _
        rw [l2]; rfl
      have hlen : β'.len (.h j) = ys.length := (k1.1.obj _ _ hjg).1.1
      refine ⟨S', β2, t1, (Fr.fz s2).trans t2, hra w' S' β' β2 v k3 hlen t3 t4 t6, ?_⟩
      rcases hv0 with rfl | rfl
      · simp [AV.lt, AV.lt1, gen, apply, setMany, upd_same]
      · simp [AV.lt, AV.lt1, D.lt, D.lts]
    unfold lentBack at he
    split at he
    · rename_i j hj
      simp only [Option.map_eq_some_iff] at he
      obtain ⟨ys, hys, rfl⟩ := he
      refine fin hys ⟨ys.length, by simp⟩ (.inl rfl) (.inl rfl) fun w' S' β' β2 v hrr hlen b1 b2 b3 => ?_
      rw [hj] at hrr
      have hv : RV w' S' β' (.hsf j) v := hrr.1
      simp only [RV] at hv
      simp only [RA, RA1]
      rw [b1, b2, b3, ← hlen]; exact hv
    · rename_i j len hj
      simp only [Option.bind_eq_some_iff] at he
      obtain ⟨ys, hys, he⟩ := he
      split at he
      case isFalse => simp at he
      rename_i hle
      simp only [Option.some.injEq] at he; subst he
      refine fin hys ⟨len, rfl⟩ (.inl rfl) (.inl rfl) fun w' S' β' β2 v hrr hlen b1 b2 b3 => ?_
      rw [hj] at hrr
      have hv : RV w' S' β' (.hs j 0 len) v := hrr.1
      simp only [RV] at hv
      obtain ⟨p, cap, rfl, hc1, hc2⟩ := hv
      simp only [RA, RA1]
      have hzl : (ys.take len).length = len := by simp; omega
      rw [b1, b2, b3, hzl]
      have : cap = β'.cap (.h j) := by omega
      rw [Nat.zero_mul] at hc2
      exact ⟨p, by rw [this], hc2⟩
    · rename_i hj
      simp only [Option.bind_eq_some_iff] at he
      obtain ⟨ys, hys, he⟩ := he
      split at he
      case isFalse => simp at he
      rename_i hle
      simp only [Option.some.injEq] at he; subst he
      refine fin hys ⟨ys.length, by simp⟩ (.inr ⟨rfl, rfl, hle⟩) (.inr rfl) fun w' S' β' β2 v hrr hlen b1 b2 b3 => ?_
      rw [hj] at hrr
      have hv : RV w' S' β' (.tup []) v := hrr.1
      simp only [RV, RVs] at hv
      simp only [RA, RA1, RV, RVs]; exact hv
    · simp at he
  · simp at he

/-- Every operation is what the machine does. -/
theorem opAll_ok {call : CallF} (hP : WFP c.P) (hC : CallOK c.P call) (hpp : HpPure σ.hp) (h : SR c.P σ a w S β) {f : FuncId} {e : Eff} (he : opStep c call f σ o = some e)   : RanA c o σ a w S β e := by
  by_cases hn : isFnCall o
  · obtain ⟨cl, g, hop, hc⟩ := hn
    unfold opStep at he
    rw [hop] at he
    simp only [opCall] at he
    split at he
    case h_2 => simp at he
    rename_i args ha
    rw [hc] at he
    simp only at he
    split at he
    case h_2 => simp at he
    rename_i gv hgv
    refine callOp_ok hC hpp h hop hc hgv ha he ?_
    rintro fid first caps i n wd rest rfl hx hl
    rcases hx with ⟨rfl, rfl⟩ | ⟨off, len, rfl, rfl⟩
    · exact lendOp_ok hC hpp h hop hc hgv ha (.inl ⟨rfl, rfl⟩) hl
    · exact lendOp_ok hC hpp h hop hc hgv ha (.inr ⟨off, len, rfl, rfl⟩) hl
  · exact ⟨(opStep_ok hP h hn he).toW, opStep_heap hP hn he hpp⟩
end
end Go.AE

/- AE: the operations of a region, one behind another. -/
namespace Go.AE

/-- What stands at all times. -/
structure Inv (c : Cfg) (hp0 : Hp) (N : Nat) (σ : St) (a : Act) (w : World) (S : Fixed) (β : Emb) : Prop where
  sr : SR c.P σ a w S β
  hp : HpRel hp0 σ.hp
  n : a.tmps.size = N

section
variable {c : Cfg} {call : CallF} {f : FuncId} {hp0 : Hp} {N : Nat} {σ σ' : St} {a : Act} {w w' : World} {S S' : Fixed} {β β' : Emb}

theorem wants_ok (h : SR c.P σ a w S β) {ops : Array Oper} {o : Oper} {b : Bool} (hw : wants ops σ.env o = some b) : Region.wanted o (yielded ops a.tmps) = b := by
  unfold wants at hw
  unfold Region.wanted
  split at hw
  · rename_i hg
    simp only [Option.some.injEq] at hw; subst hw
    simp only [hg]
  · rename_i j want hg
    simp only [hg]
    split at hw
    case h_2 => simp at hw
    rename_i t ht
    have hr := (h.env t).2
    simp only [yielded, ht, Option.bind_some]
    split at hw
    · rename_i b' hb
      simp only [Option.some.injEq] at hw; subst hw
      rw [hb] at hr
      have hv : a.tmps.getD t undef = .bool b' := by simpa only [RA, RA1, RV] using hr
      have hget : a.tmps[t]? = some (.bool b') := by
        cases hx : a.tmps[t]? with
        | none => rw [Array.getD_eq_getD_getElem?, hx] at hv; simp [undef] at hv
        | some x => rw [Array.getD_eq_getD_getElem?, hx] at hv; simp at hv; rw [hv]
      rw [hget]
      cases b' <;> cases want <;> rfl
    · rename_i hb
      simp only [Option.some.injEq] at hw; subst hw
      rw [hb] at hr
      have hv : a.tmps.getD t undef = .tuple #[] := by simpa only [RA, RA1, RV, RVs, Array.toList_eq_nil_iff, exists_eq_right] using hr
      cases hx : a.tmps[t]? with
      | none => cases want <;> rfl
      | some x =>
        rw [Array.getD_eq_getD_getElem?, hx] at hv
        simp at hv; subst hv
        cases want <;> rfl
    · simp at hw

/-- What follows behind a state. -/
def Then (c : Cfg) (hp0 : Hp) (N : Nat) (σ : St) (w : World) (S : Fixed) (β : Emb) (σ' : St) (next : Act → World → Prop) : Prop :=
  ∀ a' w' S' β', Inv c hp0 N σ' a' w' S' β' → Fr σ w S β σ' w' S' β' → next a' w'

theorem stepOp_ok (hP : WFP c.P) (hC : CallOK c.P call) (h : Inv c hp0 N σ a w S β) {ops : Array Oper} {o : Oper} (hd : ∀ t, o.dst = some t → t < N) (he : stepOp c call f ops o σ = some σ') {next : Act → World → Prop} {Q : Exit → Act → World → Prop}
    (hn : Then c hp0 N σ w S β σ' next) :
    if Region.wanted o (yielded ops a.tmps) then o.wp c.P a w next Q ∨ (o.asks c.P a w ∧ LetsOut Q) else next (a.put o.dst undef) w := by
  have hdst : DstOk a o.dst := fun t ht => by rw [h.n]; exact hd t ht
  unfold stepOp at he
  split at he
  case h_2 => simp at he
  rename_i e he0
  simp only [Option.some.injEq] at he; subst he
  unfold stepEff at he0
  split at he0
  · rename_i hw
    rw [wants_ok h.sr hw]
    simp only [if_true]
    have hst := he0
    obtain ⟨r1, r2⟩ := opAll_ok hP hC h.hp.pure h.sr hst
    left
    refine r1 next Q fun w' S' β' u k1 k2 k3 k4 => hn _ _ S' β' ⟨k1.slot hdst k4 k3, ?_, by rw [put_size]; exact h.n⟩ k2.slot
    rw [apply_hp]
    exact r2 hp0 h.hp
  · rename_i hw
    rw [wants_ok h.sr hw]
    simp only [Bool.false_eq_true, if_false]
    simp only [Option.some.injEq] at he0; subst he0
    have hv : RA w S β (.d (.tup [])) undef := by simp only [RA, RA1, RV, RVs]; exact ⟨#[], rfl, rfl⟩
    have hl : (AV.d (.tup [])).lt (size (apply σ none { v := .d (.tup []) })) (gen (apply σ none { v := .d (.tup []) })) := by simp [AV.lt, AV.lt1, D.lt, D.lts]
    have k : SR c.P (apply σ none { v := .d (.tup []) }) a w S β := h.sr
    have k2 : Fr σ w S β (apply σ none { v := .d (.tup []) }) w S β := Fr.refl σ w S β
    refine hn _ _ S β ⟨k.slot hdst hl hv, ?_, by rw [put_size]; exact h.n⟩ k2.slot
    rw [apply_hp]; exact h.hp
  · simp at he0

theorem runOps_nil {ops : Array Oper} : runOps c call f ops [] σ = some σ := rfl
theorem runOps_cons {ops : Array Oper} {o : Oper} {l : List Oper} : runOps c call f ops (o :: l) σ = match stepOp c call f ops o σ with
    | some σ' => runOps c call f ops l σ'
    | none => none := rfl

theorem runOps_ok (hP : WFP c.P) (hC : CallOK c.P call) {ops : Array Oper} {Q : Exit → Act → World → Prop} : ∀ (l : List Oper) {σ σ' : St} {a : Act} {w : World} {S : Fixed} {β : Emb}, Inv c hp0 N σ a w S β → (∀ o ∈ l, ∀ t, o.dst = some t → t < N) →
    runOps c call f ops l σ = some σ' → Then c hp0 N σ w S β σ' (Q .normal) → wpList c.P ops Q l a w
  | [], σ, σ', a, w, S, β, h, _, he, hn => by
    rw [runOps_nil] at he
    simp only [Option.some.injEq] at he; subst he
    exact hn a w S β h (Fr.refl _ _ _ _)
  | o :: l, σ, σ', a, w, S, β, h, hd, he, hn => by
    rw [runOps_cons] at he
    split at he
    case h_2 => simp at he
    rename_i σ1 h1
    simp only [wpList]
    refine stepOp_ok hP hC h (hd o (by simp)) h1 fun a1 w1 S1 β1 k1 k2 => ?_
    exact runOps_ok hP hC l k1 (fun o ho => hd o (by simp [ho])) he fun a' w' S' β' j1 j2 => hn a' w' S' β' j1 (k2.trans j2)

theorem region_ok (hP : WFP c.P) (hC : CallOK c.P call) {id : Nat} {ops : Array Oper} {Q : Exit → Act → World → Prop} (h : Inv c hp0 N σ a w S β) (hd : ∀ o ∈ ops.toList, ∀ t, o.dst = some t → t < N)
    (he : runOps c call f ops ops.toList σ = some σ') (hn : Then c hp0 N σ w S β σ' (Q .normal)) : (Code.region id ops false).wp c.P Q a w := by
  refine wp_region ?_
  have := wpOps_eq_wpList (P := c.P) (ops := ops) (Q := Q) ops.toList 0 (by intro j; simp)
  rw [List.range_eq_range']
  have hl : ops.toList.length = ops.size := by simp
  rw [hl] at this
  rw [this]
  exact runOps_ok hP hC ops.toList h hd he hn
end
end Go.AE

/- AE: at a loop's head what is dead is forgotten, and generations begin anew. -/
namespace Go.AE

theorem setMany_map {α : Type} (F : Nat → α) : ∀ (ts : List Nat) (f0 : Nat → α) (x : Nat), setMany f0 (ts.map fun t => (t, F t)) x = if x ∈ ts then F x else f0 x
  | [], f0, x => by simp [setMany]
  | t :: r, f0, x => by
    have e : setMany f0 ((t :: r).map fun t => (t, F t)) = setMany (upd f0 t (F t)) (r.map fun t => (t, F t)) := rfl
    rw [e, setMany_map F r]
    by_cases hr : x ∈ r
    · rw [if_pos hr, if_pos (by simp [hr])]
    · rw [if_neg hr]
      by_cases hx : x = t
      · subst hx; rw [upd_same, if_pos (by simp)]
      · rw [upd_other _ _ hx, if_neg (by simp [hr, hx])]

section
variable {P : Program} {σ : St} {a : Act} {w : World} {S : Fixed} {β : Emb} {ts ks : List Nat}

/-- The embedding behind it. -/
def Emb.renew (β : Emb) (gs : Nat → Nat) : Emb where
  blk r := match r with | .l i _ => β.blk (.l i (gs i)) | .h i => β.blk (.h i)
  cap r := match r with | .l i _ => β.cap (.l i (gs i)) | .h i => β.cap (.h i)
  esz r := match r with | .l i _ => β.esz (.l i (gs i)) | .h i => β.esz (.h i)
  len r := match r with | .l i _ => β.len (.l i (gs i)) | .h i => β.len (.h i)

theorem sameH_renew (β : Emb) (gs : Nat → Nat) (n : Nat) : SameH n β (β.renew gs) := fun _ _ => ⟨rfl, rfl, rfl, rfl⟩

theorem renew_env (t : Nat) : (renew ts ks σ).env t = if t ∈ ts then renewA σ.loc (σ.env t) else .d .undef := setMany_map (fun t => renewA σ.loc (σ.env t)) ts _ t

theorem renew_loc (k : Nat) : (renew ts ks σ).loc k = if k ∈ ks then ⟨0, renewO σ.loc (σ.loc k).o⟩ else ⟨0, none⟩ := setMany_map (fun k => (⟨0, renewO σ.loc (σ.loc k).o⟩ : LOb)) ks _ k

theorem renew_gen (k : Nat) : gen (renew ts ks σ) k = 0 := by
  simp only [gen, renew_loc]
  split <;> rfl

theorem getL_self (loc : Nat → LOb) (i : Nat) : getL loc i (loc i).g = (loc i).o := by simp [getL, Nat.beq_refl]

theorem renew_get {k g : Nat} {o : Ob} (h : get (renew ts ks σ) (.l k g) = some o) : g = 0 ∧ k ∈ ks ∧ ∃ o0, get σ (.l k (gen σ k)) = some o0 ∧ renewO σ.loc (some o0) = some o := by
  have hg := gen_of_get h
  rw [renew_gen] at hg
  subst hg
  have h' : getL (renew ts ks σ).loc k 0 = some o := h
  simp only [getL, renew_loc] at h'
  by_cases hk : k ∈ ks
  · simp only [if_pos hk, Nat.beq_refl, cond_true] at h'
    refine ⟨rfl, hk, ?_⟩
    cases ho : (σ.loc k).o with
    | none => rw [ho] at h'; simp [renewO] at h'
    | some o0 =>
      rw [ho] at h'
      exact ⟨o0, by show getL σ.loc k (σ.loc k).g = _; rw [getL_self]; exact ho, h'⟩
  · simp only [if_neg hk, Nat.beq_refl, cond_true] at h'
    simp at h'

theorem renew1_ok {i g : Nat} {mk : AV} {u : Value} {n : Nat} (h : (σ.loc i).g = g → RA1 w S (β.renew (gen σ)) mk u) (hl : mk.lt1 n (gen (renew ts ks σ))) :
    RA1 w S (β.renew (gen σ)) (renew1 σ.loc i g mk) u ∧ (renew1 σ.loc i g mk).lt1 n (gen (renew ts ks σ)) := by
  unfold renew1
  cases hb : Nat.beq (σ.loc i).g g with
  | true => exact ⟨h (Nat.eq_of_beq_eq_true hb), hl⟩
  | false => exact ⟨by simp only [cond_false, RA1, RV], by simp [AV.lt1, D.lt]⟩

theorem renewA1_ok {v : AV} {u : Value} {n : Nat} (h : RA1 w S β v u) (hl : v.lt1 n (gen σ)) : RA1 w S (β.renew (gen σ)) (renewA σ.loc v) u ∧ (renewA σ.loc v).lt1 n (gen (renew ts ks σ)) := by
  have hz : ∀ i, 0 ≤ gen (renew ts ks σ) i := fun _ => Nat.zero_le _
  cases v with
  | d x => exact ⟨RV.keep (Keeps.refl w S) (sameH_renew β _ n) x u hl h, hl⟩
  | lp i g off => exact renew1_ok (fun hg => by simp only [RA1] at h ⊢; rw [← hg] at h; exact h) (hz i)
  | lr i g j off => exact renew1_ok (fun hg => by simp only [RA1] at h ⊢; rw [← hg] at h; exact h) (hz i)
  | lsf i g => exact renew1_ok (fun hg => by simp only [RA1] at h ⊢; rw [← hg] at h; exact h) (hz i)
  | ls i g off len => exact renew1_ok (fun hg => by simp only [RA1] at h ⊢; rw [← hg] at h; exact h) (hz i)
  | lb i g off len => exact renew1_ok (fun hg => by simp only [RA1] at h ⊢; rw [← hg] at h; exact h) (hz i)
  | agg cs => exact h.elim

theorem renewA_ok {v : AV} {u : Value} {n : Nat} (h : RA w S β v u) (hl : v.lt n (gen σ)) : RA w S (β.renew (gen σ)) (renewA σ.loc v) u ∧ (renewA σ.loc v).lt n (gen (renew ts ks σ)) := by
  have key : ∀ {x : AV}, (∀ cs, x ≠ .agg cs) → (RA1 w S (β.renew (gen σ)) x u ∧ x.lt1 n (gen (renew ts ks σ))) → RA w S (β.renew (gen σ)) x u ∧ x.lt n (gen (renew ts ks σ)) := by
    intro x hx
    cases x <;> first | exact id | exact (hx _ rfl).elim
  have hna : ∀ cs, renewA σ.loc v ≠ .agg cs := by
    intro cs
    cases v <;> simp only [renewA, renew1] <;> first | (split <;> simp; done) | skip
    all_goals first | (intro h; cases h; done) | (cases Nat.beq _ _ <;> simp)
  cases v with
  | agg cs => exact ⟨by simp only [renewA, RA, RA1, RV], by simp [renewA, AV.lt, AV.lt1, D.lt]⟩
  | d x => exact key hna (renewA1_ok (v := .d x) h hl)
  | lp i g off => exact key hna (renewA1_ok (v := .lp i g off) h hl)
  | lr i g j off => exact key hna (renewA1_ok (v := .lr i g j off) h hl)
  | lsf i g => exact key hna (renewA1_ok (v := .lsf i g) h hl)
  | ls i g off len => exact key hna (renewA1_ok (v := .ls i g off len) h hl)
  | lb i g off len => exact key hna (renewA1_ok (v := .lb i g off len) h hl)

theorem hasMem_renew {β : Emb} {gs : Nat → Nat} {k g : Nat} {o0 o : Ob} {loc : Nat → LOb} (ho : renewO loc (some o0) = some o) : HasMem (β.renew gs) (.l k g) o → HasMem β (.l k (gs k)) o0 := by
  intro hm
  cases o0 with
  | box T cs => trivial
  | row T xs => simp only [renewO, Option.some.injEq] at ho; subst ho; exact hm
  | bare => simp only [renewO, Option.some.injEq] at ho; subst ho; exact hm
  | map es => trivial

theorem hasMem_renew_h {β : Emb} {gs : Nat → Nat} {i : Nat} {o : Ob} : HasMem (β.renew gs) (.h i) o → HasMem β (.h i) o := by
  intro hm
  cases o <;> exact hm

theorem renew_ok (h : SR P σ a w S β) (hp : HpPure σ.hp) : ∃ β', SR P (renew ts ks σ) a w S β' ∧ Fr σ w S β (renew ts ks σ) w S β' := by
  have hH : ∀ {i : Nat} {o : Ob}, get (renew ts ks σ) (.h i) = some o → get σ (.h i) = some o ∧ o.data := by
    intro i o ho
    have ho' : get σ (.h i) = some o := ho
    refine ⟨ho', ?_⟩
    simp only [get, Option.map_eq_some_iff] at ho'
    obtain ⟨x, hx, rfl⟩ := ho'
    exact hp i x hx
  refine ⟨β.renew (gen σ), ⟨?_, ?_, h.defers, ?_, ?_, h.inw⟩, ?_⟩
  · intro t
    rw [renew_env]
    split
    · obtain ⟨k1, k2⟩ := renewA_ok (ts := ts) (ks := ks) (h.env t).2 (h.env t).1
      exact ⟨k2, k1⟩
    · exact ⟨by simp [AV.lt, AV.lt1, D.lt], by simp only [RA, RA1, RV]⟩
  · intro t ht
    rw [renew_env, h.bound t ht]
    split <;> rfl
  · intro r o hr
    cases r with
    | h i =>
      obtain ⟨h1, h2⟩ := hH hr
      obtain ⟨k1, k2⟩ := h.obj _ _ h1
      exact ⟨k1.move h2 (Keeps.refl w S) (sameH_renew β _ (size σ)) k2 ⟨rfl, rfl, rfl, rfl⟩ (fun _ _ hx => hx) (fun _ _ => Iff.rfl), data_lt h2 k2⟩
    | l k g =>
      obtain ⟨rfl, hk, o0, h1, h2⟩ := renew_get hr
      obtain ⟨k1, k2⟩ := h.obj _ _ h1
      have hfz : frozen (renew ts ks σ) (.l k 0) = frozen σ (.l k (gen σ k)) := by
        show (renew ts ks σ).fz k = σ.fz k
        have := setMany_map (fun k => σ.fz k) ks (fun _ => true) k
        rw [if_pos hk] at this
        exact this
      rw [hfz]
      have other : o0.data → o = o0 → ObOk P w S (β.renew (gen σ)) (.l k 0) o (frozen σ (.l k (gen σ k))) ∧ o.lt (size σ) (gen (renew ts ks σ)) := by
        rintro hd rfl
        exact ⟨k1.move hd (Keeps.refl w S) (sameH_renew β _ (size σ)) k2 ⟨rfl, rfl, rfl, rfl⟩ (fun _ _ hx => hx) (fun _ _ => Iff.rfl), data_lt hd k2⟩
      cases o0 with
      | row T xs => simp only [renewO, Option.some.injEq] at h2; exact other trivial h2.symm
      | bare => simp only [renewO, Option.some.injEq] at h2; exact other trivial h2.symm
      | map es => simp only [renewO, Option.some.injEq] at h2; exact other trivial h2.symm
      | box T cs =>
        simp only [renewO, Option.some.injEq] at h2; subst h2
        obtain ⟨⟨C, z, m1, m2, m3, m4⟩, m5⟩ := k1
        have hcs : AV.lts (size σ) (gen σ) cs := k2
        refine ⟨⟨⟨C, z, m1, m2, m3, ?_⟩, m5⟩, ?_⟩
        · rw [RAs_iff] at m4 ⊢
          rw [alts_iff] at hcs
          refine ⟨by rw [List.length_map]; exact m4.1, fun i d v hd hv => ?_⟩
          rw [List.getElem?_map, Option.map_eq_some_iff] at hd
          obtain ⟨d0, hd0, rfl⟩ := hd
          exact (renewA1_ok (ts := ts) (ks := ks) (m4.2 i d0 v hd0 hv) (hcs d0 (List.mem_of_getElem? hd0))).1
        · show AV.lts (size σ) _ (cs.map (renewA σ.loc))
          have hl := m4
          rw [RAs_iff] at hl
          rw [alts_iff] at hcs ⊢
          intro d hd
          obtain ⟨d0, hd0, rfl⟩ := List.mem_map.1 hd
          obtain ⟨i, hi⟩ := List.getElem?_of_mem hd0
          have hil : i < C.toList.length := by rw [← hl.1]; exact (List.getElem?_eq_some_iff.1 hi).1
          exact (renewA1_ok (ts := ts) (ks := ks) (hl.2 i d0 _ hi (List.getElem?_eq_getElem hil)) (hcs d0 hd0)).2
  · intro r r' o o' hr hr' hne hm hm'
    cases r with
    | h i =>
      cases r' with
      | h j => exact h.sep (.h i) (.h j) o o' hr hr' hne (hasMem_renew_h hm) (hasMem_renew_h hm')
      | l k' g' =>
        obtain ⟨rfl, _, o0, h1, h2⟩ := renew_get hr'
        exact h.sep (.h i) (.l k' (gen σ k')) o o0 hr h1 (by simp) (hasMem_renew_h hm) (hasMem_renew h2 hm')
    | l k g =>
      obtain ⟨rfl, _, o0, h1, h2⟩ := renew_get hr
      cases r' with
      | h j => exact h.sep (.l k (gen σ k)) (.h j) o0 o' h1 hr' (by simp) (hasMem_renew h2 hm) (hasMem_renew_h hm')
      | l k' g' =>
        obtain ⟨rfl, _, o0', h1', h2'⟩ := renew_get hr'
        exact h.sep (.l k (gen σ k)) (.l k' (gen σ k')) o0 o0' h1 h1' (fun e => hne (by cases e; rfl)) (hasMem_renew h2 hm) (hasMem_renew h2' hm')
  · refine ⟨Nat.le_refl _, Keeps.refl w S, fun _ _ hb => .inl hb, fun _ _ _ => rfl, Nat.le_refl _, sameH_renew β _ _, ?_, rfl, rfl, rfl⟩
    rintro b ⟨r, o, hr, hm, rfl⟩
    left
    cases r with
    | h i => exact ⟨.h i, o, hr, hasMem_renew_h hm, rfl⟩
    | l k g =>
      obtain ⟨rfl, _, o0, h1, h2⟩ := renew_get hr
      exact ⟨.l k (gen σ k), o0, h1, hasMem_renew h2 hm, rfl⟩
end
end Go.AE

/- AE: code, all of it. -/
namespace Go.AE

def opDst (N : Nat) (o : Oper) : Bool :=
  match o.dst with
  | some t => Nat.blt t N
  | none => true

/-- What is asked of a function's text: its slots are there; where an order is drawn: dOk. -/
def codeOk (dOk : Nat → Array Oper → Bool) (N : Nat) : Code → Bool
  | .region id ops draw => ops.toList.all (opDst N) && (if draw then dOk id ops else true)
  | .seq a b => codeOk dOk N a && codeOk dOk N b
  | .cond _ a b => codeOk dOk N a && codeOk dOk N b
  | .block _ b => codeOk dOk N b
  | .loop b => codeOk dOk N b
  | .scope b => codeOk dOk N b
  | _ => true

def exitOf : Ex → Exit
  | .normal => .normal
  | .ret => .ret
  | .exit id => .exit id

theorem opDst_ok {N : Nat} {l : List Oper} (h : l.all (opDst N) = true) : ∀ o ∈ l, ∀ t, o.dst = some t → t < N := by
  intro o ho t ht
  have := List.all_eq_true.1 h o ho
  unfold opDst at this
  rw [ht] at this
  simpa using this

/-- A region whose order is drawn does what is said. -/
def DrawOK (c : Cfg) (call : CallF) (f : FuncId) (hp0 : Hp) (N : Nat) (dOk : Nat → Array Oper → Bool) : Prop :=
  ∀ (id : Nat) (ops : Array Oper), dOk id ops = true → (∀ o ∈ ops.toList, ∀ t, o.dst = some t → t < N) → ∀ {σ σ' : St} {a : Act} {w : World} {S : Fixed} {β : Emb} {Q : Exit → Act → World → Prop}, Inv c hp0 N σ a w S β →
    runD c call f ops (c.order f id) σ = some σ' → c.order f id ≠ [] → Then c hp0 N σ w S β σ' (Q .normal) → (Code.region id ops true).wp c.P Q a w

section
variable {c : Cfg} {call : CallF} {f : FuncId} {hp0 : Hp} {N fuel : Nat} {R : Type} {r : R}

/-- What is to be shown of code. -/
def ExOK (c : Cfg) (call : CallF) (f : FuncId) (hp0 : Hp) (N fuel : Nat) {R : Type} (r : R) (code : Code) : Prop :=
  ∀ (σ : St) (a : Act) (w : World) (S : Fixed) (β : Emb) (k : K R) (Q : Exit → Act → World → Prop), Inv c hp0 N σ a w S β → exec c call f fuel code σ k = some r →
    (∀ e σ', k e σ' = some r → Then c hp0 N σ w S β σ' (Q (exitOf e))) → code.wp c.P Q a w

theorem Then.trans {σ σ1 σ2 : St} {w w1 : World} {S S1 : Fixed} {β β1 : Emb} {next : Act → World → Prop} (h : Then c hp0 N σ w S β σ2 next) (k : Fr σ w S β σ1 w1 S1 β1) : Then c hp0 N σ1 w1 S1 β1 σ2 next :=
  fun a' w' S' β' h1 h2 => h a' w' S' β' h1 (k.trans h2)

theorem iter_zero {head : St → St} {body : St → (Ex → St → Option R) → Option R} {σ : St} {k : Ex → St → Option R} : iter head body 0 σ k = none := rfl
theorem iter_succ {head : St → St} {body : St → (Ex → St → Option R) → Option R} {n : Nat} {σ : St} {k : Ex → St → Option R} : iter head body (n + 1) σ k = body (head σ) fun e σ' => match e with
    | .normal => iter head body n σ' k
    | e => k e σ' := rfl

theorem exec_ok (hP : WFP c.P) (hC : CallOK c.P call) {dOk : Nat → Array Oper → Bool} (hD : DrawOK c call f hp0 N dOk) : ∀ (code : Code), codeOk dOk N code = true → ExOK c call f hp0 N fuel r code
  | .skip, _ => by
    intro σ a w S β k Q h he hn
    exact wp_skip (hn .normal σ he a w S β h (Fr.refl _ _ _ _))
  | .label l, _ => by
    intro σ a w S β k Q h he hn
    exact wp_label (hn .normal σ he a w S β h (Fr.refl _ _ _ _))
  | .ret, _ => by
    intro σ a w S β k Q h he hn
    exact wp_ret (hn .ret σ he a w S β h (Fr.refl _ _ _ _))
  | .exit id, _ => by
    intro σ a w S β k Q h he hn
    exact wp_exit (hn (.exit id) σ he a w S β h (Fr.refl _ _ _ _))
  | .region id ops draw, hok => by
    intro σ a w S β k Q h he hn
    have he' : exRegion c call f id ops draw σ k = some r := he
    simp only [codeOk, Bool.and_eq_true] at hok
    have hd := opDst_ok hok.1
    unfold exRegion at he'
    split at he'
    case h_2 => simp at he'
    rename_i σ' hr
    cases draw with
    | false => exact region_ok hP hC h hd hr (hn .normal σ' he')
    | true =>
      have hr' : (match c.order f id with
        | [] => none
        | l => runD c call f ops l σ) = some σ' := hr
      split at hr'
      · simp at hr'
      · rename_i l hl
        exact hD id ops (by simpa using hok.2) hd h hr' (fun h0 => hl h0) (hn .normal σ' he')
  | .seq x y, hok => by
    intro σ a w S β k Q h he hn
    simp only [codeOk, Bool.and_eq_true] at hok
    have hx := exec_ok hP hC hD x hok.1
    have hy := exec_ok hP hC hD y hok.2
    have he' : exec c call f fuel x σ (fun e σ' => match e with | .normal => exec c call f fuel y σ' k | e => k e σ') = some r := he
    refine wp_seq (hx _ _ _ _ _ _ _ h he' fun e σ' hk => ?_)
    cases e with
    | normal => exact fun a' w' S' β' h1 h2 => hy _ _ _ _ _ _ _ h1 hk fun e2 σ2 hk2 => (hn e2 σ2 hk2).trans h2
    | ret => exact hn .ret σ' hk
    | exit id => exact hn (.exit id) σ' hk
  | .cond x y z, hok => by
    intro σ a w S β k Q h he hn
    simp only [codeOk, Bool.and_eq_true] at hok
    have hy := exec_ok hP hC hD y hok.1
    have hz := exec_ok hP hC hD z hok.2
    have he' : exCond x (exec c call f fuel y) (exec c call f fuel z) σ k = some r := he
    unfold exCond at he'
    split at he'
    case h_2 => simp at he'
    rename_i t hx
    obtain ⟨r1, _⟩ := opd_ok h.sr hx
    have hb : a.eval x = .bool t := by simpa only [RA, RA1, RV] using r1
    refine wp_cond hb ?_
    cases t with
    | true => exact hy _ _ _ _ _ _ _ h he' hn
    | false => exact hz _ _ _ _ _ _ _ h he' hn
  | .block id b, hok => by
    intro σ a w S β k Q h he hn
    have hb := exec_ok hP hC hD b hok
    have he' : exec c call f fuel b σ (fun e σ' => match e with
      | .exit j => if j = id then k .normal σ' else k (.exit j) σ'
      | e => k e σ') = some r := he
    refine wp_block (hb _ _ _ _ _ _ _ h he' fun e σ' hk => ?_)
    cases e with
    | normal => exact hn .normal σ' hk
    | ret => exact hn .ret σ' hk
    | exit j =>
      simp only at hk
      intro a' w' S' β' h1 h2
      show Exit.inBlock id Q (.exit j) a' w'
      simp only [Exit.inBlock]
      split at hk
      · rename_i hj; rw [if_pos hj]; exact hn .normal σ' hk a' w' S' β' h1 h2
      · rename_i hj; rw [if_neg hj]; exact hn (.exit j) σ' hk a' w' S' β' h1 h2
  | .scope b, hok => by
    intro σ a w S β k Q h he hn
    have hb := exec_ok hP hC hD b hok
    have he' : exec c call f fuel b σ k = some r := he
    refine wp_scope_straight (hb _ _ _ _ _ _ _ h he' fun e σ' hk => ?_)
    cases e with
    | normal => exact hn .normal σ' hk
    | ret => exact hn .ret σ' hk
    | exit j => exact hn (.exit j) σ' hk
  | .loop b, hok => by
    intro σ a w S β k Q h he hn
    have hb := exec_ok hP hC hD b hok
    have he' : iter (renew (c.lives f (firstRegion b)) (c.keys f (firstRegion b))) (exec c call f fuel b) fuel σ k = some r := he
    have key : ∀ (n : Nat) {σ : St} {a : Act} {w : World} {S : Fixed} {β : Emb}, Inv c hp0 N σ a w S β → iter (renew (c.lives f (firstRegion b)) (c.keys f (firstRegion b))) (exec c call f fuel b) n σ k = some r →
        (∀ e σ', k e σ' = some r → Then c hp0 N σ w S β σ' (Q (exitOf e))) → Code.rounds c.P b Q n a w := by
      intro n
      induction n with
      | zero => intro σ a w S β _ hi _; rw [iter_zero] at hi; simp at hi
      | succ n ih =>
        intro σ a w S β h hi hn
        rw [iter_succ] at hi
        rw [rounds_succ]
        obtain ⟨β1, k1, k2⟩ := renew_ok (ts := c.lives f (firstRegion b)) (ks := c.keys f (firstRegion b)) h.sr h.hp.pure
        have h1 : Inv c hp0 N (renew (c.lives f (firstRegion b)) (c.keys f (firstRegion b)) σ) a w S β1 := ⟨k1, h.hp, h.n⟩
        refine hb _ _ _ _ _ _ _ h1 hi fun e σ' hk => ?_
        cases e with
        | normal => exact fun a' w' S' β' j1 j2 => ih j1 hk fun e2 σ2 hk2 => (hn e2 σ2 hk2).trans (k2.trans j2)
        | ret => exact (hn .ret σ' hk).trans k2
        | exit j => exact (hn (.exit j) σ' hk).trans k2
    exact wp_loop_rounds fuel (key fuel h he' hn)
  | .rangeFunc .., _ => by
    intro σ a w S β k Q h he hn
    have he' : (none : Option R) = some r := he
    simp at he'
  | .goto l, _ => by
    intro σ a w S β k Q h he hn
    have he' : (none : Option R) = some r := he
    simp at he'
  | .refuse s, _ => by
    intro σ a w S β k Q h he hn
    have he' : (none : Option R) = some r := he
    simp at he'
end
end Go.AE

/- AE: what a function hands back; the heap that it leaves. -/
namespace Go.AE

section
variable {c : Cfg} {f : FuncId} {σ : St} {a : Act} {w w0 : World} {S S0 : Fixed} {β β0 : Emb} {hp : Hp} {args : List D}

/-! ### results -/
theorem run_cell {P : Program} {T : TypeId} {u x : Value} (h : (Instr.loadAt T u).run P w = .ok x w) : (do loadVar T (← asAddr u) : Sem Value).run P w = .ok x w := by
  cases u with
  | pointer p => cases p with
    | none => exact absurd h (by simp [Instr.loadAt, Instr.sureAddr, stuck])
    | some ad => exact h
  | _ => exact absurd h (by simp [Instr.loadAt, Instr.sureAddr, stuck])

def resOf (tmps : Array Value) : ResultVar → Sem Value
  | .tmp t => pure (tmps.getD t undef)
  | .cell a t => do loadVar t (← asAddr (tmps.getD a undef))

theorem results1_ok (h : SR c.P σ a w S β) : ∀ {rs : List ResultVar} {vs : List AV}, results c σ rs = some vs → ∃ us, RAv w S β vs us ∧ (∀ v ∈ vs, v.lt (size σ) (gen σ)) ∧ (rs.mapM (resOf a.tmps)).run c.P w = .ok us w
  | [], vs, hr => by
    simp only [results, Option.some.injEq] at hr; subst hr
    exact ⟨[], rfl, by simp, rfl⟩
  | r :: rs, vs, hr => by
    simp only [results] at hr
    split at hr
    case h_2 => simp at hr
    rename_i v vs' h1 h2
    simp only [Option.some.injEq] at hr; subst hr
    obtain ⟨us, k1, k2, k3⟩ := results1_ok h h2
    have one : ∃ u, RA w S β v u ∧ v.lt (size σ) (gen σ) ∧ (resOf a.tmps r).run c.P w = .ok u w := by
      cases r with
      | tmp t =>
        simp only [result1] at h1
        split at h1
        · simp at h1
        · simp only [Option.some.injEq] at h1; subst h1
          exact ⟨_, (h.env t).2, (h.env t).1, rfl⟩
      | cell t T =>
        simp only [result1] at h1
        obtain ⟨u, e1, e2, e3⟩ := load_ok h (h.env t).2 (h.env t).1 h1
        exact ⟨u, e2, e3, run_cell e1⟩
    obtain ⟨u, j1, j2, j3⟩ := one
    refine ⟨u :: us, ⟨u, us, rfl, j1, k1⟩, ?_, ?_⟩
    · intro x hx
      rcases List.mem_cons.1 hx with rfl | hx
      · exact j2
      · exact k2 x hx
    · simp only [List.mapM_cons, Sem.run_bind, j3, Result.andThen_ok, k3]
      rfl

/-- So many values, as one. -/
def oneOf (us : List Value) : Value :=
  match us with
  | [v] => v
  | us => .tuple us.toArray

theorem results_ok (h : SR c.P σ a w S β) {fn : Func} {vs : List AV} (hr : results c σ fn.results.toList = some vs) : ∃ us, RAv w S β vs us ∧ (∀ v ∈ vs, v.lt (size σ) (gen σ)) ∧ (Go.results fn a.tmps).run c.P w = .ok (oneOf us) w := by
  obtain ⟨us, k1, k2, k3⟩ := results1_ok h hr
  refine ⟨us, k1, k2, ?_⟩
  have hm : (fn.results.mapM (resOf a.tmps)).run c.P w = .ok us.toArray w := by
    rw [Array.mapM_eq_mapM_toList]
    simp only [map_eq_pure_bind, Sem.run_bind, k3, Result.andThen_ok]
    rfl
  have he : Go.results fn a.tmps = (do
      let vs ← fn.results.mapM (resOf a.tmps)
      pure (if h : vs.size = 1 then vs[0] else .tuple vs)) := by
    unfold Go.results
    congr 1
  rw [he]
  simp only [Sem.run_bind, hm, Result.andThen_ok]
  show Result.ok _ w = _
  congr 1
  match us with
  | [] => rfl
  | [v] => rfl
  | v :: v' :: r => rfl

/-! ### what is handed back -/
/-- A row of the function's own. -/
def OwnRes (P : Program) (σ : St) (w : World) (S : Fixed) (β : Emb) (T : TypeId) (xs : List D) (v : Value) : Prop :=
  ∃ i g p, v = .slice p xs.length (β.cap (.l i g)) ∧ (0 < β.cap (.l i g) → p = some ⟨β.blk (.l i g), 0, none⟩) ∧
    ((T = 0 ∧ xs = [] ∧ β.cap (.l i g) = 0) ∨ (T ≠ 0 ∧ ∃ ys m, get σ (.l i g) = some (.row T ys) ∧ σ.fz i = false ∧ xs = ys.take m ∧ xs.length ≤ ys.length))

def ResOK (P : Program) (σ : St) (w : World) (S : Fixed) (β : Emb) (r : D) (v : Value) : Prop :=
  match r with
  | .own T xs => OwnRes P σ w S β T xs v
  | d => RV w S β d v ∧ d.lt (size σ)

theorem resOK_data {P : Program} {r : D} {v : Value} (h1 : RV w S β r v) (h2 : r.lt (size σ)) : ResOK P σ w S β r v := by
  cases r <;> first | exact ⟨h1, h2⟩ | (simp only [RV] at h1)

theorem handBack_ok (h : SR c.P σ a w S β) {vs : List AV} {us : List Value} (hu : RAv w S β vs us) (hl : ∀ v ∈ vs, v.lt (size σ) (gen σ)) {r : D} (hb : handBack c f σ vs = some r) :
    ∃ S' fs, SR c.P (withFz σ fs) a w S' β ∧ Fr σ w S β (withFz σ fs) w S' β ∧ ResOK c.P (withFz σ fs) w S' β r (oneOf us) := by
  have data : ∀ {v : AV} {u : Value}, RA w S β v u → v.lt (size σ) (gen σ) → (resolveN σ.loc v).map (·.1) = some r → ∃ S' fs, SR c.P (withFz σ fs) a w S' β ∧ Fr σ w S β (withFz σ fs) w S' β ∧ ResOK c.P (withFz σ fs) w S' β r u := by
    intro v u h1 h2 h3
    simp only [Option.map_eq_some_iff] at h3
    obtain ⟨p, hp, rfl⟩ := h3
    obtain ⟨S1, s1, s2, s3, s4⟩ := resolveN_ok h hp h1 h2
    exact ⟨S1, p.2, s1, Fr.fz s2, resOK_data s3 s4⟩
  have here : ∀ {x : D} {u : Value}, ResOK c.P σ w S β x u → ∃ S' fs, SR c.P (withFz σ fs) a w S' β ∧ Fr σ w S β (withFz σ fs) w S' β ∧ ResOK c.P (withFz σ fs) w S' β x u :=
    fun hx => ⟨S, [], h, Fr.refl _ _ _ _, hx⟩
  unfold handBack at hb
  split at hb
  · rename_i v
    obtain ⟨u, rfl, h1⟩ := RAv1 hu
    have h2 := hl v (by simp)
    show ∃ S' fs, SR c.P (withFz σ fs) a w S' β ∧ Fr σ w S β (withFz σ fs) w S' β ∧ ResOK c.P (withFz σ fs) w S' β r u
    have hv : ∀ x, (if c.ownRet f = true then v else .d .undef) = x → x ≠ .d .undef → v = x := by
      intro x hx hne
      split at hx
      · exact hx
      · exact (hne hx.symm).elim
    split at hb
    · rename_i i g hx
      obtain rfl := hv _ hx (by simp)
      obtain ⟨p, rfl, hp⟩ : ∃ p, u = .slice p (β.len (.l i g)) (β.cap (.l i g)) ∧ (0 < β.cap (.l i g) → p = some ⟨β.blk (.l i g), 0, none⟩) := by simpa only [RA, RA1] using h1
      split at hb
      · rename_i T xs hr
        have hr' : get σ (.l i g) = some (.row T xs) := hr
        split at hb
        · exact data h1 h2 hb
        · rename_i hz
          split at hb
          · simp at hb
          · rename_i hT
            simp only [Option.some.injEq] at hb; subst hb
            have hlen := (h.obj _ _ hr').1.1
            refine here ⟨i, g, p, by rw [hlen], hp, .inr ⟨hT, xs, xs.length, hr', by simpa using hz, by simp, Nat.le_refl _⟩⟩
      · rename_i hr
        have hr' : get σ (.l i g) = some .bare := hr
        simp only [Option.some.injEq] at hb; subst hb
        obtain ⟨b1, b2⟩ := (h.obj _ _ hr').1
        exact here ⟨i, g, p, by rw [b2]; rfl, hp, .inl ⟨rfl, rfl, b1⟩⟩
      · simp at hb
    · rename_i i g len hx
      obtain rfl := hv _ hx (by simp)
      obtain ⟨p, cap, rfl, hc, hp⟩ : ∃ p cap, u = .slice p len cap ∧ 0 + cap = β.cap (.l i g) ∧ (0 < β.cap (.l i g) → p = some ⟨β.blk (.l i g), 0 * β.esz (.l i g), none⟩) := by simpa only [RA, RA1] using h1
      split at hb
      · rename_i T xs hr
        split at hb
        case isFalse => simp at hb
        rename_i hz
        obtain ⟨hz1, hT, hle⟩ := hz
        simp only [Option.some.injEq] at hb; subst hb
        have hzl : (xs.take len).length = len := by simp; omega
        rw [Nat.zero_mul] at hp
        refine here ⟨i, g, p, ?_, hp, .inr ⟨hT, xs, len, hr, hz1, rfl, by rw [hzl]; exact hle⟩⟩
        rw [hzl]; congr 1; omega
      · simp at hb
    · exact data h1 h2 hb
  · rename_i hns
    simp only [Option.map_eq_some_iff] at hb
    obtain ⟨p, hp, rfl⟩ := hb
    obtain ⟨S1, s1, s2, s3, s4⟩ := resolves_ok h hp hu hl
    refine ⟨S1, p.2, s1, Fr.fz s2, ?_⟩
    have hone : oneOf us = .tuple us.toArray := by
      cases us with
      | nil => rfl
      | cons u r => cases r with
        | nil =>
          exfalso
          cases vs with
          | nil => simp [RAv] at hu
          | cons v vs' => cases vs' with
            | nil => exact hns v rfl
            | cons v' vs'' =>
              obtain ⟨_, _, he, _, h3⟩ := hu
              cases he
              obtain ⟨_, _, he, _⟩ := h3
              cases he
        | cons u' r' => rfl
    rw [hone]
    refine ⟨?_, ?_⟩
    · simp only [RV]; exact ⟨us.toArray, rfl, s3⟩
    · simp only [D.lt]; exact s4

/-! ### the heap that is left -/
theorem owned_start {b : Nat} : Owned (start args hp) β b ↔ Owned (base hp) β b := by
  constructor
  · rintro ⟨r, o, h1, h2, h3⟩
    exact ⟨r, o, by cases r <;> exact h1, h2, h3⟩
  · rintro ⟨r, o, h1, h2, h3⟩
    exact ⟨r, o, by cases r <;> exact h1, h2, h3⟩

def flatR (r : D) : Bool := match r with | .own _ xs => D.flatDs xs | r => r.flatD

/-- What is left, where a part of the heap is kept. -/
theorem left_ok (h : SR c.P σ a w S β) (hf : Fr (start args hp) w0 S0 β0 σ w S β) {hpx : Hp} (hrel : HpRel hp hpx) (hsub : ∀ i o, getH hpx i = some o → getH σ.hp i = some o ∧ o.o.lt hpx.objs.length (fun _ => 0))
    {r : D} {v : Value} (hr : ResOK c.P σ w S β r v) (hlt : flatR r = true ∨ hpx.objs.length = size σ) : Back c.P hp w0 S0 β0 ⟨r, hpx⟩ v w := by
  have hsubg : ∀ {i o}, get (base hpx) (.h i) = some o → get σ (.h i) = some o := by
    intro i o ho
    have ho' : (getH hpx i).map (·.o) = some o := ho
    simp only [Option.map_eq_some_iff] at ho'
    obtain ⟨x, hx, rfl⟩ := ho'
    show (getH σ.hp i).map (·.o) = some x.o
    rw [(hsub i x hx).1]; rfl
  have hown : ∀ {b}, Owned (base hpx) β b → Owned (base σ.hp) β b := by
    intro b hb
    obtain ⟨i, o, h1, h2, h3⟩ := owned_base hb
    exact ⟨.h i, o, hsubg h1, h2, h3⟩
  refine ⟨hrel, S, β, h.toHeap hrel.pure hsub, ?_, ?_⟩
  · refine ⟨hf.size, hf.keep, fun b off hb => ?_, fun b hb ho => hf.frame b hb (fun h1 => ho (owned_start.1 h1)), hrel.len, hf.sameH, fun b hb => ?_, hf.os, hf.tape, hf.output⟩
    · rcases hf.newS b off hb with h1 | h1 | h1
      · exact .inl h1
      · exact .inr (.inl (owned_start.1 h1))
      · exact .inr (.inr h1)
    · rcases hf.own b (owned_of_heap (hown hb)) with h1 | h1
      · exact .inl (owned_start.1 h1)
      · exact .inr h1
  · have hdata : (∀ T xs, r ≠ .own T xs) → RR c.P hp w0 β0 hpx w S β r v := by
      intro hne
      have hr' : RV w S β r v ∧ r.lt (size σ) := by
        revert hr
        unfold ResOK
        split
        · rename_i T xs; exact fun _ => (hne T xs rfl).elim
        · exact id
      have hl : r.lt hpx.objs.length := by
        rcases hlt with hl | hl
        · refine D.flat_lt r ?_
          cases r <;> first | exact hl | exact (hne _ _ rfl).elim
        · rw [hl]; exact hr'.2
      cases r <;> first | exact ⟨hr'.1, hl⟩ | exact (hne _ _ rfl).elim
    cases r with
    | own T xs =>
      obtain ⟨i, g, p, hv, hp, hcase⟩ := hr
      refine ⟨β.blk (.l i g), β.cap (.l i g), β.esz (.l i g), p, hv, hp, ?_, ?_, ?_⟩
      · rcases hcase with ⟨hT, hx, hc⟩ | ⟨hT, ys, m, hg, hz, hx, hle⟩
        · rw [if_pos hT]; exact ⟨hc, hx⟩
        · rw [if_neg hT]
          obtain ⟨hok, hltr⟩ := h.obj _ _ hg
          have hfz : frozen σ (.l i g) = false := hz
          rw [hfz] at hok
          have e := add_here β (.l 0 1) (β.blk (.l i g)) (β.cap (.l i g)) (β.esz (.l i g)) xs.length
          have eH : ∀ n, SameH n β (β.add (.l 0 1) (β.blk (.l i g)) (β.cap (.l i g)) (β.esz (.l i g)) xs.length) := fun n x _ => add_other β (r := .l 0 1) (x := .h x) _ _ _ _ (by simp)
          have hyl : D.lts (size σ) ys := hltr
          refine ⟨e.2.2.2, ?_⟩
          rcases hok.2 with ⟨hc0, hy0⟩ | hrow
          · left
            refine ⟨e.2.1.trans hc0, ?_⟩
            rw [hx, hy0]; simp
          · right
            refine ⟨by rw [e.2.1]; exact hrow.cap, by rw [e.2.2.1]; exact hrow.esz, by rw [e.2.2.1]; exact hrow.ty, by rw [e.2.1]; exact Nat.le_trans hle hrow.fits, ?_, ?_, ?_, by rw [e.1]; exact hrow.org⟩
            · obtain ⟨C, z, m1, m2, m3, m4⟩ := hrow.mem
              refine ⟨C, z, by rw [e.1]; exact m1, by rw [e.2.1, e.2.2.1]; exact m2, by simpa using m3, fun j x hj => ?_⟩
              rw [e.2.2.1]
              have hj' : ys[j]? = some x := by
                rw [hx, List.getElem?_take] at hj
                split at hj
                · exact hj
                · simp at hj
              exact (m4 j x hj').keep (Keeps.refl w S) (eH (size σ)) (lts_iff.1 hyl x (List.mem_of_getElem? hj'))
            · intro off hb
              rw [e.1] at hb
              have := (hrow.free off hb).1
              simp at this
            · intro hb; simp at hb
      · rcases hlt with hl | hl
        · exact D.flats_lts xs hl
        · rw [hl]
          rcases hcase with ⟨_, hx, _⟩ | ⟨_, ys, m, hg, _, hx, _⟩
          · rw [hx]; trivial
          · have hyl : D.lts (size σ) ys := (h.obj _ _ hg).2
            rw [hx]
            rw [lts_iff] at hyl ⊢
            exact fun d hd => hyl d (List.mem_of_mem_take hd)
      · intro hc
        rcases hcase with ⟨_, _, hc0⟩ | ⟨hT, ys, m, hg, hz, hx, hle⟩
        · omega
        · have hmem : HasMem β (.l i g) (.row T ys) := hc
          refine ⟨?_, fun hb => local_apart h hg hmem (hown hb)⟩
          rcases hf.own _ ⟨.l i g, _, hg, hmem, rfl⟩ with h1 | h1
          · exact .inl (owned_start.1 h1)
          · exact .inr h1
    | _ => exact hdata (by simp)
end
end Go.AE

/- AE: functions, and calls of any depth. -/
namespace Go.AE

section
variable {c : Cfg} {f : FuncId} {σ : St} {a : Act} {w w0 : World} {S S0 : Fixed} {β β0 : Emb} {hp : Hp} {args : List D}

theorem below_lt {n j : Nat} {o : Option Nat} (hj : j < n) (h : ∀ x, below n o = some x → j < x) : ∀ x, o = some x → j < x := by
  intro x hx
  subst hx
  by_cases hxn : x < n
  · exact h x (by simp [below, hxn])
  · omega

theorem HpRel.clean {hp : Hp} (h : HpPure hp) : HpRel hp { hp with ch := none, es := none } :=
  ⟨Nat.le_refl _, h, fun _ _ _ => rfl, fun _ _ _ o ho => ⟨o, ho, fun _ h => h⟩⟩

theorem getH_lt {hp : Hp} {i : Nat} {o : HOb} (h : getH hp i = some o) : i < hp.objs.length := by
  simp only [getH, nth_eq] at h
  cases hx : hp.objs[i]? with
  | none => rw [hx] at h; simp at h
  | some x => exact (List.getElem?_eq_some_iff.1 hx).1

theorem getH_take {hp h : Hp} {n i : Nat} {c1 c2 : Option Nat} : getH { objs := h.objs.take n, ch := c1, es := c2 } i = if i < n then getH h i else none := by
  simp only [getH, nth_eq, List.getElem?_take]
  by_cases hi : i < n
  · simp only [if_pos hi]
  · simp only [if_neg hi]

theorem leave_eq {h : Hp} {r : D} : leave c f hp h r =
    if h.objs.length = hp.objs.length then ⟨r, if h.ch.isNone then { hp with ch := none, es := none } else h⟩
    else if c.drops f && flatR r && (below hp.objs.length h.es).isNone then
      match below hp.objs.length h.ch with
      | none => ⟨r, { hp with ch := none, es := none }⟩
      | some i => ⟨r, { objs := h.objs.take hp.objs.length, ch := some i, es := none }⟩
    else ⟨r, { objs := h.objs, ch := below hp.objs.length h.ch, es := below hp.objs.length h.es }⟩ := by
  unfold leave
  cases r <;> rfl

theorem leave_ok (hHR : HR c.P hp w0 S0 β0) (h : SR c.P σ a w S β) (hrel : HpRel hp σ.hp) (hf : Fr (start args hp) w0 S0 β0 σ w S β) {r : D} {v : Value} (hr : ResOK c.P σ w S β r v) : Back c.P hp w0 S0 β0 (leave c f hp σ.hp r) v w := by
  have hlt : ∀ {i o}, getH σ.hp i = some o → o.o.lt (size σ) (fun _ => 0) := by
    intro i o ho
    have hg : get σ (.h i) = some o.o := by simp only [get, ho]; rfl
    exact data_lt (hrel.pure i o ho) (h.obj _ _ hg).2
  have hlt0 : ∀ {i o}, getH hp i = some o → o.o.lt hp.objs.length (fun _ => 0) := by
    intro i o ho
    have hg : get (base hp) (.h i) = some o.o := by
      show (getH hp i).map (·.o) = _
      rw [ho]; rfl
    exact data_lt (hHR.2 i o ho) (hHR.1.obj _ _ hg).2
  rw [leave_eq]
  split
  · rename_i hlen
    split
    · rename_i hch
      refine left_ok h hf (HpRel.clean hHR.2) (fun i o ho => ?_) hr (.inr (show hp.objs.length = size σ from hlen.symm))
      have ho' : getH hp i = some o := ho
      have hi := getH_lt ho'
      have hsame := hrel.ch i hi (fun x hx => by rw [hx] at hch; simp at hch)
      exact ⟨by rw [hsame]; exact ho', hlt0 ho'⟩
    · exact left_ok h hf hrel (fun i o ho => ⟨ho, hlt ho⟩) hr (.inr rfl)
  · rename_i hlen
    split
    · rename_i hd
      simp only [Bool.and_eq_true] at hd
      obtain ⟨⟨_, hfl'⟩, hes⟩ := hd
      have hes' : ∀ i, i < hp.objs.length → ∀ x, σ.hp.es = some x → i < x := fun i hi x hx => Nat.lt_of_lt_of_le hi (below_none hes x hx)
      split
      · rename_i hch
        refine left_ok h hf (HpRel.clean hHR.2) (fun i o ho => ?_) hr (.inl hfl')
        have ho' : getH hp i = some o := ho
        have hi := getH_lt ho'
        have hsame := hrel.ch i hi (below_lt hi (fun x hx => by rw [hch] at hx; simp at hx))
        exact ⟨by rw [hsame]; exact ho', hlt0 ho'⟩
      · rename_i x hch
        have hn : hp.objs.length ≤ σ.hp.objs.length := hrel.len
        have htl : (σ.hp.objs.take hp.objs.length).length = hp.objs.length := by simp; omega
        have hg : ∀ i, getH { objs := σ.hp.objs.take hp.objs.length, ch := some x, es := none } i = if i < hp.objs.length then getH σ.hp i else none := fun i => getH_take (hp := hp)
        have hold : ∀ i, i < hp.objs.length → ∀ o, getH σ.hp i = some o → ∃ o0, getH hp i = some o0 ∧ ∀ m, o0.o.lt m g0 → o.o.lt m g0 := fun i hi => hrel.es i hi (hes' i hi)
        refine left_ok h hf ⟨by rw [htl]; exact Nat.le_refl _, ?_, ?_, ?_⟩ (fun i o ho => ?_) hr (.inl hfl')
        · intro i o ho
          rw [hg] at ho
          split at ho
          · exact hrel.pure i o ho
          · simp at ho
        · intro i hi hx
          rw [hg, if_pos hi]
          refine hrel.ch i hi (below_lt hi (fun y hy => ?_))
          rw [hch] at hy
          exact hx y hy
        · intro i hi _ o ho
          rw [hg, if_pos hi] at ho
          exact hold i hi o ho
        · rw [hg] at ho
          split at ho
          · rename_i hi
            obtain ⟨o0, k1, k2⟩ := hold i hi o ho
            refine ⟨ho, ?_⟩
            show o.o.lt (σ.hp.objs.take hp.objs.length).length _
            rw [htl]
            exact k2 _ (hlt0 k1)
          · simp at ho
    · refine left_ok (hpx := { objs := σ.hp.objs, ch := below hp.objs.length σ.hp.ch, es := below hp.objs.length σ.hp.es }) h hf ⟨hrel.len, hrel.pure, fun i hi hx => hrel.ch i hi (below_lt hi (fun x h1 => hx x h1)), fun i hi hx => hrel.es i hi (below_lt hi (fun x h1 => hx x h1))⟩ (fun i o ho => ⟨ho, hlt ho⟩) hr (.inr rfl)

/-! ### functions -/
theorem argEnv_eq : ∀ (args : List D) (t : Nat), argEnv args t = match args[t]? with
    | some d => .d d
    | none => .d .undef
  | [], t => rfl
  | x :: r, 0 => rfl
  | x :: r, t + 1 => by
    show argEnv r t = _
    rw [argEnv_eq r t]; simp

theorem start_ok {P : Program} (h : HR P hp w S β) {vs : Array Value} (ha : RVs w S β args vs.toList) (hl : D.lts hp.objs.length args) (n : Nat) : SR P (start args hp) { tmps := vs ++ Array.replicate n undef, defers := [] } w S β where
  env t := by
    show (argEnv args t).lt _ _ ∧ RA w S β (argEnv args t) _
    rw [argEnv_eq]
    obtain ⟨hlen, hall⟩ := RVs_iff.1 ha
    cases hx : args[t]? with
    | none => exact ⟨by simp [AV.lt, AV.lt1, D.lt], by simp only [RA, RA1, RV]⟩
    | some d =>
      have ht : t < args.length := (List.getElem?_eq_some_iff.1 hx).1
      have htv : t < vs.size := by rw [hlen] at ht; simpa using ht
      refine ⟨lts_iff.1 hl d (List.mem_of_getElem? hx), ?_⟩
      have hv : (vs ++ Array.replicate n undef).getD t undef = vs[t] := by
        rw [Array.getD_eq_getD_getElem?, Array.getElem?_append_left htv, Array.getElem?_eq_getElem htv]; rfl
      show RV w S β d ((vs ++ Array.replicate n undef).getD t undef)
      rw [hv]
      exact hall t d _ hx (by simp [htv])
  bound t ht := by
    show argEnv args t = .d .undef
    rw [argEnv_eq]
    obtain ⟨hlen, _⟩ := RVs_iff.1 ha
    simp only [Array.length_toList] at hlen
    simp only [Array.size_append] at ht
    rw [List.getElem?_eq_none (by omega)]
  defers := rfl
  obj r o hr := h.1.obj r o (by cases r <;> exact hr)
  sep r r' o o' hr hr' := h.1.sep r r' o o' (by cases r <;> exact hr) (by cases r' <;> exact hr')
  inw := h.1.inw

/-- What is asked of a program's functions. -/
structure WFF (c : Cfg) (dOk : FuncId → Nat → Array Oper → Bool) : Prop where
  code : ∀ (f : FuncId) (fn : Func) (b : Code), c.P.funcs[f]? = some fn → fn.body = some b → codeOk (dOk f) fn.ntmps b = true
  name : ∀ (f : FuncId) (fn : Func) (b : Code), c.P.funcs[f]? = some fn → fn.body = some b → fn.name ≠ "runtime.NumGoroutine"

theorem codeOk_mono {dOk : Nat → Array Oper → Bool} {n N : Nat} (hn : n ≤ N) : ∀ {code : Code}, codeOk dOk n code = true → codeOk dOk N code = true
  | .region id ops draw, h => by
    simp only [codeOk, Bool.and_eq_true] at h ⊢
    refine ⟨?_, h.2⟩
    rw [List.all_eq_true] at h ⊢
    intro o ho
    have := h.1 o ho
    unfold opDst at this ⊢
    split
    · rename_i t ht
      rw [ht] at this
      simp only [Nat.blt_eq] at this ⊢
      omega
    · rfl
  | .seq a b, h => by simp only [codeOk, Bool.and_eq_true] at h ⊢; exact ⟨codeOk_mono hn h.1, codeOk_mono hn h.2⟩
  | .cond _ a b, h => by simp only [codeOk, Bool.and_eq_true] at h ⊢; exact ⟨codeOk_mono hn h.1, codeOk_mono hn h.2⟩
  | .block _ b, h => codeOk_mono (code := b) hn h
  | .loop b, h => codeOk_mono (code := b) hn h
  | .scope b, h => codeOk_mono (code := b) hn h
  | .skip, _ => rfl
  | .label _, _ => rfl
  | .ret, _ => rfl
  | .exit _, _ => rfl
  | .rangeFunc .., _ => rfl
  | .goto _, _ => rfl
  | .refuse _, _ => rfl

/-- What a primitive does is what its function does. -/
def PrimOK (c : Cfg) : Prop := ∀ call, CallOK c.P call → ∀ f args hp R, c.prim f = true → c.primRun call f args hp = some R → ∀ w S β (vs : Array Value), HR c.P hp w S β → RVs w S β args vs.toList → D.lts hp.objs.length args →
    CallsBack c.P f vs w (Back c.P hp w S β R)

theorem run_callFunc {P : Program} {fn : Func} {b : Code} (hf : P.funcs[f]? = some fn) (hb : fn.body = some b) (hn : fn.name ≠ "runtime.NumGoroutine") (vs : Array Value) (w : World) : (callFunc f vs).run P w = .ok (.enter f vs) w := by
  simp [callFunc, hf, hb, hn]

/-- A function's text does what the interpreter says. -/
theorem enter_wp {dOk : FuncId → Nat → Array Oper → Bool} (hP : WFP c.P) (hF : WFF c dOk) (hD : ∀ call, CallOK c.P call → ∀ f hp0 N, DrawOK c call f hp0 N (dOk f)) {loops : Nat} {call : CallF} (hC : CallOK c.P call) {fn : Func} {b : Code} (hfn : c.P.funcs[f]? = some fn) (hb : fn.body = some b) {R : Res} (he : exec c call f loops b (start args hp) (finish c f hp fn.results.toList) = some R) {vs : Array Value} (hHR : HR c.P hp w S β) (ha : RVs w S β args vs.toList) (hl : D.lts hp.objs.length args) :
    b.wp c.P (bodyPost c.P fn fun | .returned v, w' => Back c.P hp w S β R v w' | _, _ => False) { tmps := vs ++ Array.replicate (fn.ntmps - vs.size) undef, defers := [] } w := by
  have h0 := start_ok hHR ha hl (fn.ntmps - vs.size)
  have hN : fn.ntmps ≤ (vs ++ Array.replicate (fn.ntmps - vs.size) undef).size := by simp; omega
  have hinv : Inv c hp (vs ++ Array.replicate (fn.ntmps - vs.size) undef).size (start args hp) { tmps := vs ++ Array.replicate (fn.ntmps - vs.size) undef, defers := [] } w S β := ⟨h0, HpRel.clean hHR.2, rfl⟩
  refine exec_ok hP hC (hD call hC f hp _) b (codeOk_mono hN (hF.code f fn b hfn hb)) _ _ _ _ _ _ _ hinv he fun e σ' hk => ?_
  have fin : e ≠ .normal → e ≠ .ret → False := by
    intro h1 h2
    cases e with
    | normal => exact h1 rfl
    | ret => exact h2 rfl
    | exit j => simp [finish] at hk
  have main : ∀ a' w' S' β', Inv c hp (vs ++ Array.replicate (fn.ntmps - vs.size) undef).size σ' a' w' S' β' → Fr (start args hp) w S β σ' w' S' β' → (match results c σ' fn.results.toList with
        | some vs => match handBack c f σ' vs with
          | some r => some (leave c f hp σ'.hp r)
          | none => none
        | none => none) = some R → a'.defers = [] ∧ ∃ v, (Go.results fn a'.tmps).run c.P w' = .ok v w' ∧ Back c.P hp w S β R v w' := by
    intro a' w' S' β' k1 k2 hk
    split at hk
    case h_2 => simp at hk
    rename_i avs hres
    split at hk
    case h_2 => simp at hk
    rename_i r hbk
    simp only [Option.some.injEq] at hk; subst hk
    obtain ⟨us, u1, u2, u3⟩ := results_ok k1.sr hres
    obtain ⟨S2, fs, s1, s2, s3⟩ := handBack_ok k1.sr u1 u2 hbk
    exact ⟨k1.sr.defers, _, u3, leave_ok (σ := withFz σ' fs) hHR s1 k1.hp (k2.trans s2) s3⟩
  intro a' w' S' β' k1 k2
  cases e with
  | normal => exact main a' w' S' β' k1 k2 hk
  | ret => exact main a' w' S' β' k1 k2 hk
  | exit j => exact (fin (by simp) (by simp)).elim

theorem enter_ok {dOk : FuncId → Nat → Array Oper → Bool} (hP : WFP c.P) (hF : WFF c dOk) (hprim : PrimOK c) (hD : ∀ call, CallOK c.P call → ∀ f hp0 N, DrawOK c call f hp0 N (dOk f)) {loops : Nat} {call : CallF} (hC : CallOK c.P call) : CallOK c.P (enter c loops call) := by
  intro f args hp R he w S β vs hHR ha hl
  unfold enter at he
  cases hpr0 : (if c.prim f then c.primRun call f args hp else none) with
  | some R' =>
    rw [hpr0] at he
    simp only [Option.some.injEq] at he; subst he
    split at hpr0
    · rename_i hpr
      exact hprim call hC f args hp R' hpr hpr0 w S β vs hHR ha hl
    · simp at hpr0
  | none =>
    rw [hpr0] at he
    simp only at he
    split at he
    case h_2 => simp at he
    rename_i fn hfn
    split at he
    case h_2 => simp at he
    rename_i b hb
    exact .inr ⟨run_callFunc hfn hb (hF.name f fn b hfn hb) vs w, calls_of_wp hfn hb (enter_wp hP hF hD hC hfn hb he hHR ha hl)⟩

theorem run_ok {dOk : FuncId → Nat → Array Oper → Bool} (hP : WFP c.P) (hF : WFF c dOk) (hprim : PrimOK c) (hD : ∀ call, CallOK c.P call → ∀ f hp0 N, DrawOK c call f hp0 N (dOk f)) (loops : Nat) : ∀ n, CallOK c.P (run c loops n)
  | 0 => fun f args hp R he => by
    have he' : (none : Option Res) = some R := he
    simp at he'
  | n + 1 => enter_ok hP hF hprim hD (run_ok hP hF hprim hD loops n)
end
end Go.AE

/- AE: what an operation does hangs on its operands' slots alone, and on the objects. -/
namespace Go.AE

/-- The slots that an operation reads. -/
def tmpOf : Operand → Option Nat
  | .tmp t => some t
  | _ => none
noncomputable def readsOf (ops : Array Oper) (o : Oper) : List Nat :=
  o.op.operands.toList.filterMap tmpOf ++ (match o.guard with
    | some (j, _) => ((nth ops.toList j).bind (·.dst)).toList
    | none => [])

section
variable {c : Cfg} {call : CallF} {f : FuncId} {σ : St} {ρ : Nat → AV} {o : Oper}

abbrev St.with (σ : St) (ρ : Nat → AV) : St := { σ with env := ρ }

theorem opd_congr {x : Operand} (h : ∀ t, tmpOf x = some t → ρ t = σ.env t) : opd ρ x = opd σ.env x := by
  cases x with
  | tmp t => simp only [opd, h t rfl]
  | _ => rfl

theorem opds_congr : ∀ {xs : List Operand}, (∀ x ∈ xs, ∀ t, tmpOf x = some t → ρ t = σ.env t) → opds ρ xs = opds σ.env xs
  | [], _ => rfl
  | x :: r, h => by
    have h1 := opds_congr (xs := r) (fun y hy => h y (List.mem_cons_of_mem _ hy))
    simp only [opds, opd_congr (h x (by simp)), h1]

theorem parts_congr : ∀ {xs : List (Nat × Operand)}, (∀ x ∈ xs, ∀ t, tmpOf x.2 = some t → ρ t = σ.env t) → parts ρ xs = parts σ.env xs
  | [], _ => rfl
  | (i, x) :: r, h => by
    have h1 := parts_congr (xs := r) (fun y hy => h y (List.mem_cons_of_mem _ hy))
    simp only [parts, opd_congr (h (i, x) (by simp)), h1]

theorem optNat_congr {x : Option Operand} (h : ∀ y, x = some y → ∀ t, tmpOf y = some t → ρ t = σ.env t) : optNat ρ x = optNat σ.env x := by
  cases x with
  | none => rfl
  | some y => simp only [optNat, opd_congr (h y rfl)]

/-- The slots that an operation reads are the same. -/
def Same (o : Oper) (σ : St) (ρ : Nat → AV) : Prop := ∀ x ∈ o.op.operands.toList, ∀ t, tmpOf x = some t → ρ t = σ.env t

theorem opStep_congr (h : Same o σ ρ) : opStep c call f (σ.with ρ) o = opStep c call f σ o := by
  unfold Same at h
  unfold opStep
  split
  case _ x hop | _ x hop =>
    rw [hop] at h
    have h1 := opd_congr (h x (by simp [Op.operands]))
    show opMove c f (σ.with ρ) o x = _
    unfold opMove
    simp only [St.with, h1]
  case _ x y z hop =>
    rw [hop] at h
    have h1 := opd_congr (h x (by simp [Op.operands]))
    have h2 := opd_congr (h y (by simp [Op.operands]))
    have h3 := opd_congr (h z (by simp [Op.operands]))
    unfold opPick
    simp only [St.with, h1]
    split
    · rename_i t _; cases t <;> simp [h2, h3]
    · rfl
  case _ T hop => rfl
  case _ T x hop =>
    rw [hop] at h
    have h1 := opd_congr (h x (by simp [Op.operands]))
    unfold opBox
    simp only [St.with, h1]
    rfl
  case _ T ps hop =>
    rw [hop] at h
    have h1 : parts ρ ps.toList = parts σ.env ps.toList := parts_congr fun x hx => h x.2 (by simp [Op.operands]; exact ⟨x.1, by simpa using hx⟩)
    unfold opBuild
    simp only [St.with, h1]
  case _ T n ps hop =>
    rw [hop] at h
    have h1 : parts ρ ps.toList = parts σ.env ps.toList := parts_congr fun x hx => h x.2 (by simp [Op.operands]; exact ⟨x.1, by simpa using hx⟩)
    unfold opBuildSlice
    simp only [St.with, h1]
    rfl
  case _ T x hop =>
    rw [hop] at h
    have h1 := opd_congr (h x (by simp [Op.operands]))
    unfold opLoad
    simp only [St.with, h1]
    rfl
  case _ T x y hop =>
    rw [hop] at h
    have h1 := opd_congr (h x (by simp [Op.operands]))
    have h2 := opd_congr (h y (by simp [Op.operands]))
    unfold opStore
    simp only [St.with, h1, h2]
    rfl
  case _ x hop =>
    rw [hop] at h
    have h1 := opd_congr (h x (by simp [Op.operands]))
    unfold opNilCheck
    simp only [St.with, h1]
  case _ op t x y z hop =>
    rw [hop] at h
    have h1 := opd_congr (h x (by simp [Op.operands]))
    have h2 := opd_congr (h y (by simp [Op.operands]))
    unfold opBin
    simp only [St.with, h1, h2]
    rfl
  case _ op t x hop =>
    rw [hop] at h
    have h1 := opd_congr (h x (by simp [Op.operands]))
    unfold opUn
    simp only [St.with, h1]
  case _ s t x hop =>
    rw [hop] at h
    have h1 := opd_congr (h x (by simp [Op.operands]))
    unfold opConvert
    simp only [St.with, h1]
    rfl
  case _ T x k hop =>
    rw [hop] at h
    have h1 := opd_congr (h x (by simp [Op.operands]))
    unfold opFieldAddr
    simp only [St.with, h1]
  case _ T x k hop =>
    rw [hop] at h
    have h1 := opd_congr (h x (by simp [Op.operands]))
    unfold opField
    simp only [St.with, h1]
  case _ T x ix hop =>
    rw [hop] at h
    have h1 := opd_congr (h x (by simp [Op.operands]))
    have h2 := opd_congr (h ix (by simp [Op.operands]))
    unfold opIndexAddr
    simp only [St.with, h1, h2]
    rfl
  case _ T x ix hop =>
    rw [hop] at h
    have h1 := opd_congr (h x (by simp [Op.operands]))
    have h2 := opd_congr (h ix (by simp [Op.operands]))
    unfold opIndex
    simp only [St.with, h1, h2]
  case _ x k hop =>
    rw [hop] at h
    have h1 := opd_congr (h x (by simp [Op.operands]))
    unfold opExtract
    simp only [St.with, h1]
  case _ hop => rfl
  case _ T x y hop =>
    rw [hop] at h
    have h1 := opd_congr (h x (by simp [Op.operands]))
    have h2 := opd_congr (h y (by simp [Op.operands]))
    unfold opMakeSlice
    simp only [St.with, h1, h2]
    rfl
  case _ g first caps hop =>
    rw [hop] at h
    have h1 : opds ρ first.toList = opds σ.env first.toList := opds_congr fun x hx => h x (by simp [Op.operands]; exact .inl (by simpa using hx))
    have h2 : opds ρ caps.toList = opds σ.env caps.toList := opds_congr fun x hx => h x (by simp [Op.operands]; exact .inr (by simpa using hx))
    unfold opMakeFunc
    simp only [St.with, h1, h2]
  case _ T m k ok hop =>
    rw [hop] at h
    have h1 := opd_congr (h m (by simp [Op.operands]))
    have h2 := opd_congr (h k (by simp [Op.operands]))
    unfold opLookup
    simp only [St.with, h1, h2]
    rfl
  case _ T m k v hop | _ T m k v hop =>
    rw [hop] at h
    have h1 := opd_congr (h m (by simp [Op.operands]))
    have h2 := opd_congr (h k (by simp [Op.operands]))
    have h3 := opd_congr (h v (by simp [Op.operands]))
    unfold opMapUpdate
    simp only [St.with, h1, h2, h3]
  case _ cl hop =>
    rw [hop] at h
    have ha : opds ρ cl.args.toList = opds σ.env cl.args.toList := opds_congr fun x hx => h x (by
      have : x ∈ cl.args := by simpa using hx
      simp [Op.operands, Call.operands]
      cases cl.callee <;> simp [this])
    unfold opCall
    simp only [St.with, ha]
    split
    case h_2 => rfl
    split
    · rfl
    · rename_i g hc
      have hg := opd_congr (h g (by simp [Op.operands, Call.operands, hc]))
      simp only [hg]
      rfl
    · rfl
  case _ T x lo hi mx hop =>
    rw [hop] at h
    have h1 := opd_congr (h x (by simp [Op.operands]))
    have h2 : optNat ρ lo = optNat σ.env lo := optNat_congr fun y hy => h y (by subst hy; simp [Op.operands])
    have h3 : optNat ρ hi = optNat σ.env hi := optNat_congr fun y hy => h y (by subst hy; simp [Op.operands])
    unfold opSlice
    cases mx with
    | none =>
      simp only [St.with, h1, h2, h3]
      rfl
    | some m =>
      have h4 := opd_congr (h m (by simp [Op.operands]))
      simp only [St.with, h1, h2, h3, h4]
      rfl
  case _ => rfl

theorem stepEff_congr {ops : Array Oper} (h : ∀ t ∈ readsOf ops o, ρ t = σ.env t) : stepEff c call f ops o (σ.with ρ) = stepEff c call f ops o σ := by
  have h1 : Same o σ ρ := fun x hx t ht => h t (by
    unfold readsOf
    exact List.mem_append_left _ (List.mem_filterMap.2 ⟨x, hx, ht⟩))
  have h2 : wants ops ρ o = wants ops σ.env o := by
    unfold wants
    split
    · rfl
    · rename_i j want hg
      split
      · rename_i t ht
        have : ρ t = σ.env t := h t (by
          unfold readsOf
          refine List.mem_append_right _ ?_
          rw [hg]
          simp only [nth_eq, Array.getElem?_toList, ht, Option.toList]
          simp)
        rw [this]
      · rfl
  unfold stepEff
  rw [opStep_congr h1]
  simp only [St.with, h2]
end
end Go.AE

/- AE: new objects that are put off: their memory is there already. -/
namespace Go.AE

section
variable {P : Program} {c : Cfg} {call : CallF} {f : FuncId} {o : Oper} {σ σ' : St} {a a' : Act} {w w' : World} {S S' : Fixed} {β β' : Emb}

/-- A new object, in a block that is nobody's. -/
theorem SR.place (h : SR P σ a w S β) {r : Ref} {o : Ob} (hg : Grown1 σ σ' r o) {b cap e l : Nat} (hok : ObOk P w S (β.add r b cap e l) r o false) (hlt : o.lt (size σ') (gen σ')) (hfree : ¬ Owned σ β b) : SR P σ' a w S (β.add r b cap e l) := by
  have mem_other : ∀ {x : Ref} {ox : Ob}, x ≠ r → HasMem (β.add r b cap e l) x ox → HasMem β x ox := by
    intro x ox hne hm
    cases ox with
    | row T xs => simp only [HasMem] at hm ⊢; rw [(add_other β _ _ _ _ hne).2.1] at hm; exact hm
    | bare => exact hm
    | _ => trivial
  refine h.change (Keeps.refl w S) h.inw hg.size hg.gen (sameH_add hg.fresh _ _ _ _) (sameL_add hg.fresh _ _ _ _) (fun x => x = r) ?_ ?_ ?_ (fun t => .inl ⟨by rw [hg.env], rfl⟩) (by rw [hg.env]; exact h.bound) h.defers
  · intro x ox hx hne
    obtain ⟨g1, g2⟩ := hg.other x ox hne hx
    exact ⟨g1, g2, fun m => ⟨fun y hy => hy, fun _ => Iff.rfl⟩⟩
  · rintro x ox hx rfl
    rw [hg.here] at hx; cases hx
    rw [hg.fz]; exact ⟨hok, hlt⟩
  · rintro x y ox oy hx hy hne rfl m1 m2
    obtain ⟨g1, _⟩ := hg.other y oy (Ne.symm hne) hy
    rw [(add_here β x _ _ _ _).1, (add_other β _ _ _ _ (Ne.symm hne)).1]
    intro he
    exact hfree ⟨y, oy, g1, mem_other (Ne.symm hne) m2, he.symm⟩

theorem owned_place {r : Ref} {o : Ob} (hg : Grown1 σ σ' r o) {b cap e l b' : Nat} (hb : Owned σ' (β.add r b cap e l) b') : Owned σ β b' ∨ b' = b := by
  obtain ⟨x, ox, hx, m, rfl⟩ := hb
  by_cases hne : x = r
  · subst hne; right; exact (add_here β x _ _ _ _).1
  · left
    obtain ⟨g1, _⟩ := hg.other x ox hne hx
    rw [(add_other β _ _ _ _ hne).1]
    refine ⟨x, ox, g1, ?_, rfl⟩
    cases ox with
    | row T xs => simp only [HasMem] at m ⊢; rw [(add_other β _ _ _ _ hne).2.1] at m; exact m
    | bare => exact m
    | _ => trivial

/-- What was put off is done: nothing of the world changes. -/
structure Placed (P : Program) (σ : St) (a : Act) (w : World) (S : Fixed) (β : Emb) (b : Nat) (e : Eff) (u : Value) (S' : Fixed) (β' : Emb) : Prop where
  sr : SR P (apply σ none e) a w S' β'
  ra : RA w S' β' e.v u
  lt : e.v.lt (size (apply σ none e)) (gen (apply σ none e))
  keep : Keeps w S w S'
  newS : ∀ b off, S' b off → S b off ∨ Owned σ β b
  next : size σ ≤ size (apply σ none e)
  sameH : SameH (size σ) β β'
  own : ∀ b', Owned (apply σ none e) β' b' → Owned σ β b' ∨ b' = b

theorem newBox_place (h : SR P σ a w S β) {heap : Bool} {t : Nat} {T : TypeId} {z : List D} {e : Eff} (he : newBox σ heap t T (z.map .d) = some e) {b : Nat} {C : Array Value} (hC : w.heap[b]? = some (.cells C T)) (hc : RVs w S β z C.toList) (ho : ∀ u ∈ C.toList, OneC u) (hl : D.lts (size σ) z)
    (hfree : ¬ Owned σ β b) (hfix : ∀ off, ¬ S b off) : ∃ S' β', Placed P σ a w S β b e (.pointer (some ⟨b, 0, none⟩)) S' β' := by
  unfold newBox at he
  split at he
  · split at he
    · rename_i ds fw hr
      simp only [Option.some.injEq] at he; subst he
      obtain ⟨S1, s1, s2, s3, s4⟩ := resolveL_ok h hr (RAs_map.2 hc) (alts_map.2 hl)
      have hg := grown_heap (withFz σ fw) (.box T (ds.map .d))
      have hfree1 : ¬ Owned (withFz σ fw) β b := fun ⟨r, o, h1, h2, h3⟩ => hfree ⟨r, o, by rw [← get_fz r]; exact h1, h2, h3⟩
      have hfix1 : ∀ off, ¬ S1 b off := fun off hb => (s2.2 b off hb).elim (hfix off) hfree
      refine ⟨S1, β.add (.h (size (withFz σ fw))) b 0 0 0, ⟨s1.place hg ⟨⟨C, (0, 0), by rw [(add_here β _ _ _ _ _).1]; exact hC, noFz00 _, ho, ?_⟩, ?_⟩ (alts_map.2 (D.lts.mono hg.size _ s4)) hfree1, ?_, ?_, Keeps.mono s2.1, s2.2, hg.size, sameH_add hg.fresh _ _ _ _, ?_⟩⟩
      · rw [RAs_map]; exact RVs.keep (Keeps.refl w S1) (sameH_add hg.fresh _ _ _ _) _ _ s4 s3
      · rw [(add_here β _ _ _ _ _).1]; exact hfix1
      · simp only [RA, RA1, RV]
        have := (add_here β (.h (size (withFz σ fw))) b 0 0 0).1
        exact congrArg (fun b => Value.pointer (some ⟨b, 0, none⟩)) this.symm
      · simp [AV.lt, AV.lt1, D.lt, size, apply, pushHp]
      · intro b' hb'
        rcases owned_place hg hb' with ⟨r, o, h1, h2, h3⟩ | h1
        · exact .inl ⟨r, o, by rw [← get_fz r]; exact h1, h2, h3⟩
        · exact .inr h1
    · simp at he
  · simp only [Option.some.injEq] at he; subst he
    have hg := grown_local σ t (.box T (z.map .d))
    refine ⟨S, β.add (.l t ((σ.loc t).g + 1)) b 0 0 0, ⟨h.place hg ⟨⟨C, (0, 0), by rw [(add_here β _ _ _ _ _).1]; exact hC, noFz00 _, ho, ?_⟩, ?_⟩ (alts_map.2 (D.lts.mono hg.size _ hl)) hfree, ?_, ?_, Keeps.refl w S, fun _ _ hb => .inl hb, hg.size, sameH_add hg.fresh _ _ _ _, fun b' hb' => owned_place hg hb'⟩⟩
    · rw [RAs_map]; exact RVs.keep (Keeps.refl w S) (sameH_add hg.fresh _ _ _ _) _ _ hl hc
    · rw [(add_here β _ _ _ _ _).1]; exact hfix
    · simp only [RA, RA1]; rw [(add_here β _ _ _ _ _).1]
    · simp [AV.lt, AV.lt1, gen, apply, setMany, upd_same]

/-! ### the operations that may be put off -/
def isP (c : Cfg) (f : FuncId) (o : Oper) : Bool :=
  (match o.op with
    | .alloc _ => (accOf c f o).isNone
    | .makeMap _ none => true
    | _ => false) && (o.guard.isNone && o.dst.isSome)

def PVal (c : Cfg) (o : Oper) (w : World) (b : Nat) (u : Value) : Prop :=
  match o.op with
  | .alloc T => u = .pointer (some ⟨b, 0, none⟩) ∧ ∃ C, w.heap[b]? = some (.cells C T) ∧ ∃ ds, zeroCells c.P T = some ds ∧ (∀ u ∈ C.toList, OneC u) ∧ ∀ (w : World) (S : Fixed) (β : Emb) (n : Nat), RVs w S β ds C.toList ∧ D.lts n ds
  | .makeMap _ none => u = .map (some b) ∧ ∃ k, w.heap[b]? = some (.map #[] k)
  | _ => False

/-- Their run. -/
theorem P_run (hp : isP c f o = true) {s : St} {e : Eff} (he : opStep c call f s o = some e) : ∃ u obj, (execOp a.eval o).run c.P w = .ok (.value u) (w.alloc obj) ∧ PVal c o (w.alloc obj) w.heap.size u := by
  unfold isP at hp
  simp only [Bool.and_eq_true] at hp
  obtain ⟨hp, _⟩ := hp
  split at hp
  · rename_i T hop
    unfold opStep at he
    rw [hop] at he
    simp only [opAlloc] at he
    split at he
    case h_2 => simp at he
    rename_i cs hz
    obtain ⟨v, _, z1, z2, z3⟩ := zeroCells_ok hz
    refine ⟨.pointer (some ⟨w.heap.size, 0, none⟩), .cells v.cells T, ?_, ?_⟩
    · simp only [execOp, hop]
      refine run_value ?_
      simp only [Instr.alloc, Sem.run_bind, z1, Result.andThen_ok, run_newVar]
      rfl
    · simp only [PVal, hop]
      exact ⟨trivial, _, heap_alloc w _, cs, hz, z2, z3⟩
  · rename_i T hop
    refine ⟨.map (some w.heap.size), .map #[] 0, ?_, ?_⟩
    · simp only [execOp, hop]
      refine run_value ?_
      simp [Instr.makeMap, newObj, Sem.run]
    · simp only [PVal, hop]
      exact ⟨trivial, 0, heap_alloc w _⟩
  · simp at hp

/-- What was put off is done. -/
theorem P_place (hp : isP c f o = true) (h : SR c.P σ a w S β) {e : Eff} (he : opStep c call f σ o = some e) {b : Nat} {u : Value} (hv : PVal c o w b u) (hfree : ¬ Owned σ β b) (hfix : ∀ off, ¬ S b off) : ∃ S' β', Placed c.P σ a w S β b e u S' β' := by
  unfold isP at hp
  simp only [Bool.and_eq_true] at hp
  obtain ⟨hp, _⟩ := hp
  split at hp
  · rename_i T hop
    unfold opStep at he
    rw [hop] at he
    have hacc : accOf c f o = none := by simpa using hp
    simp only [opAlloc, hacc] at he
    split at he
    case h_2 => simp at he
    rename_i cs hz
    simp only [PVal, hop] at hv
    obtain ⟨rfl, C, hC, ds, hz', ho, hds⟩ := hv
    rw [hz] at hz'; cases hz'
    exact newBox_place h he hC (hds w S β (size σ)).1 ho (hds w S β (size σ)).2 hfree hfix
  · rename_i T hop
    unfold opStep at he
    rw [hop] at he
    simp only [opMakeMap] at he
    obtain rfl := Option.some.inj he
    simp only [PVal, hop] at hv
    obtain ⟨rfl, k, hk⟩ := hv
    have hg := grown_heap σ (.map [])
    refine ⟨S, β.add (.h (size σ)) b 0 0 0, ⟨h.place hg ⟨⟨#[], k, by rw [(add_here β _ _ _ _ _).1]; exact hk, rfl, by simp, by simp⟩, ?_⟩ (by simp [Ob.lt]) hfree, ?_, ?_, Keeps.refl w S, fun _ _ hb => .inl hb, hg.size, sameH_add hg.fresh _ _ _ _, fun b' hb' => owned_place hg hb'⟩⟩
    · rw [(add_here β _ _ _ _ _).1]; exact hfix
    · simp only [RA, RA1, RV]
      exact congrArg (fun b => Value.map (some b)) (add_here β (.h (size σ)) b 0 0 0).1.symm
    · simp [AV.lt, AV.lt1, D.lt, size, apply, pushHp]
  · simp at hp

/-- A block more, that is nobody's. -/
theorem SR.extra (h : SR P σ a w S β) (obj : Obj) : SR P σ a (w.alloc obj) S β ∧ Fr σ w S β σ (w.alloc obj) S β := by
  have hk := keeps_alloc h obj
  have hsz : w.heap.size ≤ (w.alloc obj).heap.size := by
    show w.heap.size ≤ (w.heap.push obj).size
    simp
  refine ⟨?_, ⟨hsz, hk, fun _ _ hb => .inl hb, fun b hb _ => heap_alloc_lt w obj hb, Nat.le_refl _, SameH.refl _ _, fun b hb => .inl hb, rfl, rfl, rfl⟩⟩
  refine h.change hk (fun b off hb => Nat.lt_of_lt_of_le (h.inw b off hb) hsz) (Nat.le_refl _) (fun _ => Nat.le_refl _) (SameH.refl _ _) (SameL.refl _ _) (fun _ => False) ?_ (fun _ _ _ hN => hN.elim) (fun _ _ _ _ _ _ _ hN => hN.elim) (fun t => .inl ⟨rfl, rfl⟩) h.bound h.defers
  intro r o hr _
  exact ⟨hr, rfl, fun m => ⟨fun y hy => by rw [heap_alloc_lt w obj (mem_lt h hr m)]; exact hy, fun _ => Iff.rfl⟩⟩

/-- What is put off: its value stands in its slot; its block is nobody's. -/
structure Pend (c : Cfg) (o : Oper) (n0 : Nat) (b : Nat) (σ : St) (a : Act) (w : World) (S : Fixed) (β : Emb) : Prop where
  lt : b < w.heap.size
  new : n0 ≤ b
  free : ¬ Owned σ β b
  fix : ∀ off, ¬ S b off
  val : PVal c o w b (a.tmps.getD (o.dst.getD 0) undef)

theorem PVal.keep {b : Nat} {u : Value} (hw : w'.heap[b]? = w.heap[b]?) (h : PVal c o w b u) : PVal c o w' b u := by
  unfold PVal at h ⊢
  split
  · rename_i T hop
    simp only [hop] at h
    rw [hw]; exact h
  · rename_i T hop
    simp only [hop] at h
    rw [hw]; exact h
  · rename_i h1 h2
    split at h
    · rename_i T hop; exact (h1 T hop).elim
    · rename_i T hop; exact (h2 T hop).elim
    · exact h

theorem Pend.keep {n0 b : Nat} (k : Pend c o n0 b σ a w S β) (hf : Fr σ w S β σ' w' S' β') (ht : a'.tmps.getD (o.dst.getD 0) undef = a.tmps.getD (o.dst.getD 0) undef) : Pend c o n0 b σ' a' w' S' β' where
  lt := Nat.lt_of_lt_of_le k.lt hf.size
  new := k.new
  free hb := (hf.own b hb).elim k.free fun h => by have := k.lt; omega
  fix off hb := by
    rcases hf.newS b off hb with h1 | h1 | h1
    · exact k.fix off h1
    · exact k.free h1
    · have := k.lt; omega
  val := by rw [ht]; exact k.val.keep (hf.frame b k.lt k.free)

theorem Pend.placed {n0 b b1 : Nat} {o1 : Oper} {e : Eff} {u : Value} (k : Pend c o1 n0 b1 σ a w S β) (hp : Placed P σ a w S β b e u S' β') (hne : b1 ≠ b) : Pend c o1 n0 b1 (apply σ none e) a w S' β' where
  lt := k.lt
  new := k.new
  free hb := (hp.own b1 hb).elim k.free hne
  fix off hb := (hp.newS b1 off hb).elim (k.fix off) k.free
  val := k.val
end
end Go.AE

/- AE: regions whose order is drawn: what is asked of the text; which orders there are. -/
namespace Go.AE
noncomputable section

/-! ### which operations must come first -/
def anc1 (acc : List Nat) (o : Oper) : Nat := o.after.toList.foldl (fun m e => if Region.binds .any e then m ||| 2 ^ e.on ||| (nth acc e.on).getD 0 else m) 0
def ancs (l : List Oper) : List Nat := l.foldl (fun acc o => acc ++ [anc1 acc o]) []

/-- A set of operations that holds, with each, all that must come first. -/
def Down (ops : Array Oper) (X : Nat → Prop) : Prop := ∀ (i : Nat) o, X i → ops[i]? = some o → ∀ e ∈ o.after.toList, Region.binds .any e = true → X e.on

theorem anc1_ok {acc : List Nat} {o : Oper} {y : Nat} (h : (anc1 acc o).testBit y = true) : ∃ e ∈ o.after.toList, Region.binds .any e = true ∧ (e.on = y ∨ ((nth acc e.on).getD 0).testBit y = true) := by
  have key : ∀ (l : List Edge) (m0 : Nat), (l.foldl (fun m e => if Region.binds .any e then m ||| 2 ^ e.on ||| (nth acc e.on).getD 0 else m) m0).testBit y = true →
      m0.testBit y = true ∨ ∃ e ∈ l, Region.binds .any e = true ∧ (e.on = y ∨ ((nth acc e.on).getD 0).testBit y = true) := by
    intro l
    induction l with
    | nil => intro m0 h; exact .inl h
    | cons e r ih =>
      intro m0 h
      simp only [List.foldl_cons] at h
      rcases ih _ h with h1 | ⟨e', h1, h2⟩
      · split at h1
        · rename_i hb
          rw [Nat.testBit_or, Nat.testBit_or, Nat.testBit_two_pow] at h1
          simp only [Bool.or_eq_true, decide_eq_true_eq] at h1
          rcases h1 with (h1 | h1) | h1
          · exact .inl h1
          · exact .inr ⟨e, by simp, hb, .inl h1⟩
          · exact .inr ⟨e, by simp, hb, .inr h1⟩
        · exact .inl h1
      · exact .inr ⟨e', by simp [h1], h2⟩
  rcases key _ _ h with h1 | h1
  · simp at h1
  · exact h1

theorem ancs_ok {ops : Array Oper} {X : Nat → Prop} (hX : Down ops X) {i y : Nat} (h : ((nth (ancs ops.toList) i).getD 0).testBit y = true) (hi : X i) : X y := by
  have key : ∀ (l : List Oper) (acc : List Nat) (pre : List Oper), ops.toList = pre ++ l → acc.length = pre.length → (∀ (i y : Nat), ((nth acc i).getD 0).testBit y = true → X i → X y) →
      ∀ (i y : Nat), ((nth (l.foldl (fun acc o => acc ++ [anc1 acc o]) acc) i).getD 0).testBit y = true → X i → X y := by
    intro l
    induction l with
    | nil => intro acc pre _ _ h i y h1 h2; exact h i y h1 h2
    | cons o r ih =>
      intro acc pre he hl h
      simp only [List.foldl_cons]
      refine ih (acc ++ [anc1 acc o]) (pre ++ [o]) (by rw [he]; simp) (by simp [hl]) ?_
      intro i y h1 h2
      rw [nth_eq] at h1
      rcases Nat.lt_trichotomy i acc.length with hlt | heq | hgt
      · rw [List.getElem?_append_left hlt, ← nth_eq] at h1
        exact h i y h1 h2
      · subst heq
        have : (acc ++ [anc1 acc o])[acc.length]? = some (anc1 acc o) := by simp
        rw [this] at h1
        obtain ⟨e, e1, e2, e3⟩ := anc1_ok h1
        have hget : ops[acc.length]? = some o := by
          rw [← Array.getElem?_toList, he, hl]; simp
        have hon := hX acc.length o h2 hget e e1 e2
        rcases e3 with rfl | e3
        · exact hon
        · exact h e.on y e3 hon
      · rw [List.getElem?_eq_none (by simp; omega)] at h1
        simp at h1
  exact key ops.toList [] [] rfl rfl (by intro i y h; simp [nth_nil] at h) i y h hi

/-! ### what is asked of the text -/
abbrev Ord := List (Nat × Nat × List Nat)
def tagAt (l : Ord) (j : Nat) : Nat := ((nth l j).map (·.1)).getD 0
def idxAt (l : Ord) (j : Nat) : Nat := ((nth l j).map (·.2.1)).getD 0
def recAt (l : Ord) (j : Nat) : List Nat := ((nth l j).map (·.2.2)).getD []
def opAt (L : List Oper) (l : Ord) (j : Nat) : Option Oper := nth L (idxAt l j)
def dstAt (L : List Oper) (l : Ord) (j : Nat) : Option Nat := (opAt L l j).bind (·.dst)
def readsAt (ops : Array Oper) (l : Ord) (j : Nat) : List Nat := match opAt ops.toList l j with
  | some o => readsOf ops o
  | none => []
/-- Of the last operation of another kind than 0: its kind. -/
def lastAt (l : Ord) : Nat → Nat := Nat.rec 1 fun j t => if tagAt l j = 0 then t else tagAt l j
def ancB (A : List Nat) (x y : Nat) : Bool := ((nth A x).getD 0).testBit y
def hasN (l : List Nat) (t : Nat) : Bool := l.any (Nat.beq t)

def pairOk (ops : Array Oper) (A : List Nat) (l : Ord) (i j : Nat) : Bool :=
  !Nat.beq (idxAt l i) (idxAt l j) &&
  ((Nat.beq (tagAt l j) 2 || Nat.beq (tagAt l i) 0 || ancB A (idxAt l j) (idxAt l i)) &&
  ((!Nat.beq (tagAt l j) 1 || !Nat.beq (tagAt l i) 0 || ancB A (idxAt l j) (idxAt l i) || hasN (recAt l j) (idxAt l i)) &&
  ((match dstAt ops.toList l i with
    | some t => (match dstAt ops.toList l j with
      | some u => !Nat.beq t u
      | none => true) && (!hasN (readsAt ops l j) t || ancB A (idxAt l j) (idxAt l i))
    | none => true) &&
  (match dstAt ops.toList l j with
    | some t => !hasN (readsAt ops l i) t || (ancB A (idxAt l j) (idxAt l i) && (List.range l.length).all fun b => !Nat.blt j b || !Nat.beq (tagAt l b) 1 || ancB A (idxAt l b) (idxAt l i))
    | none => true))))

def oneOk (c : Cfg) (f : FuncId) (ops : Array Oper) (l : Ord) (j : Nat) : Bool :=
  match opAt ops.toList l j with
  | some o => Nat.ble (tagAt l j) 2 && ((!Nat.beq (tagAt l j) 2 || isP c f o) && ((match o.dst with
    | some t => !hasN (readsOf ops o) t
    | none => true) && (!Nat.beq (tagAt l j) 0 || !Nat.beq (lastAt l j) 2)))
  | none => false

def edgesOk (L : List Oper) : Bool := (List.range L.length).all fun i => match nth L i with
  | some o => o.after.toList.all fun e => !Region.binds .any e || Nat.blt e.on i
  | none => true

def drawCheck (c : Cfg) (f : FuncId) (ops : Array Oper) (l : Ord) : Bool :=
  edgesOk ops.toList && ((List.range ops.toList.length).all (fun i => (List.range l.length).any fun j => Nat.beq (idxAt l j) i) &&
  (List.range l.length).all fun j => oneOk c f ops l j && (List.range j).all fun i => pairOk ops (ancs ops.toList) l i j)

def drawOk (c : Cfg) (f : FuncId) (id : Nat) (ops : Array Oper) : Bool :=
  match c.order f id with
  | [] => true
  | l => drawCheck c f ops l

/-- One must come ahead of another. -/
def Anc (ops : Array Oper) (l : Ord) (j i : Nat) : Prop := ∀ X, Down ops X → X (idxAt l j) → X (idxAt l i)

structure DrawP (c : Cfg) (f : FuncId) (ops : Array Oper) (l : Ord) : Prop where
  edge : ∀ (i : Nat) o, ops[i]? = some o → ∀ e ∈ o.after.toList, Region.binds .any e = true → e.on < i
  cover : ∀ i, i < ops.size → ∃ j, j < l.length ∧ idxAt l j = i
  op : ∀ j, j < l.length → ∃ o, ops[idxAt l j]? = some o ∧ opAt ops.toList l j = some o
  tag : ∀ j, j < l.length → tagAt l j ≤ 2
  isp : ∀ j, j < l.length → tagAt l j = 2 → ∀ o, opAt ops.toList l j = some o → isP c f o = true
  own : ∀ j, j < l.length → ∀ t, dstAt ops.toList l j = some t → t ∉ readsAt ops l j
  late : ∀ j, j < l.length → tagAt l j = 0 → lastAt l j ≠ 2
  inj : ∀ i j, i < j → j < l.length → idxAt l i ≠ idxAt l j
  dst : ∀ i j, i < j → j < l.length → ∀ t, dstAt ops.toList l i = some t → dstAt ops.toList l j ≠ some t
  bar : ∀ i j, i < j → j < l.length → tagAt l j ≠ 2 → tagAt l i ≠ 0 → Anc ops l j i
  ask : ∀ i j, i < j → j < l.length → tagAt l j = 1 → tagAt l i = 0 → Anc ops l j i ∨ idxAt l i ∈ recAt l j
  rd1 : ∀ i j, i < j → j < l.length → ∀ t, dstAt ops.toList l i = some t → t ∈ readsAt ops l j → Anc ops l j i
  rd2 : ∀ i j, i < j → j < l.length → ∀ t, dstAt ops.toList l j = some t → t ∈ readsAt ops l i → Anc ops l j i ∧ ∀ b, j < b → b < l.length → tagAt l b = 1 → Anc ops l b i

theorem hasN_iff {l : List Nat} {t : Nat} : hasN l t = true ↔ t ∈ l := by
  unfold hasN
  rw [List.any_eq_true]
  constructor
  · rintro ⟨x, hx, hb⟩; rw [Nat.eq_of_beq_eq_true hb]; exact hx
  · intro h; exact ⟨t, h, Nat.beq_refl t⟩

theorem beq_iff {a b : Nat} : Nat.beq a b = true ↔ a = b := ⟨Nat.eq_of_beq_eq_true, fun h => by rw [h]; exact Nat.beq_refl b⟩
theorem beq_false {a b : Nat} : Nat.beq a b = false ↔ a ≠ b := by
  rw [← Bool.not_eq_true, beq_iff]

theorem ancB_ok {ops : Array Oper} {l : Ord} {i j : Nat} (h : ancB (ancs ops.toList) (idxAt l j) (idxAt l i) = true) : Anc ops l j i := fun _ hX hj => ancs_ok hX h hj

theorem drawP_of {c : Cfg} {f : FuncId} {ops : Array Oper} {l : Ord} (h : drawCheck c f ops l = true) : DrawP c f ops l := by
  unfold drawCheck at h
  simp only [Bool.and_eq_true] at h
  obtain ⟨h1, h2, h3⟩ := h
  have all : ∀ j, j < l.length → oneOk c f ops l j = true ∧ ∀ i, i < j → pairOk ops (ancs ops.toList) l i j = true := by
    intro j hj
    have := List.all_eq_true.1 h3 j (List.mem_range.2 hj)
    simp only [Bool.and_eq_true] at this
    exact ⟨this.1, fun i hi => List.all_eq_true.1 this.2 i (List.mem_range.2 hi)⟩
  have one : ∀ j, j < l.length → ∃ o, opAt ops.toList l j = some o ∧ tagAt l j ≤ 2 ∧ (tagAt l j = 2 → isP c f o = true) ∧ (∀ t, o.dst = some t → t ∉ readsOf ops o) ∧ (tagAt l j = 0 → lastAt l j ≠ 2) := by
    intro j hj
    have := (all j hj).1
    unfold oneOk at this
    split at this
    case h_2 => simp at this
    rename_i o ho
    simp only [Bool.and_eq_true, Bool.or_eq_true, Bool.not_eq_true'] at this
    obtain ⟨k1, k2, k3, k4⟩ := this
    refine ⟨o, ho, Nat.le_of_ble_eq_true k1, ?_, ?_, ?_⟩
    · intro h2
      rcases k2 with k2 | k2
      · exact (beq_false.1 k2 h2).elim
      · exact k2
    · intro t ht hm
      rw [ht] at k3
      simp only at k3
      have := hasN_iff.2 hm
      rw [this] at k3; simp at k3
    · intro h0
      rcases k4 with k4 | k4
      · exact (beq_false.1 k4 h0).elim
      · exact beq_false.1 k4
  have pair : ∀ i j, i < j → j < l.length → idxAt l i ≠ idxAt l j ∧ (tagAt l j ≠ 2 → tagAt l i ≠ 0 → Anc ops l j i) ∧ (tagAt l j = 1 → tagAt l i = 0 → Anc ops l j i ∨ idxAt l i ∈ recAt l j) ∧
      (∀ t, dstAt ops.toList l i = some t → dstAt ops.toList l j ≠ some t ∧ (t ∈ readsAt ops l j → Anc ops l j i)) ∧
      (∀ t, dstAt ops.toList l j = some t → t ∈ readsAt ops l i → Anc ops l j i ∧ ∀ b, j < b → b < l.length → tagAt l b = 1 → Anc ops l b i) := by
    intro i j hij hj
    have := (all j hj).2 i hij
    unfold pairOk at this
    simp only [Bool.and_eq_true, Bool.or_eq_true, Bool.not_eq_true'] at this
    obtain ⟨k1, k2, k3, k4, k5⟩ := this
    refine ⟨beq_false.1 k1, ?_, ?_, ?_, ?_⟩
    · intro n1 n2
      rcases k2 with (k2 | k2) | k2
      · exact (n1 (beq_iff.1 k2)).elim
      · exact (n2 (beq_iff.1 k2)).elim
      · exact ancB_ok k2
    · intro n1 n2
      rcases k3 with ((k3 | k3) | k3) | k3
      · exact (beq_false.1 k3 n1).elim
      · exact (beq_false.1 k3 n2).elim
      · exact .inl (ancB_ok k3)
      · exact .inr (hasN_iff.1 k3)
    · intro t ht
      rw [ht] at k4
      simp only [Bool.and_eq_true, Bool.or_eq_true, Bool.not_eq_true'] at k4
      obtain ⟨k4, k6⟩ := k4
      refine ⟨fun hu => ?_, fun hm => ?_⟩
      · rw [hu] at k4
        simp only [Nat.beq_refl] at k4; simp at k4
      · rcases k6 with k6 | k6
        · rw [hasN_iff.2 hm] at k6; simp at k6
        · exact ancB_ok k6
    · intro t ht hm
      rw [ht] at k5
      simp only [Bool.or_eq_true, Bool.not_eq_true', Bool.and_eq_true] at k5
      rcases k5 with k5 | ⟨k5, k6⟩
      · rw [hasN_iff.2 hm] at k5; simp at k5
      · refine ⟨ancB_ok k5, fun b hb hbl htb => ?_⟩
        have := List.all_eq_true.1 k6 b (List.mem_range.2 hbl)
        simp only [Bool.or_eq_true, Bool.not_eq_true'] at this
        rcases this with (h | h) | h
        · have h' : Nat.blt j b = true := by simpa using hb
          rw [h'] at h; simp at h
        · exact (beq_false.1 h htb).elim
        · exact ancB_ok h
  refine ⟨?_, ?_, ?_, ?_, ?_, ?_, ?_, ?_, ?_, ?_, ?_, ?_, ?_⟩
  · intro i o ho e he hb
    unfold edgesOk at h1
    have hi : i < ops.toList.length := by simpa using (Array.getElem?_eq_some_iff.1 ho).1
    have := List.all_eq_true.1 h1 i (List.mem_range.2 hi)
    rw [nth_eq, Array.getElem?_toList, ho] at this
    simp only at this
    have := List.all_eq_true.1 this e he
    rw [hb] at this
    simpa using this
  · intro i hi
    have := List.all_eq_true.1 h2 i (List.mem_range.2 (by simpa using hi))
    obtain ⟨j, hj, hb⟩ := List.any_eq_true.1 this
    exact ⟨j, List.mem_range.1 hj, beq_iff.1 hb⟩
  · intro j hj
    obtain ⟨o, ho, _⟩ := one j hj
    refine ⟨o, ?_, ho⟩
    unfold opAt at ho
    rw [nth_eq, Array.getElem?_toList] at ho
    exact ho
  · intro j hj; obtain ⟨o, _, h, _⟩ := one j hj; exact h
  · intro j hj h2 o ho
    obtain ⟨o', ho', _, h, _⟩ := one j hj
    rw [ho] at ho'; cases ho'; exact h h2
  · intro j hj t ht
    obtain ⟨o, ho, _, _, h, _⟩ := one j hj
    unfold dstAt at ht
    unfold readsAt
    rw [ho] at ht ⊢
    exact h t ht
  · intro j hj; obtain ⟨o, _, _, _, _, h⟩ := one j hj; exact h
  · exact fun i j h1 h2 => (pair i j h1 h2).1
  · exact fun i j h1 h2 t ht => ((pair i j h1 h2).2.2.2.1 t ht).1
  · exact fun i j h1 h2 => (pair i j h1 h2).2.1
  · exact fun i j h1 h2 => (pair i j h1 h2).2.2.1
  · exact fun i j h1 h2 t ht => ((pair i j h1 h2).2.2.2.1 t ht).2
  · exact fun i j h1 h2 => (pair i j h1 h2).2.2.2.2

/-! ### which orders there are -/
/-- An order of all operations behind those of X. -/
inductive Lin (ops : Array Oper) : (Nat → Prop) → List Nat → Prop
  | nil {X : Nat → Prop} : (∀ i, i < ops.size → X i) → Lin ops X []
  | cons {X : Nat → Prop} {i : Nat} {o : Oper} {l : List Nat} : ops[i]? = some o → ¬ X i → (∀ e ∈ o.after.toList, Region.binds .any e = true → X e.on) → Lin ops (fun x => x = i ∨ X x) l → Lin ops X (i :: l)

theorem filter_less {p q : Nat → Bool} : ∀ {l : List Nat} {i : Nat}, (∀ x ∈ l, q x = true → p x = true) → i ∈ l → p i = true → q i = false → (l.filter q).length < (l.filter p).length
  | [], i, _, hi, _, _ => by simp at hi
  | x :: r, i, hs, hi, hp, hq => by
    have le : ∀ (l : List Nat), (∀ x ∈ l, q x = true → p x = true) → (l.filter q).length ≤ (l.filter p).length := by
      intro l
      induction l with
      | nil => intro _; simp
      | cons y l ih =>
        intro hs
        have := ih (fun z hz => hs z (by simp [hz]))
        by_cases hqy : q y = true
        · rw [List.filter_cons_of_pos hqy, List.filter_cons_of_pos (hs y (by simp) hqy)]
          simp; exact this
        · rw [List.filter_cons_of_neg hqy]
          by_cases hpy : p y = true
          · rw [List.filter_cons_of_pos hpy]; simp; omega
          · rw [List.filter_cons_of_neg hpy]; exact this
    rcases List.mem_cons.1 hi with rfl | hi
    · rw [List.filter_cons_of_pos hp, List.filter_cons_of_neg (by simp [hq])]
      have := le r (fun z hz => hs z (by simp [hz]))
      simp; omega
    · have ih := filter_less (l := r) (fun z hz => hs z (by simp [hz])) hi hp hq
      by_cases hqx : q x = true
      · rw [List.filter_cons_of_pos hqx, List.filter_cons_of_pos (hs x (by simp) hqx)]; simp; exact ih
      · rw [List.filter_cons_of_neg hqx]
        by_cases hpx : p x = true
        · rw [List.filter_cons_of_pos hpx]; simp; omega
        · rw [List.filter_cons_of_neg hpx]; exact ih

theorem linearise_go {ops : Array Oper} (hedge : ∀ (i : Nat) o, ops[i]? = some o → ∀ e ∈ o.after.toList, Region.binds .any e = true → e.on < i) : ∀ (fuel t : Nat) (listed : Array Bool) (acc : List Nat), listed.size = ops.size →
    ((List.range ops.size).filter fun i => !listed.getD i true).length ≤ fuel → ∃ l, Region.linearise.go .any ops fuel t listed acc = acc.reverse ++ l ∧ Lin ops (fun i => listed.getD i false = true) l
  | 0, t, listed, acc, hs, hf => by
    refine ⟨[], by simp [Region.linearise.go], .nil fun i hi => ?_⟩
    have h0 : ((List.range ops.size).filter fun i => !listed.getD i true) = [] := List.length_eq_zero_iff.1 (by omega)
    have := List.filter_eq_nil_iff.1 h0 i (List.mem_range.2 hi)
    have hi' : i < listed.size := by omega
    simp [Array.getD_eq_getD_getElem?, Array.getElem?_eq_getElem hi'] at this ⊢
    exact this
  | fuel + 1, t, listed, acc, hs, hf => by
    simp only [Region.linearise.go]
    generalize hrs : ((List.range ops.size).filter fun i => !listed.getD i true && ((ops[i]?).map (·.after.all fun e => !Region.binds .any e || listed.getD e.on false)).getD false) = rs
    have mem : ∀ {i}, i ∈ rs ↔ i < ops.size ∧ listed.getD i true = false ∧ ((ops[i]?).map (·.after.all fun e => !Region.binds .any e || listed.getD e.on false)).getD false = true := by
      intro i
      rw [← hrs, List.mem_filter, List.mem_range, Bool.and_eq_true, Bool.not_eq_true']
    by_cases hne : rs = []
    · -- all are listed
      subst hne
      refine ⟨[], by simp, .nil fun i hi => ?_⟩
      have key : ∀ n i, i < n → i < ops.size → listed.getD i false = true := by
        intro n
        induction n with
        | zero => intro i h; omega
        | succ n ih =>
          intro i hn hi
          have hi' : i < listed.size := by omega
          cases hl : listed[i] with
          | true => simp [Array.getD_eq_getD_getElem?, Array.getElem?_eq_getElem hi', hl]
          | false =>
            exfalso
            have hnm : i ∉ ([] : List Nat) := by simp
            apply hnm
            rw [mem]
            refine ⟨hi, by simp [Array.getD_eq_getD_getElem?, Array.getElem?_eq_getElem hi', hl], ?_⟩
            rw [Array.getElem?_eq_getElem hi]
            simp only [Option.map_some, Option.getD_some]
            rw [Array.all_eq_true_iff_forall_mem]
            intro e he
            by_cases hb : Region.binds .any e = true
            · have hlt := hedge i _ (Array.getElem?_eq_getElem hi) e (by simpa using he) hb
              rw [ih e.on (by omega) (by omega)]; simp
            · simp [hb]
      exact key (i + 1) i (by omega) hi
    · have hpos : 0 < rs.length := List.length_pos_iff.2 hne
      have hlt : t % rs.length < rs.length := Nat.mod_lt _ hpos
      rw [List.getElem?_eq_getElem hlt]
      simp only
      generalize hi0 : rs[t % rs.length] = i
      have him : i ∈ rs := by rw [← hi0]; exact List.getElem_mem hlt
      obtain ⟨m1, m2, m3⟩ := mem.1 him
      have hi' : i < listed.size := by omega
      have gd : ∀ (x : Nat) (d : Bool), (listed.setIfInBounds i true).getD x d = if x = i then true else listed.getD x d := by
        intro x d
        simp only [Array.getD_eq_getD_getElem?]
        by_cases hx : x = i
        · subst hx; rw [Array.getElem?_setIfInBounds_self_of_lt hi']; simp
        · rw [Array.getElem?_setIfInBounds_ne (Ne.symm hx), if_neg hx]
      have hfl : ((List.range ops.size).filter fun x => !(listed.setIfInBounds i true).getD x true).length ≤ fuel := by
        have := filter_less (p := fun x => !listed.getD x true) (q := fun x => !(listed.setIfInBounds i true).getD x true) (l := List.range ops.size) (i := i) (by
          intro x _ hq
          simp only [gd] at hq
          split at hq
          · simp at hq
          · exact hq) (List.mem_range.2 m1) (by simp [m2]) (by simp [gd])
        omega
      obtain ⟨l, h1, h2⟩ := linearise_go hedge fuel (t / rs.length) (listed.setIfInBounds i true) (i :: acc) (by simp [hs]) hfl
      refine ⟨i :: l, by rw [h1]; simp, ?_⟩
      rw [Array.getElem?_eq_getElem m1] at m3
      simp only [Option.map_some, Option.getD_some] at m3
      refine .cons (o := ops[i]) (Array.getElem?_eq_getElem m1) ?_ ?_ ?_
      · intro hc
        have hm2 := m2
        simp only [Array.getD_eq_getD_getElem?, Array.getElem?_eq_getElem hi', Option.getD_some] at hc hm2
        rw [hc] at hm2; simp at hm2
      · intro e he hb
        rw [Array.all_eq_true_iff_forall_mem] at m3
        have := m3 e (by simpa using he)
        rw [hb] at this
        simpa using this
      · have : (fun x => (listed.setIfInBounds i true).getD x false = true) = fun x => x = i ∨ listed.getD x false = true := by
          funext x
          rw [gd]
          by_cases hx : x = i
          · simp [hx]
          · simp [hx]
        rw [← this]; exact h2

theorem linearise_ok {ops : Array Oper} (hedge : ∀ (i : Nat) o, ops[i]? = some o → ∀ e ∈ o.after.toList, Region.binds .any e = true → e.on < i) (t : Nat) : Lin ops (fun _ => False) (Region.linearise .any ops t) := by
  obtain ⟨l, h1, h2⟩ := linearise_go hedge ops.size t (Array.replicate ops.size false) [] (by simp) (by
    have := List.length_filter_le (fun i => !(Array.replicate ops.size false).getD i true) (List.range ops.size)
    simpa using this)
  have he : Region.linearise .any ops t = l := by
    unfold Region.linearise
    rw [h1]; simp
  rw [he]
  have : (fun i => (Array.replicate ops.size false).getD i false = true) = fun _ => False := by
    funext i
    simp only [Array.getD_eq_getD_getElem?, Array.getElem?_replicate]
    by_cases hi : i < ops.size
    · simp [hi]
    · simp [hi]
  rw [← this]; exact h2
end
end Go.AE

/- AE: a run in one order, looked at step by step. -/
namespace Go.AE

mutual
theorem D.same_ok : ∀ (x y : D), D.same x y = true → x = y
  | .bool a, y, h => by
    cases y <;> simp [D.same] at h
    rw [h]
  | .int j a, y, h => by
    cases y <;> simp [D.same] at h
    rw [h.1, h.2]
  | .str s, y, h => by
    cases y with
    | str t =>
      simp [D.same] at h
      cases s; cases t; simp at h; rw [h]
    | _ => simp [D.same] at h
  | .agg as, y, h => by
    cases y with
    | agg bs => simp only [D.same] at h; rw [D.sames_ok as bs h]
    | _ => simp [D.same] at h
  | .tup as, y, h => by
    cases y with
    | tup bs => simp only [D.same] at h; rw [D.sames_ok as bs h]
    | _ => simp [D.same] at h
  | .list as, y, h => by
    cases y with
    | list bs => simp only [D.same] at h; rw [D.sames_ok as bs h]
    | _ => simp [D.same] at h
  | .ipt as, y, h => by
    cases y with
    | ipt bs => simp only [D.same] at h; rw [D.sames_ok as bs h]
    | _ => simp [D.same] at h
  | .nilp, y, h => by cases y <;> simp [D.same] at h; rfl
  | .nilm, y, h => by cases y <;> simp [D.same] at h; rfl
  | .nilf, y, h => by cases y <;> simp [D.same] at h; rfl
  | .nili, y, h => by cases y <;> simp [D.same] at h; rfl
  | .nil0, y, h => by cases y <;> simp [D.same] at h; rfl
  | .undef, y, h => by cases y <;> simp [D.same] at h
  | .fn _ _ _, y, h => by cases y <;> simp [D.same] at h
  | .iface _ _, y, h => by cases y <;> simp [D.same] at h
  | .own _ _, y, h => by cases y <;> simp [D.same] at h
  | .ptr i a, y, h => by
    cases y with
    | ptr j b => simp only [D.same, Bool.and_eq_true, beq_iff] at h; rw [h.1, h.2]
    | _ => simp [D.same] at h
  | .hr i a x, y, h => by
    cases y with
    | hr j b z => simp only [D.same, Bool.and_eq_true, beq_iff] at h; rw [h.1, h.2.1, h.2.2]
    | _ => simp [D.same] at h
  | .map i, y, h => by
    cases y with
    | map j => simp only [D.same, beq_iff] at h; rw [h]
    | _ => simp [D.same] at h
  | .hsf i, y, h => by
    cases y with
    | hsf j => simp only [D.same, beq_iff] at h; rw [h]
    | _ => simp [D.same] at h
  | .hs i a x, y, h => by
    cases y with
    | hs j b z => simp only [D.same, Bool.and_eq_true, beq_iff] at h; rw [h.1, h.2.1, h.2.2]
    | _ => simp [D.same] at h
theorem D.sames_ok : ∀ (xs ys : List D), D.sames xs ys = true → xs = ys
  | [], ys, h => by cases ys <;> simp [D.sames] at h; rfl
  | x :: xs, ys, h => by
    cases ys with
    | nil => simp [D.sames] at h
    | cons y ys =>
      simp only [D.sames, Bool.and_eq_true] at h
      rw [D.same_ok x y h.1, D.sames_ok xs ys h.2]
end

theorem AV.same1_ok {x y : AV} (h : AV.same1 x y = true) : x = y := by
  cases x with
  | d a => cases y with
    | d b => simp only [AV.same1] at h; rw [D.same_ok a b h]
    | _ => simp [AV.same1] at h
  | lp i g a => cases y with
    | lp j k b => simp only [AV.same1, Bool.and_eq_true, beq_iff] at h; rw [h.1, h.2.1, h.2.2]
    | _ => simp [AV.same1] at h
  | lr i g a x => cases y with
    | lr j k b z => simp only [AV.same1, Bool.and_eq_true, beq_iff] at h; rw [h.1, h.2.1, h.2.2.1, h.2.2.2]
    | _ => simp [AV.same1] at h
  | lsf i g => cases y with
    | lsf j k => simp only [AV.same1, Bool.and_eq_true, beq_iff] at h; rw [h.1, h.2]
    | _ => simp [AV.same1] at h
  | ls i g a x => cases y with
    | ls j k b z => simp only [AV.same1, Bool.and_eq_true, beq_iff] at h; rw [h.1, h.2.1, h.2.2.1, h.2.2.2]
    | _ => simp [AV.same1] at h
  | lb i g a x => cases y <;> simp [AV.same1] at h
  | agg cs => cases y <;> simp [AV.same1] at h

theorem AV.sames_ok : ∀ {xs ys : List AV}, AV.sames xs ys = true → xs = ys
  | [], ys, h => by cases ys <;> simp [AV.sames] at h; rfl
  | x :: xs, ys, h => by
    cases ys with
    | nil => simp [AV.sames] at h
    | cons y ys =>
      simp only [AV.sames, Bool.and_eq_true] at h
      rw [AV.same1_ok h.1, AV.sames_ok h.2]

theorem AV.same_ok {x y : AV} (h : AV.same x y = true) : x = y := by
  unfold AV.same at h
  split at h
  · rw [AV.sames_ok h]
  · exact AV.same1_ok h

section
variable {c : Cfg} {call : CallF} {f : FuncId} {ops : Array Oper} {l : Ord} {σ σ' : St}

/-- An operation that writes its slot alone. -/
theorem quiet_ok {e : Eff} (h : e.quiet = true) : e.lw = [] ∧ e.fw = [] ∧ e.hw = none := by
  unfold Eff.quiet at h
  simp only [Bool.and_eq_true] at h
  obtain ⟨h1, h2, h3⟩ := h
  exact ⟨by simpa using h1, by simpa using h2, by simpa using h3⟩

theorem again_ok {s : St} : ∀ {r : List Nat}, again c call f ops s r = true → ∀ q ∈ r, ∃ o e, ops[q]? = some o ∧ stepEff c call f ops o s = some e ∧ e.quiet = true ∧ ∀ t, o.dst = some t → e.v = s.env t
  | [], _, q, hq => by simp at hq
  | x :: r, h, q, hq => by
    simp only [again] at h
    split at h
    case h_2 => simp at h
    rename_i o ho
    simp only [Bool.and_eq_true] at h
    obtain ⟨h1, h2⟩ := h
    rcases List.mem_cons.1 hq with rfl | hq
    · split at h1
      case h_2 => simp at h1
      rename_i e he
      simp only [Bool.and_eq_true] at h1
      rw [nth_eq, Array.getElem?_toList] at ho
      refine ⟨o, e, ho, he, h1.1, fun t ht => ?_⟩
      have := h1.2
      rw [ht] at this
      exact AV.same_ok this
    · exact again_ok h2 q hq

/-- The states of a run, and what its operations do. -/
structure Tr (c : Cfg) (call : CallF) (f : FuncId) (ops : Array Oper) (l : Ord) (σ σ' : St) (s : Nat → St) (ev : Nat → Eff) : Prop where
  start : s 0 = σ
  stop : s l.length = σ'
  step : ∀ j, j < l.length → ∀ o, opAt ops.toList l j = some o → stepEff c call f ops o (s j) = some (ev j) ∧ s (j + 1) = apply (s j) o.dst (ev j)
  quiet : ∀ j, j < l.length → tagAt l j = 0 → (ev j).quiet = true
  again : ∀ j, j < l.length → ∀ q ∈ recAt l j, ∃ o e, ops[q]? = some o ∧ stepEff c call f ops o (s (j + 1)) = some e ∧ e.quiet = true ∧ ∀ t, o.dst = some t → e.v = (s (j + 1)).env t

theorem stepD_ok {p : Nat × Nat × List Nat} (h : stepD c call f ops p σ = some σ') : ∃ o e, nth ops.toList p.2.1 = some o ∧ stepEff c call f ops o σ = some e ∧ (p.1 = 0 → e.quiet = true) ∧ σ' = apply σ o.dst e ∧ again c call f ops σ' p.2.2 = true := by
  unfold stepD at h
  split at h
  case h_2 => simp at h
  rename_i o ho
  split at h
  case h_2 => simp at h
  rename_i e he
  split at h
  · simp at h
  · rename_i hc
    simp only [Option.some.injEq] at h; subst h
    simp only [Bool.or_eq_true, Bool.and_eq_true, Bool.not_eq_true', not_or, not_and] at hc
    refine ⟨o, e, ho, he, fun h0 => ?_, rfl, ?_⟩
    · have := hc.1 (by rw [h0]; rfl)
      simpa using this
    · simpa using hc.2

theorem runD_ok : ∀ {l : Ord} {σ σ' : St}, runD c call f ops l σ = some σ' → ∃ s ev, Tr c call f ops l σ σ' s ev
  | [], σ, σ', h => by
    have h' : some σ = some σ' := h
    cases h'
    exact ⟨fun _ => σ, fun _ => { v := .d .undef }, rfl, rfl, fun j hj => by simp at hj, fun j hj => by simp at hj, fun j hj => by simp at hj⟩
  | p :: r, σ, σ', h => by
    have h' : (match stepD c call f ops p σ with
      | some σ1 => runD c call f ops r σ1
      | none => none) = some σ' := h
    split at h'
    case h_2 => simp at h'
    rename_i σ1 h1
    obtain ⟨o, e, k1, k2, k3, k4, k5⟩ := stepD_ok h1
    obtain ⟨s, ev, T⟩ := runD_ok h'
    refine ⟨fun j => match j with | 0 => σ | j + 1 => s j, fun j => match j with | 0 => e | j + 1 => ev j, rfl, T.stop, ?_, ?_, ?_⟩
    · intro j hj o' ho'
      cases j with
      | zero =>
        have ho2 : nth ops.toList p.2.1 = some o' := ho'
        rw [k1] at ho2; cases ho2
        exact ⟨k2, by show s 0 = _; rw [T.start, k4]⟩
      | succ j => exact T.step j (by simpa using hj) o' ho'
    · intro j hj h0
      cases j with
      | zero => exact k3 h0
      | succ j => exact T.quiet j (by simpa using hj) h0
    · intro j hj q hq
      cases j with
      | zero =>
        show ∃ o e, ops[q]? = some o ∧ stepEff c call f ops o (s 0) = some e ∧ e.quiet = true ∧ ∀ t, o.dst = some t → e.v = (s 0).env t
        rw [T.start]
        exact again_ok k5 q hq
      | succ j => exact T.again j (by simpa using hj) q hq

theorem apply_env (σ : St) (dst : Option Nat) (e : Eff) (t : Nat) : (apply σ dst e).env t = if dst = some t then e.v else σ.env t := by
  cases dst with
  | none => simp [apply]
  | some u =>
    simp only [apply, Option.some.injEq]
    by_cases h : t = u
    · subst h; rw [upd_same, if_pos rfl]
    · rw [upd_other _ _ h, if_neg (fun he => h he.symm)]

variable {s : Nat → St} {ev : Nat → Eff}

theorem dstAt_op {L : List Oper} {j : Nat} {o : Oper} (h : opAt L l j = some o) : dstAt L l j = o.dst := by
  unfold dstAt; rw [h]; rfl

theorem Tr.miss (T : Tr c call f ops l σ σ' s ev) (D : DrawP c f ops l) {t : Nat} : ∀ {k : Nat}, k ≤ l.length → (∀ i, i < k → dstAt ops.toList l i ≠ some t) → (s k).env t = σ.env t
  | 0, _, _ => by rw [T.start]
  | k + 1, hk, h => by
    obtain ⟨o, _, ho⟩ := D.op k (by omega)
    obtain ⟨_, h2⟩ := T.step k (by omega) o ho
    rw [h2, apply_env]
    have hd := h k (by omega)
    rw [dstAt_op ho] at hd
    rw [if_neg hd]
    exact T.miss D (by omega) (fun i hi => h i (by omega))

theorem Tr.hit (T : Tr c call f ops l σ σ' s ev) (D : DrawP c f ops l) {t i : Nat} (hd : dstAt ops.toList l i = some t) : ∀ {k : Nat}, k ≤ l.length → i < k → (s k).env t = (ev i).v
  | 0, _, h => by omega
  | k + 1, hk, hi => by
    obtain ⟨o, _, ho⟩ := D.op k (by omega)
    obtain ⟨_, h2⟩ := T.step k (by omega) o ho
    rw [h2, apply_env]
    by_cases he : i = k
    · subst he
      rw [dstAt_op ho] at hd
      rw [if_pos hd]
    · have hlt : i < k := by omega
      have := D.dst i k hlt (by omega) t hd
      rw [dstAt_op ho] at this
      rw [if_neg this]
      exact T.hit D hd (by omega) hlt

/-- Quiet steps leave all but the slots alone. -/
theorem Tr.still (T : Tr c call f ops l σ σ' s ev) (D : DrawP c f ops l) {k : Nat} (hk : k < l.length) (h0 : tagAt l k = 0) : (s (k + 1)).loc = (s k).loc ∧ (s (k + 1)).fz = (s k).fz ∧ (s (k + 1)).hp = (s k).hp := by
  obtain ⟨o, _, ho⟩ := D.op k hk
  obtain ⟨_, h2⟩ := T.step k hk o ho
  obtain ⟨q1, q2, q3⟩ := quiet_ok (T.quiet k hk h0)
  rw [h2]
  simp [apply, q1, q2, q3, setMany]
end
end Go.AE

/- AE: whatever order is drawn, the machine does what the interpreter says. -/
namespace Go.AE

section
variable {c : Cfg} {call : CallF} {f : FuncId} {ops : Array Oper} {l : Ord} {σ σ' : St} {hp0 : Hp} {N : Nat} {s : Nat → St} {ev : Nat → Eff}
variable {a : Act} {w w0 : World} {S S0 : Fixed} {β β0 : Emb}

theorem stepOp_ok2 (hP : WFP c.P) (hC : CallOK c.P call) (h : Inv c hp0 N σ a w S β) {o : Oper} (hd : ∀ t, o.dst = some t → t < N) {e : Eff} (he : stepEff c call f ops o σ = some e) {next : Act → World → Prop} {Q : Exit → Act → World → Prop}
    (hn : ∀ u w' S' β', Inv c hp0 N (apply σ o.dst e) (a.put o.dst u) w' S' β' → Fr σ w S β (apply σ o.dst e) w' S' β' → next (a.put o.dst u) w') :
    if Region.wanted o (yielded ops a.tmps) then o.wp c.P a w next Q ∨ (o.asks c.P a w ∧ LetsOut Q) else next (a.put o.dst undef) w := by
  have hdst : DstOk a o.dst := fun t ht => by rw [h.n]; exact hd t ht
  unfold stepEff at he
  split at he
  · rename_i hw
    rw [wants_ok h.sr hw]
    simp only [if_true]
    obtain ⟨r1, r2⟩ := opAll_ok hP hC h.hp.pure h.sr he
    left
    refine r1 next Q fun w' S' β' u k1 k2 k3 k4 => hn u w' S' β' ⟨k1.slot hdst k4 k3, ?_, by rw [put_size]; exact h.n⟩ k2.slot
    rw [apply_hp]
    exact r2 hp0 h.hp
  · rename_i hw
    rw [wants_ok h.sr hw]
    simp only [Bool.false_eq_true, if_false]
    simp only [Option.some.injEq] at he; subst he
    have hv : RA w S β (.d (.tup [])) undef := by simp only [RA, RA1, RV, RVs]; exact ⟨#[], rfl, rfl⟩
    have hl : (AV.d (.tup [])).lt (size (apply σ none { v := .d (.tup []) })) (gen (apply σ none { v := .d (.tup []) })) := by simp [AV.lt, AV.lt1, D.lt, D.lts]
    have k : SR c.P (apply σ none { v := .d (.tup []) }) a w S β := h.sr
    have k2 : Fr σ w S β (apply σ none { v := .d (.tup []) }) w S β := Fr.refl σ w S β
    refine hn undef w S β ⟨k.slot hdst hl hv, ?_, by rw [put_size]; exact h.n⟩ k2.slot
    rw [apply_hp]; exact h.hp
  · simp at he

theorem put_same {a : Act} {t : Nat} {u : Value} (ht : t < a.tmps.size) (h : a.tmps.getD t undef = u) : a.put (some t) u = a := by
  have : a.tmps.setIfInBounds t u = a.tmps := by
    apply Array.ext_getElem?
    intro i
    by_cases hi : i = t
    · subst hi
      rw [Array.getElem?_setIfInBounds_self_of_lt ht]
      rw [Array.getD_eq_getD_getElem?, Array.getElem?_eq_getElem ht] at h
      simp only [Option.getD_some] at h
      rw [Array.getElem?_eq_getElem ht, h]
    · rw [Array.getElem?_setIfInBounds_ne (Ne.symm hi)]
  simp only [Act.put, this]

/-- The states that belong together: of the operations in X, all but those put off from k on are done. -/
structure Sim (c : Cfg) (ops : Array Oper) (l : Ord) (hp0 : Hp) (N : Nat) (σ : St) (w0 : World) (S0 : Fixed) (β0 : Emb) (s : Nat → St) (ev : Nat → Eff) (X : Nat → Prop) (k : Nat) (a : Act) (w : World) (τ : St) (S : Fixed) (β : Emb) (B : Nat → Nat) : Prop where
  le : k ≤ l.length
  before : ∀ j, j < k → tagAt l j ≠ 0 → X (idxAt l j)
  notyet : ∀ j, k ≤ j → j < l.length → tagAt l j = 1 → ¬ X (idxAt l j)
  inv : Inv c hp0 N τ a w S β
  fr : Fr σ w0 S0 β0 τ w S β
  loc : τ.loc = (s k).loc
  fz : τ.fz = (s k).fz
  hp : τ.hp = (s k).hp
  hit : ∀ j, j < l.length → ∀ t, dstAt ops.toList l j = some t → X (idxAt l j) → ¬ (k ≤ j ∧ tagAt l j = 2) → τ.env t = (ev j).v
  miss : ∀ t, (∀ j, j < l.length → dstAt ops.toList l j = some t → ¬ X (idxAt l j)) → τ.env t = σ.env t
  pend : ∀ j, j < l.length → k ≤ j → tagAt l j = 2 → X (idxAt l j) → ∀ o, opAt ops.toList l j = some o → Pend c o w0.heap.size (B j) τ a w S β
  inj : ∀ i j, i < l.length → j < l.length → k ≤ i → k ≤ j → tagAt l i = 2 → tagAt l j = 2 → X (idxAt l i) → X (idxAt l j) → i ≠ j → B i ≠ B j

variable {X : Nat → Prop} {k : Nat} {τ : St} {B : Nat → Nat}

theorem St.ext' {x y : St} (h1 : x.env = y.env) (h2 : x.loc = y.loc) (h3 : x.fz = y.fz) (h4 : x.hp = y.hp) : x = y := by
  cases x; cases y; simp only at h1 h2 h3 h4; subst h1; subst h2; subst h3; subst h4; rfl

/-- An operation does in τ what it does in the run's state, where its slots are the same. -/
theorem Sim.eff {y : St} {o : Oper} (h1 : τ.loc = y.loc) (h2 : τ.fz = y.fz) (h3 : τ.hp = y.hp) (hr : ∀ t ∈ readsOf ops o, τ.env t = y.env t) : stepEff c call f ops o τ = stepEff c call f ops o y := by
  have : τ = y.with τ.env := St.ext' rfl h1 h2 h3
  rw [this]
  exact stepEff_congr hr

theorem isP_reads {o : Oper} (h : isP c f o = true) : readsOf ops o = [] ∧ o.guard = none ∧ (∃ t, o.dst = some t) ∧ ¬ isFnCall o := by
  unfold isP at h
  simp only [Bool.and_eq_true, Option.isNone_iff_eq_none] at h
  obtain ⟨h1, h2, h3⟩ := h
  refine ⟨?_, h2, Option.isSome_iff_exists.1 h3, ?_⟩
  · unfold readsOf
    rw [h2]
    split at h1
    · rename_i T hop; rw [hop]; simp [Op.operands]
    · rename_i T hop; rw [hop]; simp [Op.operands]
    · simp at h1
  · rintro ⟨cl, g, hop, _⟩
    rw [hop] at h1
    simp at h1

theorem isP_eff {o : Oper} {e : Eff} (h : isP c f o = true) {y : St} (he : stepEff c call f ops o y = some e) : opStep c call f y o = some e := by
  unfold stepEff wants at he
  rw [(isP_reads (ops := ops) h).2.1] at he
  exact he

/-- One more of the run's operations: a quiet one, or one put off and done already by the machine. -/
theorem Sim.advance (hP : WFP c.P) (T : Tr c call f ops l σ σ' s ev) (D : DrawP c f ops l) (hN : ∀ o ∈ ops.toList, ∀ t, o.dst = some t → t < N) (h : Sim c ops l hp0 N σ w0 S0 β0 s ev X k a w τ S β B) (hk : k < l.length)
    (hc : tagAt l k = 0 ∨ (tagAt l k = 2 ∧ X (idxAt l k))) : ∃ τ' S' β', Sim c ops l hp0 N σ w0 S0 β0 s ev X (k + 1) a w τ' S' β' B := by
  rcases hc with h0 | ⟨h2, hX⟩
  · obtain ⟨s1, s2, s3⟩ := T.still D hk h0
    refine ⟨τ, S, β, hk, ?_, fun j hj => h.notyet j (by omega), h.inv, h.fr, by rw [s1]; exact h.loc, by rw [s2]; exact h.fz, by rw [s3]; exact h.hp, ?_, h.miss, fun j hj hkj => h.pend j hj (by omega), fun i j hi hj hki hkj => h.inj i j hi hj (by omega) (by omega)⟩
    · intro j hj ht
      by_cases he : j = k
      · subst he; exact (ht h0).elim
      · exact h.before j (by omega) ht
    · intro j hj t ht hx hn
      refine h.hit j hj t ht hx fun hh => hn ⟨?_, hh.2⟩
      by_cases he : j = k
      · subst he; rw [h0] at hh; simp at hh
      · omega
  · obtain ⟨o, ho1, ho2⟩ := D.op k hk
    have hisp := D.isp k hk h2 o ho2
    obtain ⟨hreads, _, ⟨t, ht⟩, hnc⟩ := isP_reads (ops := ops) hisp
    obtain ⟨t1, t2⟩ := T.step k hk o ho2
    have heff : stepEff c call f ops o τ = some (ev k) := by
      rw [Sim.eff h.loc h.fz h.hp (by rw [hreads]; simp)]; exact t1
    have hop := isP_eff hisp heff
    have hp := h.pend k hk (Nat.le_refl _) h2 hX o ho2
    have hval : a.tmps.getD t undef = a.tmps.getD (o.dst.getD 0) undef := by rw [ht]; rfl
    obtain ⟨S', β', pl⟩ := P_place hisp h.inv.sr hop hp.val hp.free hp.fix
    have htN : t < a.tmps.size := by
      rw [h.inv.n]
      exact hN o (by
        have := List.mem_of_getElem? (show ops.toList[idxAt l k]? = some o by rw [Array.getElem?_toList]; exact ho1)
        exact this) t ht
    have hdst : DstOk a o.dst := fun t' ht' => by rw [ht] at ht'; cases ht'; exact htN
    have hsr := pl.sr.slot hdst pl.lt pl.ra
    have hput : a.put o.dst (a.tmps.getD (o.dst.getD 0) undef) = a := by rw [ht]; exact put_same htN rfl
    rw [hput] at hsr
    have hdk : dstAt ops.toList l k = some t := by rw [dstAt_op ho2]; exact ht
    -- which blocks are owned: the slot does not matter
    have hownE : ∀ b, Owned (apply τ o.dst (ev k)) β' b ↔ Owned (apply τ none (ev k)) β' b := by
      intro b
      have hg : ∀ r, get (apply τ o.dst (ev k)) r = get (apply τ none (ev k)) r := by intro r; cases r <;> rfl
      exact ⟨fun ⟨r, o, h1, h2, h3⟩ => ⟨r, o, by rw [← hg]; exact h1, h2, h3⟩, fun ⟨r, o, h1, h2, h3⟩ => ⟨r, o, by rw [hg]; exact h1, h2, h3⟩⟩
    refine ⟨apply τ o.dst (ev k), S', β', hk, ?_, fun j hj => h.notyet j (by omega), ⟨hsr, ?_, h.inv.n⟩, ?_, ?_, ?_, ?_, ?_, ?_, ?_, fun i j hi hj hki hkj => h.inj i j hi hj (by omega) (by omega)⟩
    · intro j hj htg
      by_cases he : j = k
      · subst he; exact hX
      · exact h.before j (by omega) htg
    · rw [apply_hp]
      exact opStep_heap hP hnc hop h.inv.hp.pure hp0 h.inv.hp
    · refine ⟨h.fr.size, h.fr.keep.trans pl.keep, fun b off hb => ?_, h.fr.frame, ?_, h.fr.sameH.trans h.fr.next pl.sameH, fun b hb => ?_, h.fr.os, h.fr.tape, h.fr.output⟩
      · rcases pl.newS b off hb with h1 | h1
        · exact h.fr.newS b off h1
        · rcases h.fr.own b h1 with h3 | h3
          · exact .inr (.inl h3)
          · exact .inr (.inr h3)
      · exact Nat.le_trans h.fr.next pl.next
      · rcases pl.own b ((hownE b).1 hb) with h1 | h1
        · exact h.fr.own b h1
        · exact .inr (by rw [h1]; exact hp.new)
    · rw [t2]; simp only [apply, h.loc]
    · rw [t2]; simp only [apply, h.fz]
    · rw [t2]; simp only [apply, h.hp]
    · intro j hj t' ht' hx hn
      rw [apply_env]
      by_cases he : j = k
      · subst he
        rw [hdk] at ht'; cases ht'
        rw [if_pos ht]
      · have hne : t' ≠ t := by
          rintro rfl
          rcases Nat.lt_or_gt_of_ne he with hlt | hgt
          · exact D.dst j k hlt hk t' ht' hdk
          · exact D.dst k j hgt hj t' hdk ht'
        rw [if_neg (by rw [ht]; intro e; cases e; exact hne rfl)]
        exact h.hit j hj t' ht' hx fun hh => hn ⟨by omega, hh.2⟩
    · intro t' hm
      rw [apply_env, if_neg]
      · exact h.miss t' hm
      · rw [ht]; intro e; cases e
        exact hm k hk hdk hX
    · intro j hj hkj htg hx o' ho'
      have hj0 := h.pend j hj (by omega) htg hx o' ho'
      have hne : B j ≠ B k := h.inj j k hj hk (by omega) (Nat.le_refl _) htg h2 hx hX (by omega)
      have := hj0.placed pl hne
      exact ⟨this.lt, this.new, fun hb => this.free ((hownE _).1 hb), this.fix, this.val⟩

theorem Sim.advanceTo (hP : WFP c.P) (T : Tr c call f ops l σ σ' s ev) (D : DrawP c f ops l) (hN : ∀ o ∈ ops.toList, ∀ t, o.dst = some t → t < N) {j : Nat} (hj : j ≤ l.length) : ∀ (n : Nat) {k : Nat} {τ : St} {S : Fixed} {β : Emb}, Sim c ops l hp0 N σ w0 S0 β0 s ev X k a w τ S β B → k + n = j →
    (∀ i, k ≤ i → i < j → tagAt l i = 0 ∨ (tagAt l i = 2 ∧ X (idxAt l i))) → ∃ τ' S' β', Sim c ops l hp0 N σ w0 S0 β0 s ev X j a w τ' S' β' B
  | 0, k, τ, S, β, h, he, _ => by
    have : k = j := by omega
    subst this; exact ⟨τ, S, β, h⟩
  | n + 1, k, τ, S, β, h, he, hc => by
    obtain ⟨τ1, S1, β1, h1⟩ := h.advance hP T D hN (by omega) (hc k (Nat.le_refl _) (by omega))
    exact Sim.advanceTo hP T D hN hj n h1 (by omega) (fun i hi => hc i (by omega))

/-- In a state of the run all slots that an operation reads are as they are in τ. -/
theorem Sim.reads (T : Tr c call f ops l σ σ' s ev) (D : DrawP c f ops l) (h : Sim c ops l hp0 N σ w0 S0 β0 s ev X k a w τ S β B) (hX : Down ops X) {j : Nat} (hj : j < l.length) {o : Oper} (ho : opAt ops.toList l j = some o)
    (hanc : ∀ i, i < l.length → Anc ops l j i → i ≠ j → X (idxAt l i)) (hnot : ¬ X (idxAt l j)) {q : Nat} (hq : q ≤ l.length) (hbef : ∀ i, i < j → dstAt ops.toList l i ≠ none → Anc ops l j i → i < q ∧ ¬ (k ≤ i ∧ tagAt l i = 2))
    (haft : ∀ i, j < i → i < l.length → (∃ t, dstAt ops.toList l i = some t ∧ t ∈ readsAt ops l j) → q ≤ i) : ∀ t ∈ readsOf ops o, τ.env t = (s q).env t := by
  intro t ht
  have ht' : t ∈ readsAt ops l j := by unfold readsAt; rw [ho]; exact ht
  by_cases hw : ∃ i, i < l.length ∧ dstAt ops.toList l i = some t
  · obtain ⟨i, hi, hd⟩ := hw
    rcases Nat.lt_trichotomy i j with hlt | heq | hgt
    · have hA := D.rd1 i j hlt hj t hd ht'
      obtain ⟨b1, b2⟩ := hbef i hlt (by rw [hd]; simp) hA
      rw [h.hit i hi t hd (hanc i hi hA (by omega)) b2, T.hit D hd hq b1]
    · subst heq; exact (D.own i hj t hd ht').elim
    · have hA := (D.rd2 j i hgt hi t hd ht').1
      have hnx : ¬ X (idxAt l i) := fun hx => hnot (hA X hX hx)
      have hqi := haft i hgt hi ⟨t, hd, ht'⟩
      rw [h.miss t (fun i' hi' hd' => by
        have : i' = i := by
          rcases Nat.lt_trichotomy i' i with h1 | h1 | h1
          · exact (D.dst i' i h1 hi t hd' hd).elim
          · exact h1
          · exact (D.dst i i' h1 hi' t hd hd').elim
        subst this; exact hnx)]
      rw [T.miss D hq (fun i' hi' hd' => by
        have : i' = i := by
          rcases Nat.lt_trichotomy i' i with h1 | h1 | h1
          · exact (D.dst i' i h1 hi t hd' hd).elim
          · exact h1
          · exact (D.dst i i' h1 (by omega) t hd hd').elim
        omega)]
  · rw [h.miss t (fun i hi hd => (hw ⟨i, hi, hd⟩).elim), T.miss D hq (fun i hi hd => hw ⟨i, by omega, hd⟩)]
end
end Go.AE

/- AE: whatever order is drawn: the whole region. -/
namespace Go.AE

section
variable {c : Cfg} {call : CallF} {f : FuncId} {ops : Array Oper} {l : Ord} {σ σ' : St} {hp0 : Hp} {N : Nat} {s : Nat → St} {ev : Nat → Eff}
variable {a : Act} {w w0 : World} {S S0 : Fixed} {β β0 : Emb} {X : Nat → Prop} {k : Nat} {τ : St} {B : Nat → Nat}

theorem DrawP.one (D : DrawP c f ops l) {i j : Nat} (hi : i < l.length) (hj : j < l.length) (h : idxAt l i = idxAt l j) : i = j := by
  rcases Nat.lt_trichotomy i j with h1 | h1 | h1
  · exact (D.inj i j h1 hj h).elim
  · exact h1
  · exact (D.inj j i h1 hi h.symm).elim

theorem DrawP.oneDst (D : DrawP c f ops l) {i j t : Nat} (hi : i < l.length) (hj : j < l.length) (h1 : dstAt ops.toList l i = some t) (h2 : dstAt ops.toList l j = some t) : i = j := by
  rcases Nat.lt_trichotomy i j with h | h | h
  · exact (D.dst i j h hj t h1 h2).elim
  · exact h
  · exact (D.dst j i h hi t h2 h1).elim

theorem put_other {a : Act} {dst : Option Nat} {u : Value} {t : Nat} (h : dst ≠ some t) : (a.put dst u).tmps.getD t undef = a.tmps.getD t undef := by
  cases dst with
  | none => rfl
  | some d => exact put_tmps_other (fun e => h (by rw [e]))

/-- Behind an operation that is not put off. -/
theorem Sim.behind (D : DrawP c f ops l) (h : Sim c ops l hp0 N σ w0 S0 β0 s ev X k a w τ S β B) {j : Nat} (hj : j < l.length) {o : Oper} (ho : opAt ops.toList l j = some o) (htag : tagAt l j ≠ 2) {e : Eff} (hv : ∀ t, o.dst = some t → e.v = (ev j).v)
    {k' : Nat} (hle : k' ≤ l.length) (hbefore : ∀ i, i < k' → tagAt l i ≠ 0 → idxAt l i = idxAt l j ∨ X (idxAt l i)) (hnot : ∀ i, k' ≤ i → i < l.length → tagAt l i = 1 → idxAt l i ≠ idxAt l j ∧ ¬ X (idxAt l i))
    (h1 : (apply τ o.dst e).loc = (s k').loc) (h2 : (apply τ o.dst e).fz = (s k').fz) (h3 : (apply τ o.dst e).hp = (s k').hp) (hk1 : k ≤ k') (hk2 : ∀ i, k ≤ i → i < l.length → tagAt l i = 2 → k' ≤ i)
    {u : Value} {w' : World} {S' : Fixed} {β' : Emb} (hinv : Inv c hp0 N (apply τ o.dst e) (a.put o.dst u) w' S' β') (hfr : Fr τ w S β (apply τ o.dst e) w' S' β') :
    Sim c ops l hp0 N σ w0 S0 β0 s ev (fun x => x = idxAt l j ∨ X x) k' (a.put o.dst u) w' (apply τ o.dst e) S' β' B := by
  have hdj := dstAt_op ho
  have old : ∀ {i : Nat}, i < l.length → i ≠ j → (idxAt l i = idxAt l j ∨ X (idxAt l i)) → X (idxAt l i) := by
    intro i hi hne hx
    rcases hx with hx | hx
    · exact (hne (D.one hi hj hx)).elim
    · exact hx
  have nd : ∀ {i t : Nat}, i < l.length → i ≠ j → dstAt ops.toList l i = some t → o.dst ≠ some t := by
    intro i t hi hne hd he
    exact hne (D.oneDst hi hj hd (by rw [hdj]; exact he))
  refine ⟨hle, hbefore, fun i hi hil ht hx => ?_, hinv, h.fr.trans hfr, h1, h2, h3, ?_, ?_, ?_, ?_⟩
  · obtain ⟨n1, n2⟩ := hnot i hi hil ht
    exact hx.elim n1 n2
  · intro i hi t hd hx hn
    rw [apply_env]
    by_cases he : i = j
    · subst he
      rw [hdj] at hd
      rw [if_pos hd]; exact hv t hd
    · rw [if_neg (nd hi he hd)]
      refine h.hit i hi t hd (old hi he hx) fun hh => hn ⟨hk2 i hh.1 hi hh.2, hh.2⟩
  · intro t hm
    rw [apply_env, if_neg]
    · exact h.miss t fun i hi hd hx => hm i hi hd (.inr hx)
    · intro he
      exact hm j hj (by rw [hdj]; exact he) (.inl rfl)
  · intro i hi hki ht hx o' ho'
    have hne : i ≠ j := fun e => htag (by rw [← e]; exact ht)
    refine (h.pend i hi (by omega) ht (old hi hne hx) o' ho').keep hfr ?_
    have hisp := D.isp i hi ht o' ho'
    obtain ⟨_, _, ⟨t, hdt⟩, _⟩ := isP_reads (ops := ops) hisp
    rw [hdt]
    exact put_other (nd hi hne (by rw [dstAt_op ho']; exact hdt))
  · intro i i' hi hi' hki hki' ht ht' hx hx' hne
    have n1 : i ≠ j := fun e => htag (by rw [← e]; exact ht)
    have n2 : i' ≠ j := fun e => htag (by rw [← e]; exact ht')
    exact h.inj i i' hi hi' (by omega) (by omega) ht ht' (old hi n1 hx) (old hi' n2 hx') hne

theorem Tr.stillTo (T : Tr c call f ops l σ σ' s ev) (D : DrawP c f ops l) {k : Nat} : ∀ (n : Nat), k + n ≤ l.length → (∀ i, k ≤ i → i < k + n → tagAt l i = 0) → (s (k + n)).loc = (s k).loc ∧ (s (k + n)).fz = (s k).fz ∧ (s (k + n)).hp = (s k).hp
  | 0, _, _ => ⟨rfl, rfl, rfl⟩
  | n + 1, hle, h => by
    obtain ⟨h1, h2, h3⟩ := T.stillTo D n (by omega) (fun i hi hi' => h i hi (by omega))
    obtain ⟨k1, k2, k3⟩ := T.still D (k := k + n) (by omega) (h (k + n) (by omega) (by omega))
    exact ⟨k1.trans h1, k2.trans h2, k3.trans h3⟩

theorem last_two {i j : Nat} (hij : i < j) (hi : tagAt l i = 2) (hle : ∀ n, i ≤ n → n < j → tagAt l n = 0 ∨ tagAt l n = 2) : lastAt l j = 2 := by
  have key : ∀ n, i < n → n ≤ j → lastAt l n = 2 := by
    intro n
    induction n with
    | zero => intro h; omega
    | succ n ih =>
      intro h1 h2
      have e : lastAt l (n + 1) = if tagAt l n = 0 then lastAt l n else tagAt l n := rfl
      rw [e]
      by_cases hn : i = n
      · subst hn; rw [hi]; rfl
      · rcases hle n (by omega) (by omega) with h0 | h0
        · rw [if_pos h0]; exact ih (by omega) (by omega)
        · rw [h0]; rfl
  exact key j hij (Nat.le_refl _)

theorem quiet_apply {e : Eff} (h : e.quiet = true) {dst : Option Nat} : (apply τ dst e).loc = τ.loc ∧ (apply τ dst e).fz = τ.fz ∧ (apply τ dst e).hp = τ.hp := by
  obtain ⟨h1, h2, h3⟩ := quiet_ok h
  simp [apply, h1, h2, h3, setMany]

theorem sim_ops (hP : WFP c.P) (hC : CallOK c.P call) (T : Tr c call f ops l σ σ' s ev) (D : DrawP c f ops l) (hN : ∀ o ∈ ops.toList, ∀ t, o.dst = some t → t < N) {Q : Exit → Act → World → Prop}
    (hn : ∀ a' w' S' β', Inv c hp0 N σ' a' w' S' β' → Fr σ w0 S0 β0 σ' w' S' β' → Q .normal a' w') : ∀ (lst : List Nat) {X : Nat → Prop} {k : Nat} {a : Act} {w : World} {τ : St} {S : Fixed} {β : Emb} {B : Nat → Nat}, Lin ops X lst → Down ops X →
    Sim c ops l hp0 N σ w0 S0 β0 s ev X k a w τ S β B → (k = 0 ∨ tagAt l (k - 1) = 1) → wpOps c.P ops Q lst a w
  | [], X, k, a, w, τ, S, β, B, hL, _, h, _ => by
    cases hL with
    | nil hall =>
    have hX : ∀ j, j < l.length → X (idxAt l j) := fun j hj => by
      obtain ⟨o, ho, _⟩ := D.op j hj
      exact hall _ (Array.getElem?_eq_some_iff.1 ho).1
    obtain ⟨τ', S', β', h'⟩ := h.advanceTo hP T D hN (Nat.le_refl _) (l.length - k) (by have := h.le; omega) (fun i hi hil => by
      have h2 := D.tag i hil
      have h1 : tagAt l i ≠ 1 := fun e => h.notyet i hi hil e (hX i hil)
      by_cases h0 : tagAt l i = 0
      · exact .inl h0
      · exact .inr ⟨by omega, hX i hil⟩)
    have he : τ' = σ' := by
      refine St.ext' ?_ ?_ ?_ ?_
      · funext t
        rw [← T.stop]
        by_cases hw : ∃ i, i < l.length ∧ dstAt ops.toList l i = some t
        · obtain ⟨i, hi, hd⟩ := hw
          rw [h'.hit i hi t hd (hX i hi) (fun hh => by omega), T.hit D hd (Nat.le_refl _) hi]
        · rw [h'.miss t (fun i hi hd => (hw ⟨i, hi, hd⟩).elim), T.miss D (Nat.le_refl _) (fun i hi hd => hw ⟨i, hi, hd⟩)]
      · rw [h'.loc, T.stop]
      · rw [h'.fz, T.stop]
      · rw [h'.hp, T.stop]
    subst he
    exact hn a w S' β' h'.inv h'.fr
  | i :: lst, X, k, a, w, τ, S, β, B, hL, hX, h, hb => by
    cases hL with
    | @cons _ _ o _ hoi hnx hed hL =>
    have hX' : Down ops (fun x => x = i ∨ X x) := by
      intro x o' hx ho' e he hbd
      rcases hx with rfl | hx
      · rw [hoi] at ho'; cases ho'
        exact .inr (hed e he hbd)
      · exact .inr (hX x o' hx ho' e he hbd)
    obtain ⟨j, hj, rfl⟩ := D.cover i (Array.getElem?_eq_some_iff.1 hoi).1
    obtain ⟨o', ho1, ho⟩ := D.op j hj
    rw [hoi] at ho1; cases ho1
    have hdst : ∀ t, o.dst = some t → t < N := fun t ht => hN o (List.mem_of_getElem? (show ops.toList[idxAt l j]? = some o by rw [Array.getElem?_toList]; exact hoi)) t ht
    have hanc : ∀ i, i < l.length → Anc ops l j i → i ≠ j → X (idxAt l i) := fun i hi hA hne => (hA _ hX' (.inl rfl)).elim (fun e => (hne (D.one hi hj e)).elim) id
    have ancX : ∀ {b : Nat}, X (idxAt l b) → ¬ Anc ops l b j := fun hb hA => hnx (hA X hX hb)
    simp only [wpOps, hoi]
    by_cases h0 : tagAt l j = 0
    · -- it writes its slot alone
      have step : ∀ e, stepEff c call f ops o τ = some e → e.quiet = true → (∀ t, o.dst = some t → e.v = (ev j).v) →
          if Region.wanted o (yielded ops a.tmps) then o.wp c.P a w (wpOps c.P ops Q lst) Q ∨ (o.asks c.P a w ∧ LetsOut Q) else wpOps c.P ops Q lst (a.put o.dst undef) w := by
        intro e he hq hv
        refine stepOp_ok2 hP hC h.inv hdst he fun u w' S' β' k1 k2 => ?_
        obtain ⟨q1, q2, q3⟩ := quiet_apply (τ := τ) hq (dst := o.dst)
        refine sim_ops hP hC T D hN hn lst hL hX' (h.behind D hj ho (by omega) hv h.le (fun i hi ht => .inr (h.before i hi ht)) (fun i hi hil ht => ⟨fun e => ?_, h.notyet i hi hil ht⟩) (q1.trans h.loc) (q2.trans h.fz) (q3.trans h.hp) (Nat.le_refl _) (fun i hi _ _ => hi) k1 k2) hb
        have := D.one hil hj e
        subst this; omega
      by_cases hjk : k ≤ j
      · have hq0 : ∀ i, k ≤ i → i < j → tagAt l i = 0 := by
          have h12 : ∀ i, k ≤ i → i < j → tagAt l i ≠ 1 := fun i hi hij e =>
            h.notyet i hi (by omega) e (hanc i (by omega) (D.bar i j hij hj (by omega) (by omega)) (by omega))
          intro i hi hij
          have h2 := D.tag i (by omega)
          have h1 := h12 i hi hij
          by_cases ht2 : tagAt l i = 2
          · exfalso
            refine D.late j hj h0 (last_two hij ht2 fun n hn hnj => ?_)
            have g1 := D.tag n (by omega)
            have g2 := h12 n (by omega) hnj
            omega
          · omega
        obtain ⟨s1, s2, s3⟩ := T.stillTo D (k := k) (j - k) (by omega) (fun i hi hi' => hq0 i hi (by omega))
        rw [show k + (j - k) = j by omega] at s1 s2 s3
        have hr := h.reads T D hX hj ho hanc hnx (q := j) (by omega) (fun i hij _ _ => ⟨hij, fun hh => by have := hq0 i hh.1 hij; omega⟩) (fun i hij _ _ => by omega)
        have he := Sim.eff (c := c) (call := call) (f := f) (h.loc.trans s1.symm) (h.fz.trans s2.symm) (h.hp.trans s3.symm) hr
        rw [(T.step j hj o ho).1] at he
        exact step _ he (T.quiet j hj h0) (fun _ _ => rfl)
      · have hk0 : k ≠ 0 := by omega
        have hbt : tagAt l (k - 1) = 1 := hb.resolve_left hk0
        have hkl := h.le
        have hbX : X (idxAt l (k - 1)) := h.before (k - 1) (by omega) (by omega)
        have hjb : j < k - 1 := by
          rcases Nat.lt_or_ge j (k - 1) with h1 | h1
          · exact h1
          · have : j = k - 1 := by omega
            rw [this] at h0; omega
        have hrec := (D.ask j (k - 1) hjb (by omega) hbt h0).resolve_left (ancX hbX)
        obtain ⟨o2, e, g1, g2, g3, g4⟩ := T.again (k - 1) (by omega) _ hrec
        rw [hoi] at g1; cases g1
        rw [show k - 1 + 1 = k by omega] at g2 g4
        have hr := h.reads T D hX hj ho hanc hnx (q := k) h.le (fun i hij _ _ => ⟨by omega, fun hh => by omega⟩) (fun i hij hil ⟨t, ht, hm⟩ => by
          obtain ⟨r1, r2⟩ := D.rd2 j i hij hil t ht hm
          rcases Nat.lt_or_ge i k with hik | hik
          · exfalso
            by_cases hib : i = k - 1
            · subst hib; exact ancX hbX r1
            · exact ancX hbX (r2 (k - 1) (by omega) (by omega) hbt)
          · exact hik)
        have he := Sim.eff (c := c) (call := call) (f := f) h.loc h.fz h.hp hr
        rw [g2] at he
        refine step e he g3 fun t ht => ?_
        rw [g4 t ht]
        exact T.hit D (by rw [dstAt_op ho]; exact ht) h.le (by omega)
    · have hjk : k ≤ j := by
        rcases Nat.lt_or_ge j k with h1 | h1
        · exact (hnx (h.before j h1 h0)).elim
        · exact h1
      by_cases h1 : tagAt l j = 1
      · obtain ⟨τ', S1, β1, h'⟩ := h.advanceTo hP T D hN (j := j) (by omega) (j - k) (by omega) (fun i hi hij => by
          have h2 := D.tag i (by omega)
          by_cases hi0 : tagAt l i = 0
          · exact .inl hi0
          · have hx := hanc i (by omega) (D.bar i j hij hj (by omega) hi0) (by omega)
            have hn1 : tagAt l i ≠ 1 := fun e => h.notyet i hi (by omega) e hx
            exact .inr ⟨by omega, hx⟩)
        have hr := h'.reads T D hX hj ho hanc hnx (q := j) (by omega) (fun i hij _ _ => ⟨hij, fun hh => by omega⟩) (fun i hij _ _ => by omega)
        have he := Sim.eff (c := c) (call := call) (f := f) h'.loc h'.fz h'.hp hr
        obtain ⟨t1, t2⟩ := T.step j hj o ho
        rw [t1] at he
        refine stepOp_ok2 hP hC h'.inv hdst he fun u w' S' β' k1 k2 => ?_
        refine sim_ops hP hC T D hN hn lst hL hX' (h'.behind D hj ho (by omega) (fun _ _ => rfl) (k' := j + 1) (by omega) ?_ ?_ ?_ ?_ ?_ (by omega) ?_ k1 k2) (.inr (by simpa using h1))
        · intro i hi ht
          by_cases hij : i = j
          · subst hij; exact .inl rfl
          · exact .inr (h'.before i (by omega) ht)
        · intro i hi hil ht
          exact ⟨fun e => by have := D.one hil hj e; omega, h'.notyet i (by omega) hil ht⟩
        · rw [t2]; simp only [apply, h'.loc]
        · rw [t2]; simp only [apply, h'.fz]
        · rw [t2]; simp only [apply, h'.hp]
        · intro i hi hil ht
          have : i ≠ j := fun e => by subst e; omega
          omega
      · -- it is put off
        have h2 : tagAt l j = 2 := by have := D.tag j hj; omega
        have hisp := D.isp j hj h2 o ho
        obtain ⟨_, hg, ⟨t, ht⟩, _⟩ := isP_reads (ops := ops) hisp
        have hop := isP_eff hisp (T.step j hj o ho).1
        obtain ⟨u, obj, r1, r2⟩ := P_run (a := a) (w := w) hisp hop
        have hw : Region.wanted o (yielded ops a.tmps) = true := by simp [Region.wanted, hg]
        rw [if_pos hw]
        left
        simp only [Oper.wp, r1, Oper.upon_value]
        obtain ⟨x1, x2⟩ := h.inv.sr.extra obj
        have htN : t < a.tmps.size := by rw [h.inv.n]; exact hdst t ht
        have hdO : DstOk a o.dst := fun t' ht' => by rw [h.inv.n]; exact hdst t' ht'
        have x3 := x1.value hdO (v := .d .undef) (u := u) (by simp [AV.lt, AV.lt1, Go.AE.D.lt]) (by simp only [RA, RA1, RV])
        have hfr3 : Fr τ w S β { τ with env := envOf τ o.dst (.d .undef) } (w.alloc obj) S β := ⟨x2.size, x2.keep, x2.newS, x2.frame, x2.next, x2.sameH, x2.own, x2.os, x2.tape, x2.output⟩
        have hdj : dstAt ops.toList l j = some t := by rw [dstAt_op ho]; exact ht
        have henv : ∀ t', envOf τ o.dst (.d .undef) t' = if t' = t then .d .undef else τ.env t' := by
          intro t'
          rw [ht]
          simp only [envOf]
          by_cases he : t' = t
          · subst he; rw [upd_same, if_pos rfl]
          · rw [upd_other _ _ he, if_neg he]
        have old : ∀ {i : Nat}, i < l.length → i ≠ j → (idxAt l i = idxAt l j ∨ X (idxAt l i)) → X (idxAt l i) := by
          intro i hi hne hx
          rcases hx with hx | hx
          · exact (hne (D.one hi hj hx)).elim
          · exact hx
        refine sim_ops hP hC T D hN hn lst (B := fun i => if i = j then w.heap.size else B i) (τ := { τ with env := envOf τ o.dst (.d .undef) }) (k := k) hL hX' ⟨h.le, fun i hi ht => .inr (h.before i hi ht), ?_, ⟨x3, h.inv.hp, by rw [put_size]; exact h.inv.n⟩, h.fr.trans hfr3, h.loc, h.fz, h.hp, ?_, ?_, ?_, ?_⟩ hb
        · intro i hi hil ht1 hx
          have hne : i ≠ j := fun e => by subst e; omega
          exact h.notyet i hi hil ht1 (old hil hne hx)
        · intro i hi t' hd hx hnn
          have hne : i ≠ j := fun e => hnn ⟨by omega, by rw [e]; exact h2⟩
          show envOf τ o.dst (.d .undef) t' = _
          rw [henv, if_neg (fun e => hne (D.oneDst hi hj (by rw [← e]; exact hd) hdj))]
          exact h.hit i hi t' hd (old hi hne hx) hnn
        · intro t' hm
          show envOf τ o.dst (.d .undef) t' = _
          rw [henv, if_neg (fun e => hm j hj (by rw [e]; exact hdj) (.inl rfl))]
          exact h.miss t' fun i hi hd hx => hm i hi hd (.inr hx)
        · intro i hi hki hti hx o2 ho2
          by_cases he : i = j
          · subst he
            rw [ho] at ho2; cases ho2
            simp only [if_pos]
            refine ⟨?_, h.fr.size, fun hb => ?_, fun off hb => ?_, ?_⟩
            · show w.heap.size < (w.heap.push obj).size
              simp
            · have hb' : Owned τ β w.heap.size := by
                obtain ⟨r, ox, g1, g2, g3⟩ := hb
                exact ⟨r, ox, by cases r <;> exact g1, g2, g3⟩
              have := owned_lt h.inv.sr hb'; omega
            · have := h.inv.sr.inw _ _ hb; omega
            · have : (a.put o.dst u).tmps.getD (o.dst.getD 0) undef = u := by rw [ht]; exact put_tmps_same htN
              rw [this]; exact r2
          · simp only [if_neg he]
            refine (h.pend i hi hki hti (old hi he hx) o2 ho2).keep hfr3 ?_
            have hisp2 := D.isp i hi hti o2 ho2
            obtain ⟨_, _, ⟨t2, hdt2⟩, _⟩ := isP_reads (ops := ops) hisp2
            rw [hdt2]
            refine put_other fun e => he (D.oneDst hi hj (by rw [dstAt_op ho2]; exact hdt2) ?_)
            rw [dstAt_op ho]; exact e
        · intro i i' hi hi' hki hki' hti hti' hx hx' hne
          by_cases e1 : i = j
          · subst e1
            rw [if_pos rfl, if_neg (Ne.symm hne)]
            have hx2 := old hi' (Ne.symm hne) hx'
            obtain ⟨o2, _, ho2⟩ := D.op i' hi'
            have := (h.pend i' hi' hki' hti' hx2 o2 ho2).lt
            omega
          · by_cases e2 : i' = j
            · subst e2
              rw [if_neg e1, if_pos rfl]
              have hx2 := old hi e1 hx
              obtain ⟨o2, _, ho2⟩ := D.op i hi
              have := (h.pend i hi hki hti hx2 o2 ho2).lt
              omega
            · rw [if_neg e1, if_neg e2]
              exact h.inj i i' hi hi' hki hki' hti hti' (old hi e1 hx) (old hi' e2 hx') hne

/-- A region whose order is drawn. -/
theorem drawOK (hP : WFP c.P) (hC : CallOK c.P call) (hm : c.P.follows .mixedOrders = true) : DrawOK c call f hp0 N (drawOk c f) := by
  intro id ops hok hN σ σ' a w S β Q h hr hne hn
  have hchk : drawCheck c f ops (c.order f id) = true := by
    unfold drawOk at hok
    split at hok
    · rename_i he; exact (hne he).elim
    · exact hok
  have D := drawP_of hchk
  obtain ⟨s, ev, T⟩ := runD_ok hr
  refine wp_region_draw fun t => ?_
  have hs : Region.schedule (c.P.follows .mixedOrders) ops t = Region.linearise .any ops t := by simp [Region.schedule, hm]
  rw [hs]
  have hd : SR c.P σ a w.drew S β := h.sr.drew
  have hfd : Fr σ w S β σ w.drew S β := Fr.drew
  refine sim_ops (σ := σ) (w0 := w) (S0 := S) (β0 := β) (k := 0) (τ := σ) (S := S) (β := β) (B := fun _ => 0) hP hC T D hN (fun a' w' S' β' k1 k2 => hn a' w' S' β' k1 k2) _ (linearise_ok D.edge t) (fun _ _ hx => hx.elim) ⟨Nat.zero_le _, fun j hj => by omega, fun _ _ _ _ hx => hx, ⟨hd, h.hp, h.n⟩, hfd, by rw [T.start], by rw [T.start], by rw [T.start], fun _ _ _ _ hx => hx.elim, fun _ _ => rfl, fun _ _ _ _ hx => hx.elim, fun _ _ _ _ _ _ _ _ hx => hx.elim⟩ (.inl rfl)
end
end Go.AE

/- AE: what is asked of a program's types and functions, as questions that the kernel answers. -/
namespace Go.AE
noncomputable section

def undB (P : Program) (t : TypeId) : Bool := (P.underlying t).isSome

def typeOkB (P : Program) (t : TypeId) : Bool :=
  (match P.underlying t with
    | some (.struct fs) => fs.toList.all fun f => undB P f.type
    | some (.array _ e) => undB P e
    | some (.slice e) => undB P e
    | some (.map k e) => undB P k && undB P e
    | _ => true) &&
  (match P.info? t with
    | some i => (match i.zero with
      | some (.agg cs) => Nat.beq cs.toList.length i.size && isAggT P t
      | some v => Nat.beq v.cells.toList.length i.size && !isAggT P t
      | none => true)
    | none => true)

def wfpB (P : Program) : Bool := (List.range P.types.size).all (typeOkB P)

theorem wfp_of {P : Program} (h : wfpB P = true) : WFP P := by
  have all : ∀ t, t < P.types.size → typeOkB P t = true := fun t ht => List.all_eq_true.1 h t (List.mem_range.2 ht)
  refine ⟨?_, ?_, ?_, ?_, ?_⟩
  · intro t fs k f hlt hu hf
    have := all t hlt
    unfold typeOkB at this
    rw [hu] at this
    simp only [Bool.and_eq_true] at this
    exact List.all_eq_true.1 this.1 f (by
      have := Array.mem_of_getElem? hf
      simpa using this)
  · intro t n e hlt hu
    have := all t hlt
    unfold typeOkB at this
    rw [hu] at this
    simp only [Bool.and_eq_true] at this
    exact this.1
  · intro t e hlt hu
    have := all t hlt
    unfold typeOkB at this
    rw [hu] at this
    simp only [Bool.and_eq_true] at this
    exact this.1
  · intro t k e hlt hu
    have := all t hlt
    unfold typeOkB at this
    rw [hu] at this
    simp only [Bool.and_eq_true] at this
    exact this.1
  · intro t i v hlt hi hz
    have := all t hlt
    unfold typeOkB at this
    simp only [Bool.and_eq_true] at this
    have h2 := this.2
    rw [hi] at h2
    simp only [hz] at h2
    cases v with
    | agg cs =>
      simp only [Bool.and_eq_true, beq_iff] at h2
      exact ⟨by simpa [Value.cells] using h2.1, fun _ => ⟨cs, rfl⟩, fun _ => h2.2⟩
    | _ =>
      simp only [Bool.and_eq_true, beq_iff, Bool.not_eq_true'] at h2
      refine ⟨by simpa using h2.1, fun ha => ?_, fun ⟨cs, hc⟩ => ?_⟩
      · rw [ha] at h2; simp at h2
      · simp at hc

def fnOkB (c : Cfg) (f : FuncId) : Bool :=
  match c.P.funcs[f]? with
  | some fn => match fn.body with
    | some b => codeOk (drawOk c f) fn.ntmps b && !(decide (fn.name = "runtime.NumGoroutine"))
    | none => true
  | none => true

theorem wff_of {c : Cfg} (h : ∀ f, f < c.P.funcs.size → fnOkB c f = true) : WFF c (drawOk c) := by
  have key : ∀ (f : FuncId) (fn : Func) (b : Code), c.P.funcs[f]? = some fn → fn.body = some b → codeOk (drawOk c f) fn.ntmps b = true ∧ fn.name ≠ "runtime.NumGoroutine" := by
    intro f fn b hf hb
    have := h f (Array.getElem?_eq_some_iff.1 hf).1
    unfold fnOkB at this
    rw [hf] at this
    simp only [hb, Bool.and_eq_true, Bool.not_eq_true', decide_eq_false_iff_not] at this
    exact this
  exact ⟨fun f fn b h1 h2 => (key f fn b h1 h2).1, fun f fn b h1 h2 => (key f fn b h1 h2).2⟩

/-- Calls of any depth: what the interpreter says, the machine does. -/
theorem sound {c : Cfg} (hm : c.P.follows .mixedOrders = true) (hP : WFP c.P) (hF : WFF c (drawOk c)) (hprim : PrimOK c) (loops n : Nat) : CallOK c.P (run c loops n) :=
  run_ok hP hF hprim (fun _ hC f hp0 N => drawOK (f := f) (hp0 := hp0) (N := N) hP hC hm) loops n
end
end Go.AE

/- AE: calls whose answer is known already: tables. -/
namespace Go.AE
noncomputable section

/-- A call that asks nothing of the heap: its function, its arguments, what comes back. -/
structure Ent where
  f : Nat
  args : List D
  r : D

def look (args : List D) : List Ent → Option D := List.rec none fun e _ ih => cond (D.sames e.args args) (some e.r) ih
def pick (f : Nat) : List Ent → List Ent := List.rec [] fun e _ ih => cond (Nat.beq e.f f) (e :: ih) ih

def memo (T : List Ent) (call : CallF) : CallF := fun f args hp => match look args (pick f T) with
  | some r => some ⟨r, { hp with ch := none, es := none }⟩
  | none => call f args hp

/-- Calls of any depth, with a table. -/
def runM (c : Cfg) (T : List Ent) (loops : Nat) (n : Nat) : CallF := Nat.rec (fun _ _ _ => none) (fun _ ih => memo T (enter c loops ih)) n

def h0 : Hp := ⟨[], none, none⟩

def sameR : D → D → Bool
  | .own t xs, .own u ys => Nat.beq t u && D.sames xs ys
  | a, b => D.same a b

/-- Is an entry what the interpreter says? -/
def entB (c : Cfg) (T : List Ent) (loops n : Nat) (e : Ent) : Bool :=
  D.flatDs e.args && (match enter c loops (runM c T loops n) e.f e.args h0 with
    | some R => sameR R.r e.r && R.hp.objs.isEmpty
    | none => false)
def entsB (c : Cfg) (T : List Ent) (loops n : Nat) (l : List Ent) : Bool := l.all (entB c T loops n)

section
variable {P : Program} {c : Cfg} {call : CallF} {w : World} {S : Fixed} {β : Emb} {hp : Hp}

/-- A call that asks nothing of the heap is the same over every heap. -/
theorem lift_ok (hC : CallOK P call) {f : FuncId} {args : List D} {r : D} {hp' : Hp} (hr : call f args h0 = some ⟨r, hp'⟩) (he : hp'.objs = []) (hfl : D.flatDs args = true) (hHR : HR P hp w S β) {vs : Array Value} (ha : RVs w S β args vs.toList) :
    CallsBack P f vs w (Back P hp w S β ⟨r, { hp with ch := none, es := none }⟩) := by
  have no0 : ∀ i, getH h0 i = none := by intro i; simp [getH, h0, nth_nil]
  have hHR0 : HR P h0 w S β := hHR.1.toHeap (fun i o ho => by rw [no0] at ho; simp at ho) (fun i o ho => by rw [no0] at ho; simp at ho)
  have hcb := hC f args h0 _ hr w S β vs hHR0 ha (D.flats_lts args hfl)
  have hlen0 : hp'.objs.length = 0 := by rw [he]; rfl
  have noOwn : ∀ b, ¬ Owned (base h0) β b := by
    intro b hb
    obtain ⟨i, o, h1, _⟩ := owned_base hb
    have : (getH h0 i).map (·.o) = some o := h1
    rw [no0] at this; simp at this
  have key : ∀ v w', Back P h0 w S β ⟨r, hp'⟩ v w' → Back P hp w S β ⟨r, { hp with ch := none, es := none }⟩ v w' := by
    rintro v w' ⟨hrel0, S', β', k1, k2, k3⟩
    clear hrel0
    have k2 : Fr (base h0) w S β (base hp') w' S' β' := k2
    have same0 : SameH 0 β' β := fun i hi => by omega
    have sr : SR P (base hp) act0 w' S' β := by
      refine hHR.1.change k2.keep k1.1.inw (Nat.le_refl _) (fun _ => Nat.le_refl _) (SameH.refl _ _) (SameL.refl _ _) (fun _ => False) ?_ (fun _ _ _ hN => hN.elim) (fun _ _ _ _ _ _ _ hN => hN.elim) (fun t => .inl ⟨rfl, rfl⟩) hHR.1.bound hHR.1.defers
      intro x o hx _
      refine ⟨hx, rfl, fun m => ?_⟩
      have hlt := mem_lt hHR.1 hx m
      refine ⟨fun y hy => by rw [k2.frame _ hlt (noOwn _)]; exact hy, fun off => ⟨fun hb => ?_, fun hb => (k2.keep _ _ hb).1⟩⟩
      rcases k2.newS _ _ hb with h1 | h1 | h1
      · exact h1
      · exact (noOwn _ h1).elim
      · omega
    have hHR' : HR P hp w' S' β := ⟨sr, hHR.2⟩
    refine ⟨HpRel.clean hHR.2, S', β, HR.objs (hp := hp) (hp' := { hp with ch := none, es := none }) rfl hHR', Fr.objs (hp := hp) rfl ⟨k2.size, k2.keep, fun b off hb => ?_, fun b hb _ => k2.frame b hb (noOwn b), Nat.le_refl _, SameH.refl _ _, fun b hb => .inl hb, k2.os, k2.tape, k2.output⟩, ?_⟩
    · rcases k2.newS b off hb with h1 | h1 | h1
      · exact .inl h1
      · exact (noOwn _ h1).elim
      · exact .inr (.inr h1)
    · revert k3
      show RR P h0 w β hp' w' S' β' r v → RR P hp w β { hp with ch := none, es := none } w' S' β r v
      unfold RR
      split
      · rename_i T xs
        rintro ⟨b, cap, esz, a, hv, hp1, hok, hl, hfree⟩
        rw [hlen0] at hl
        have eA : SameH 0 (β'.add (.l 0 1) b cap esz xs.length) (β.add (.l 0 1) b cap esz xs.length) := fun i hi => by omega
        refine ⟨b, cap, esz, a, hv, hp1, ?_, D.lts.mono (Nat.zero_le _) _ hl, fun hc => ?_⟩
        · by_cases hT : T = 0
          · rw [if_pos hT] at hok ⊢; exact hok
          · rw [if_neg hT] at hok ⊢
            have e1 := add_here β' (.l 0 1) b cap esz xs.length
            have e2 := add_here β (.l 0 1) b cap esz xs.length
            exact ObOk.move (r := .l 0 1) (o := .row T xs) (n := 0) (gs := fun _ => 0) trivial (Keeps.refl w' S') eA hl ⟨e2.1.trans e1.1.symm, e2.2.1.trans e1.2.1.symm, e2.2.2.1.trans e1.2.2.1.symm, e2.2.2.2.trans e1.2.2.2.symm⟩ (fun _ x hx => hx) (fun _ _ => Iff.rfl) hok
        · have hnew : w.heap.size ≤ b := (hfree hc).1.resolve_left (noOwn b)
          refine ⟨.inr hnew, fun hb => ?_⟩
          have hb' : Owned (base hp) β b := by
            obtain ⟨i, o, h1, h2, h3⟩ := owned_base hb
            exact ⟨.h i, o, h1, h2, h3⟩
          have := owned_lt hHR.1 hb'
          omega
      · rintro ⟨h1, h2⟩
        rw [hlen0] at h2
        exact ⟨RV.keep (Keeps.refl w' S') same0 _ _ h2 h1, D.lt.mono (Nat.zero_le _) _ h2⟩
  rcases hcb with ⟨v, w', h1, h2⟩ | ⟨h1, h2⟩
  · exact .inl ⟨v, w', h1, key v w' h2⟩
  · refine .inr ⟨h1, h2.mono fun e w' he => ?_⟩
    cases e with
    | returned v => exact key v w' he
    | panicked _ => exact he
    | outgrown => exact he

/-- An entry is right. -/
def EntOK (P : Program) (e : Ent) : Prop := ∀ hp w S β (vs : Array Value), HR P hp w S β → RVs w S β e.args vs.toList → CallsBack P e.f vs w (Back P hp w S β ⟨e.r, { hp with ch := none, es := none }⟩)

theorem look_mem {args : List D} {r : D} : ∀ {l : List Ent}, look args l = some r → ∃ e ∈ l, e.args = args ∧ e.r = r
  | [], h => by
    have h' : (none : Option D) = some r := h
    simp at h'
  | e :: l, h => by
    have h' : cond (D.sames e.args args) (some e.r) (look args l) = some r := h
    cases hb : D.sames e.args args with
    | true =>
      rw [hb] at h'
      exact ⟨e, by simp, D.sames_ok _ _ hb, by simpa using h'⟩
    | false =>
      rw [hb] at h'
      obtain ⟨e', h1, h2⟩ := look_mem (l := l) h'
      exact ⟨e', by simp [h1], h2⟩

theorem pick_mem {f : Nat} {e : Ent} : ∀ {l : List Ent}, e ∈ pick f l → e ∈ l ∧ e.f = f
  | [], h => by
    have h' : e ∈ ([] : List Ent) := h
    simp at h'
  | x :: l, h => by
    have h' : e ∈ cond (Nat.beq x.f f) (x :: pick f l) (pick f l) := h
    cases hb : Nat.beq x.f f with
    | true =>
      rw [hb] at h'
      simp only [cond_true, List.mem_cons] at h'
      rcases h' with rfl | h'
      · exact ⟨by simp, beq_iff.1 hb⟩
      · obtain ⟨h1, h2⟩ := pick_mem (l := l) h'
        exact ⟨by simp [h1], h2⟩
    | false =>
      rw [hb] at h'
      obtain ⟨h1, h2⟩ := pick_mem (l := l) h'
      exact ⟨by simp [h1], h2⟩

theorem memo_ok {T : List Ent} (hT : ∀ e ∈ T, EntOK P e) (hC : CallOK P call) : CallOK P (memo T call) := by
  intro f args hp R he w S β vs hHR ha hl
  unfold memo at he
  split at he
  · rename_i r hr
    simp only [Option.some.injEq] at he; subst he
    obtain ⟨e, h1, rfl, rfl⟩ := look_mem hr
    obtain ⟨h2, rfl⟩ := pick_mem h1
    exact hT e h2 hp w S β vs hHR ha
  · exact hC f args hp R he w S β vs hHR ha hl

/-- What is asked of the program, all of it. -/
structure Good (c : Cfg) : Prop where
  mixed : c.P.follows .mixedOrders = true
  types : WFP c.P
  funcs : WFF c (drawOk c)
  prims : PrimOK c

theorem Good.enter (g : Good c) {loops : Nat} (hC : CallOK c.P call) : CallOK c.P (enter c loops call) :=
  enter_ok g.types g.funcs g.prims (fun _ hC f hp0 N => drawOK (f := f) (hp0 := hp0) (N := N) g.types hC g.mixed) hC

theorem Good.runM (g : Good c) {T : List Ent} (hT : ∀ e ∈ T, EntOK c.P e) (loops : Nat) : ∀ n, CallOK c.P (runM c T loops n)
  | 0 => fun f args hp R he => by
    have he' : (none : Option Res) = some R := he
    simp at he'
  | n + 1 => memo_ok hT (g.enter (g.runM hT loops n))

theorem sameR_ok {a b : D} (h : sameR a b = true) : a = b := by
  unfold sameR at h
  split at h
  · simp only [Bool.and_eq_true, beq_iff] at h
    rw [h.1, D.sames_ok _ _ h.2]
  · exact D.same_ok _ _ h

theorem Good.ents (g : Good c) {T : List Ent} (hT : ∀ e ∈ T, EntOK c.P e) {loops n : Nat} {l : List Ent} (h : entsB c T loops n l = true) : ∀ e ∈ l, EntOK c.P e := by
  intro e he
  have := List.all_eq_true.1 h e he
  unfold entB at this
  simp only [Bool.and_eq_true] at this
  obtain ⟨hfl, h2⟩ := this
  split at h2
  case h_2 => simp at h2
  rename_i R hR
  simp only [Bool.and_eq_true] at h2
  obtain ⟨h3, h4⟩ := h2
  have hr := sameR_ok h3
  obtain ⟨r, hp'⟩ := R
  simp only at hr; subst hr
  intro hp w S β vs hHR ha
  exact lift_ok (g.enter (g.runM hT loops n)) hR (by simpa using h4) hfl hHR ha

theorem Good.app {T U : List Ent} (hT : ∀ e ∈ T, EntOK P e) (hU : ∀ e ∈ U, EntOK P e) : ∀ e ∈ T ++ U, EntOK P e := fun e he => (List.mem_append.1 he).elim (hT e) (hU e)
end
end
end Go.AE
