/- Part 7 of the proof: OverlayNil returns true at every operation and leaves its argument as it was (the tied card, no condition). -/
import Derived.Test.YtjamfnaepkheeaaGreatDoorB03
import Derived.KernelRfl
import Derived.Test.YtjamfnaepkheeaaGreatDoorB06

/- AE: the interpreter at values that are not known: one lemma an operation. -/
namespace Go.AE
noncomputable section

/-- It comes to something of this sort. -/
def Ok {R : Type} (x : Option R) (Q : R → Prop) : Prop := ∃ r, x = some r ∧ Q r

/-- The operations, then what is behind them. -/
def runK (c : Cfg) (call : CallF) (f : FuncId) (ops : Array Oper) {R : Type} (l : List Oper) (σ : St) (k : K R) : Option R :=
  match runOps c call f ops l σ with
  | some σ' => k .normal σ'
  | none => none

section
variable {c : Cfg} {call : CallF} {f : FuncId} {ops : Array Oper} {R : Type} {σ : St} {k : K R} {Q : R → Prop} {o : Oper} {l : List Oper} {fuel : Nat}
  {env : Nat → AV} {loc : Nat → LOb} {fz : Nat → Bool} {hp : Hp}

theorem ok_nil (h : Ok (k .normal σ) Q) : Ok (runK c call f ops [] σ k) Q := h

theorem runK_cons {e : Eff} (h : stepEff c call f ops o σ = some e) : runK c call f ops (o :: l) σ k = runK c call f ops l (apply σ o.dst e) k := by
  have h1 : runOps c call f ops (o :: l) σ = match stepOp c call f ops o σ with
    | some σ' => runOps c call f ops l σ'
    | none => none := rfl
  have h2 : stepOp c call f ops o σ = some (apply σ o.dst e) := by unfold stepOp; rw [h]
  unfold runK
  rw [h1, h2]

/-- An operation that writes its slot alone. -/
theorem ok_op {t : Nat} {v : AV} (h : stepEff c call f ops o ⟨env, loc, fz, hp⟩ = some { v := v }) (hd : o.dst = some t) (hk : Ok (runK c call f ops l ⟨upd env t v, loc, fz, hp⟩ k) Q) : Ok (runK c call f ops (o :: l) ⟨env, loc, fz, hp⟩ k) Q := by
  rw [runK_cons h, hd]; exact hk

/-- An operation that is not wanted. -/
theorem ok_skip {t : Nat} (h : wants ops env o = some false) (hd : o.dst = some t) (hk : Ok (runK c call f ops l ⟨upd env t (.d (.tup [])), loc, fz, hp⟩ k) Q) : Ok (runK c call f ops (o :: l) ⟨env, loc, fz, hp⟩ k) Q := by
  refine ok_op (v := .d (.tup [])) ?_ hd hk
  unfold stepEff
  rw [show wants ops (St.mk env loc fz hp).env o = some false from h]

/-- Any operation. -/
theorem ok_opW {e : Eff} (h : stepEff c call f ops o σ = some e) (hk : Ok (runK c call f ops l (apply σ o.dst e) k) Q) : Ok (runK c call f ops (o :: l) σ k) Q := by
  rw [runK_cons h]; exact hk

theorem eff_of {e : Eff} (hw : wants ops σ.env o = some true) (h : opStep c call f σ o = some e) : stepEff c call f ops o σ = some e := by
  unfold stepEff
  rw [hw]; exact h

/-- The same, by the state's parts. -/
theorem ok_do {t : Nat} {v : AV} (h : opStep c call f ⟨env, loc, fz, hp⟩ o = some { v := v }) (hw : wants ops env o = some true) (hd : o.dst = some t) (hk : Ok (runK c call f ops l ⟨upd env t v, loc, fz, hp⟩ k) Q) : Ok (runK c call f ops (o :: l) ⟨env, loc, fz, hp⟩ k) Q := ok_op (eff_of hw h) hd hk

theorem ok_gop (h : Ok (runK c call f ops (o :: l) ⟨env, loc, fz, hp⟩ k) Q) : Ok (runK c call f ops (o :: l) ⟨env, loc, fz, hp⟩ k) Q := h
theorem ok_gcond {x : Operand} {a b : Code} (h : Ok (exec c call f fuel (.cond x a b) σ k) Q) : Ok (exec c call f fuel (.cond x a b) σ k) Q := h

theorem wants_none (h : o.guard = none) : wants ops env o = some true := by unfold wants; rw [h]

/-! code -/
def kSeq (b : St → K R → Option R) (k : K R) : K R := fun e σ' => match e with
  | .normal => b σ' k
  | e => k e σ'
def kBlock (id : Nat) (k : K R) : K R := fun e σ' => match e with
  | .exit j => if j = id then k .normal σ' else k (.exit j) σ'
  | e => k e σ'

theorem ok_seq {a b : Code} (h : Ok (exec c call f fuel a σ (kSeq (exec c call f fuel b) k)) Q) : Ok (exec c call f fuel (.seq a b) σ k) Q := h
theorem ok_kseq {b : St → K R → Option R} (h : Ok (b σ k) Q) : Ok (kSeq b k .normal σ) Q := h
theorem ok_kseq_ret {b : St → K R → Option R} (h : Ok (k .ret σ) Q) : Ok (kSeq b k .ret σ) Q := h
theorem ok_kseq_exit {b : St → K R → Option R} {j : Nat} (h : Ok (k (.exit j) σ) Q) : Ok (kSeq b k (.exit j) σ) Q := h
theorem ok_kblock {id : Nat} (h : Ok (k .normal σ) Q) : Ok (kBlock id k .normal σ) Q := h
theorem ok_kblock_ret {id : Nat} (h : Ok (k .ret σ) Q) : Ok (kBlock id k .ret σ) Q := h
theorem ok_kblock_here {id : Nat} (h : Ok (k .normal σ) Q) : Ok (kBlock id k (.exit id) σ) Q := by
  show Ok (if id = id then _ else _) Q
  rw [if_pos rfl]; exact h
theorem ok_kblock_other {id j : Nat} (hj : Nat.beq j id = false) (h : Ok (k (.exit j) σ) Q) : Ok (kBlock id k (.exit j) σ) Q := by
  show Ok (if j = id then _ else _) Q
  rw [if_neg (fun e => by subst e; simp at hj)]; exact h
theorem ok_region {id : Nat} (h : Ok (runK c call f ops ops.toList σ k) Q) : Ok (exec c call f fuel (.region id ops false) σ k) Q := h
theorem ok_cond_t {x : Operand} {a b : Code} (hx : opd σ.env x = some (.d (.bool true))) (h : Ok (exec c call f fuel a σ k) Q) : Ok (exec c call f fuel (.cond x a b) σ k) Q := by
  show Ok (exCond x _ _ σ k) Q
  unfold exCond
  rw [hx]; exact h
theorem ok_cond_f {x : Operand} {a b : Code} (hx : opd σ.env x = some (.d (.bool false))) (h : Ok (exec c call f fuel b σ k) Q) : Ok (exec c call f fuel (.cond x a b) σ k) Q := by
  show Ok (exCond x _ _ σ k) Q
  unfold exCond
  rw [hx]; exact h
theorem ok_block {id : Nat} {b : Code} (h : Ok (exec c call f fuel b σ (kBlock id k)) Q) : Ok (exec c call f fuel (.block id b) σ k) Q := h
theorem ok_skipc (h : Ok (k .normal σ) Q) : Ok (exec c call f fuel .skip σ k) Q := h
theorem ok_exit {id : Nat} (h : Ok (k (.exit id) σ) Q) : Ok (exec c call f fuel (.exit id) σ k) Q := h
theorem ok_ret (h : Ok (k .ret σ) Q) : Ok (exec c call f fuel .ret σ k) Q := h

/-- A drawn region: its operations in the order of the hint. -/
def runDK (c : Cfg) (call : CallF) (f : FuncId) (ops : Array Oper) {R : Type} (l : List (Nat × Nat × List Nat)) (σ : St) (k : K R) : Option R :=
  match runD c call f ops l σ with
  | some σ' => k .normal σ'
  | none => none
theorem ok_regionD {id : Nat} {p : Nat × Nat × List Nat} {l : List (Nat × Nat × List Nat)} (ho : c.order f id = p :: l) (h : Ok (runDK c call f ops (p :: l) σ k) Q) : Ok (exec c call f fuel (.region id ops true) σ k) Q := by
  show Ok (exRegion c call f id ops true σ k) Q
  unfold exRegion
  rw [if_pos rfl, ho]; exact h
theorem ok_dnil (h : Ok (k .normal σ) Q) : Ok (runDK c call f ops [] σ k) Q := h
theorem ok_dop {m i : Nat} {l : List (Nat × Nat × List Nat)} {e : Eff} (hi : nth ops.toList i = some o) (h : stepEff c call f ops o σ = some e) (hq : (Nat.beq m 0 && !e.quiet) = false) (hk : Ok (runDK c call f ops l (apply σ o.dst e) k) Q) : Ok (runDK c call f ops ((m, i, []) :: l) σ k) Q := by
  have h1 : runD c call f ops ((m, i, []) :: l) σ = match stepD c call f ops (m, i, []) σ with
    | some σ' => runD c call f ops l σ'
    | none => none := rfl
  have h2 : stepD c call f ops (m, i, []) σ = some (apply σ o.dst e) := by
    unfold stepD
    simp only [hi, h, hq, again, Bool.not_true, Bool.or_self, Bool.false_eq_true, if_false]
  unfold runDK
  rw [h1, h2]; exact hk
theorem ok_ddo {m i t : Nat} {l : List (Nat × Nat × List Nat)} {v : AV} (hi : nth ops.toList i = some o) (h : opStep c call f ⟨env, loc, fz, hp⟩ o = some { v := v }) (hw : wants ops env o = some true) (hd : o.dst = some t) (hk : Ok (runDK c call f ops l ⟨upd env t v, loc, fz, hp⟩ k) Q) : Ok (runDK c call f ops ((m, i, []) :: l) ⟨env, loc, fz, hp⟩ k) Q := by
  refine ok_dop hi (eff_of hw h) (by cases m <;> rfl) ?_
  rw [hd]; exact hk

/-- A loop: its head by the state avs it is there. -/
theorem ok_loop {b : Code} (h : Ok (iter (renew (c.lives f (firstRegion b)) (c.keys f (firstRegion b))) (exec c call f fuel b) fuel σ k) Q) : Ok (exec c call f fuel (.loop b) σ k) Q := h

theorem iter_ok {head : St → St} {body : St → (Ex → St → Option R) → Option R} (H : Nat → St → Prop) {n : Nat} (step : ∀ i, i ≤ n → ∀ σ, H i σ → ∀ k' : K R, (i < n → ∀ σ', H (i + 1) (head σ') → Ok (k' .normal σ') Q) → (∀ e σ', e ≠ .normal → Ok (k e σ') Q → Ok (k' e σ') Q) → Ok (body σ k') Q) :
    ∀ (m i : Nat), i ≤ n → n - i = m → ∀ fuel, m < fuel → ∀ σ, H i (head σ) → Ok (iter head body fuel σ k) Q := by
  intro m
  induction m with
  | zero =>
    intro i hi hm fuel hf σ hσ
    obtain ⟨fuel, rfl⟩ : ∃ x, fuel = x + 1 := ⟨fuel - 1, by omega⟩
    show Ok (body (head σ) _) Q
    refine step i hi _ hσ _ (fun h => by omega) (fun e σ' he => ?_)
    intro hq; cases e <;> first | exact absurd rfl he | exact hq
  | succ m ih =>
    intro i hi hm fuel hf σ hσ
    obtain ⟨fuel, rfl⟩ : ∃ x, fuel = x + 1 := ⟨fuel - 1, by omega⟩
    show Ok (body (head σ) _) Q
    refine step i hi _ hσ _ (fun h σ' hs => ih (i + 1) (by omega) (by omega) fuel (by omega) σ' hs) (fun e σ' he => ?_)
    intro hq; cases e <;> first | exact absurd rfl he | exact hq

/-- From nought to n. -/
theorem loop_ok {b : Code} {ts ks : List Nat} (H : Nat → St → Prop) {n : Nat} (hts : c.lives f (firstRegion b) = ts) (hks : c.keys f (firstRegion b) = ks) (hn : n < fuel) (h0 : H 0 (renew ts ks σ))
    (step : ∀ i, i ≤ n → ∀ σ, H i σ → ∀ k' : K R, (i < n → ∀ σ', H (i + 1) (renew ts ks σ') → Ok (k' .normal σ') Q) → (∀ e σ', e ≠ .normal → Ok (k e σ') Q → Ok (k' e σ') Q) → Ok (exec c call f fuel b σ k') Q) :
    Ok (exec c call f fuel (.loop b) σ k) Q := by
  subst hts; subst hks
  exact ok_loop (iter_ok H step n 0 (Nat.zero_le _) rfl fuel hn σ h0)

/-- A function's text. -/
theorem enter_of {fn : Func} {b : Code} {args : List D} {Q : Res → Prop} (hp : c.prim f = false) (hf : c.P.funcs[f]? = some fn) (hb : fn.body = some b) (h : Ok (exec c call f fuel b ⟨argEnv args, fun _ => ⟨0, none⟩, fun _ => true, h0⟩ (finish c f h0 fn.results.toList)) Q) : Ok (enter c fuel call f args h0) Q := by
  obtain ⟨r, h1, h2⟩ := h
  refine ⟨r, ?_, h2⟩
  unfold enter
  simp only [hp, Bool.false_eq_true, if_false, hf, hb]
  exact h1

/-- What is handed back: one value that leads nowhere. -/
theorem fin_ok {t : Nat} {b : Bool} {e : Ex} {Q : Res → Prop} (he : e = .normal ∨ e = .ret) (hv : env t = .d (.bool b)) (hQ : Q ⟨.bool b, h0⟩) : Ok (finish c f h0 [.tmp t] e ⟨env, loc, fz, h0⟩) Q := by
  refine ⟨_, ?_, hQ⟩
  have : finish c f h0 [.tmp t] e ⟨env, loc, fz, h0⟩ = (match results c ⟨env, loc, fz, h0⟩ [.tmp t] with
    | some vs => match handBack c f ⟨env, loc, fz, h0⟩ vs with
      | some r => some (leave c f h0 h0 r)
      | none => none
    | none => none) := by rcases he with rfl | rfl <;> rfl
  rw [this]
  simp only [results, result1, hv, handBack]
  cases c.ownRet f <;> rfl
theorem fin_int {t : Nat} {n : Int} {j : IntKind} {e : Ex} {Q : Res → Prop} (he : e = .normal ∨ e = .ret) (hv : env t = .d (.int j n)) (hQ : Q ⟨.int j n, h0⟩) : Ok (finish c f h0 [.tmp t] e ⟨env, loc, fz, h0⟩) Q := by
  refine ⟨_, ?_, hQ⟩
  have : finish c f h0 [.tmp t] e ⟨env, loc, fz, h0⟩ = (match results c ⟨env, loc, fz, h0⟩ [.tmp t] with
    | some vs => match handBack c f ⟨env, loc, fz, h0⟩ vs with
      | some r => some (leave c f h0 h0 r)
      | none => none
    | none => none) := by rcases he with rfl | rfl <;> rfl
  rw [this]
  simp only [results, result1, hv, handBack]
  cases c.ownRet f <;> rfl

/-! operations -/
theorem op_move {x : Operand} {v : AV} (ho : o.op = .move x ∨ o.op = .assign x) (ha : accOf c f o = none) (hz : isFrz c f o = false) (hx : opd env x = some v) : opStep c call f ⟨env, loc, fz, hp⟩ o = some { v := v } := by
  have : opMove c f ⟨env, loc, fz, hp⟩ o x = some { v := v } := by
    unfold opMove
    rw [show opd (St.mk env loc fz hp).env x = some v from hx]
    simp only [ha, hz, Bool.false_eq_true, if_false]
  rcases ho with ho | ho <;> (unfold opStep; rw [ho]; exact this)

theorem op_len {cl : Call} {xs : List D} {a : Operand} {E : TypeId} (ho : o.op = .call cl) (hc : cl.callee = .builtin .len) (ha : cl.args.toList = [a]) (hx : opd env a = some (.d (.list xs))) (hE : elemAt c.P cl.argTypes = some E) : opStep c call f ⟨env, loc, fz, hp⟩ o = some { v := .d (.int .i64 xs.length) } := by
  unfold opStep
  rw [ho]
  simp only [opCall, ha, opds, hx, hc, builtinOp, lenOp, hE, lenS, Option.map_some]

theorem op_lenS {cl : Call} {s : ByteArray} {a : Operand} (ho : o.op = .call cl) (hc : cl.callee = .builtin .len) (ha : cl.args.toList = [a]) (hx : opd env a = some (.d (.str s))) (hE : (cl.argTypes[0]?).isSome = true ∧ isStrT c.P (typeAt cl.argTypes) = true) : opStep c call f ⟨env, loc, fz, hp⟩ o = some { v := .d (.int .i64 s.size) } := by
  unfold opStep
  rw [ho]
  simp only [opCall, ha, opds, hx, hc, builtinOp, lenOp]
  rw [if_pos hE]

theorem op_bin {op : BinOp} {t : TypeId} {x y : Operand} {a b r : D} {T : TypeId} (ho : o.op = .binOp op t x y T) (hx : opd env x = some (.d a)) (hy : opd env y = some (.d b))
    (h : binop c ⟨env, loc, fz, hp⟩ op t x y (.d a) (.d b) = some (.d r)) : opStep c call f ⟨env, loc, fz, hp⟩ o = some { v := .d r } := by
  unfold opStep
  rw [ho]
  simp only [opBin, hx, hy, h, pureEff, Option.map_some]

theorem bin_lss {σ : St} {t : TypeId} {x y : Operand} {a b : Int} : binop c σ .lss t x y (.d (.int .i64 a)) (.d (.int .i64 b)) = some (.d (.bool (decide (a < b)))) := rfl
theorem bin_leq {σ : St} {t : TypeId} {x y : Operand} {a b : Int} : binop c σ .leq t x y (.d (.int .i64 a)) (.d (.int .i64 b)) = some (.d (.bool (decide (a ≤ b)))) := rfl
theorem bin_gtr {σ : St} {t : TypeId} {x y : Operand} {a b : Int} : binop c σ .gtr t x y (.d (.int .i64 a)) (.d (.int .i64 b)) = some (.d (.bool (decide (b < a)))) := rfl
theorem bin_geq {σ : St} {t : TypeId} {x y : Operand} {a b : Int} : binop c σ .geq t x y (.d (.int .i64 a)) (.d (.int .i64 b)) = some (.d (.bool (decide (b ≤ a)))) := rfl
theorem bin_eql {σ : St} {t : TypeId} {x y : Operand} {a b : Int} : binop c σ .eql t x y (.d (.int .i64 a)) (.d (.int .i64 b)) = some (.d (.bool (a == b))) := rfl
theorem bin_add {σ : St} {t : TypeId} {x y : Operand} {a b : Int} : binop c σ .add t x y (.d (.int .i64 a)) (.d (.int .i64 b)) = some (.d (.int .i64 (IntKind.i64.wrap (a + b)))) := rfl

theorem op_not {x : Operand} {t : TypeId} {b : Bool} (ho : o.op = .unOp .not t x) (hx : opd env x = some (.d (.bool b))) : opStep c call f ⟨env, loc, fz, hp⟩ o = some { v := .d (.bool !b) } := by
  unfold opStep
  rw [ho]
  show opUn c _ _ _ = _
  unfold opUn
  rw [show opd (St.mk env loc fz hp).env x = _ from hx]
  rfl

theorem op_pick {x a b : Operand} {t : Bool} {v : AV} (ho : o.op = .pick x a b) (hx : opd env x = some (.d (.bool t))) (hv : opd env (if t then a else b) = some v) : opStep c call f ⟨env, loc, fz, hp⟩ o = some { v := v } := by
  unfold opStep
  rw [ho]
  simp only [opPick, hx, hv, pureEff, Option.map_some]

theorem op_index {T E : TypeId} {x ix : Operand} {ys : List D} {y : D} {i : Nat} {j : IntKind} (ho : o.op = .indexAddr T x ix) (hx : opd env x = some (.d (.list ys))) (hi : opd env ix = some (.d (.int j (i : Int)))) (ha : arrT c.P T = none) (hE : elemT c.P T = some E)
    (hy : ys[i]? = some y) (h1 : y.oneB = true ∧ y.cells.length = sizeT c.P E) : opStep c call f ⟨env, loc, fz, hp⟩ o = some { v := .d (.ipt y.cells) } := by
  unfold opStep
  rw [ho]
  show opIndexAddr c _ _ _ _ = _
  unfold opIndexAddr
  rw [show opd (St.mk env loc fz hp).env x = _ from hx, show opd (St.mk env loc fz hp).env ix = _ from hi]
  simp only [Option.bind_some, natOf, Int.natCast_nonneg, if_true, Int.toNat_natCast, indexOp, ha, hE, hy, h1, and_self, pureEff, Option.map_some]

theorem op_call {cl : Call} {g : FuncId} {avs : List AV} {ds : List D} {r : D} (ho : o.op = .call cl) (hc : cl.callee = .value (.func g)) (ha : opds env cl.args.toList = some avs) (hb : c.byref g = false) (hr : resolves (c.raw g) loc avs = some (ds, []))
    (hcall : call g ds hp = some ⟨r, hp⟩) (hh : hp = h0) (hown : ∀ T xs, r ≠ .own T xs) : opStep c call f ⟨env, loc, fz, hp⟩ o = some { v := .d r, hw := some h0 } := by
  subst hh
  unfold opStep
  rw [ho]
  simp only [opCall, ha, hc, opd, callOp, hb, Bool.false_eq_true, if_false, hr, List.nil_append, List.append_nil, hcall, joinHp]
  cases r <;> first | rfl | exact (hown _ _ rfl).elim

theorem op_callF {cl : Call} {g : FuncId} {avs : List AV} {ds : List D} {fw : List (Nat × Bool)} {r : D} (ho : o.op = .call cl) (hc : cl.callee = .value (.func g)) (ha : opds env cl.args.toList = some avs) (hb : c.byref g = false) (hr : resolves (c.raw g) loc avs = some (ds, fw))
    (hcall : call g ds h0 = some ⟨r, h0⟩) (hown : ∀ T xs, r ≠ .own T xs) : opStep c call f ⟨env, loc, fz, h0⟩ o = some { v := .d r, fw := fw, hw := some h0 } := by
  unfold opStep
  rw [ho]
  simp only [opCall, ha, hc, opd, callOp, hb, Bool.false_eq_true, if_false, hr, List.nil_append, List.append_nil, hcall, joinHp]
  cases r <;> first | rfl | exact (hown _ _ rfl).elim

theorem op_min2 {cl : Call} {x y : Operand} {a b : Int} {j j' : IntKind} (ho : o.op = .call cl) (hc : cl.callee = .builtin .min) (ha : cl.args.toList = [x, y]) (hx : opd env x = some (.d (.int j a))) (hy : opd env y = some (.d (.int j' b))) : opStep c call f ⟨env, loc, fz, hp⟩ o = some { v := .d (.int j (if b < a then b else a)) } := by
  unfold opStep
  rw [ho]
  simp only [opCall, ha, opds, hx, hy, hc, builtinOp]
theorem op_max2 {cl : Call} {x y : Operand} {a b : Int} {j j' : IntKind} (ho : o.op = .call cl) (hc : cl.callee = .builtin .max) (ha : cl.args.toList = [x, y]) (hx : opd env x = some (.d (.int j a))) (hy : opd env y = some (.d (.int j' b))) : opStep c call f ⟨env, loc, fz, hp⟩ o = some { v := .d (.int j (if b > a then b else a)) } := by
  unfold opStep
  rw [ho]
  simp only [opCall, ha, opds, hx, hy, hc, builtinOp]

theorem op_bslice {T E : TypeId} {n t g : Nat} {ps : Array (Nat × Operand)} {vs : List (Nat × AV)} {ds : List (Nat × D)} {fw : List (Nat × Bool)} {z : D} {xs : List D} (ho : o.op = .buildSlice T n ps) (hE : elemT c.P T = some E) (hv : parts env ps.toList = some vs) (hps : partsD loc vs = some (ds, fw)) (hz : zeroEl c.P E = some z)
    (hfill : fillE (sizeT c.P E) (List.replicate n z) ds = some xs) (hn : Nat.ble (n * sizeT c.P E) 16777216 = true) (hrow : rowT c.P E = true) (hz0 : isFrz c f o = false) (hh : isHeap c f o = false) (hd : o.dst = some t) (hg : (loc t).g + 1 = g) :
    opStep c call f ⟨env, loc, fz, hp⟩ o = some { v := .lsf t g, lw := [(t, ⟨g, some (.row E xs)⟩)], fw := fw ++ [(t, false)] } := by
  unfold opStep
  rw [ho]
  show opBuildSlice c f _ o _ _ _ = _
  unfold opBuildSlice
  simp only [hE, hv, Option.bind_some, hps, hz, hfill]
  rw [if_pos (Nat.le_of_ble_eq_true hn)]
  simp only [newRowZ, hz0, newRow, hrow, if_true, hh, Bool.false_eq_true, if_false, hd, Option.getD_some, hg]

/-- A call: the heap stays empty. -/
theorem ok_cmp {op : BinOp} {t s : TypeId} {x y : Operand} {a b : D} {d : Nat} {r : Bool} (ho : o.op = .binOp op t x y s) (hw : wants ops env o = some true) (hx : opd env x = some (.d a)) (hy : opd env y = some (.d b)) (hd : o.dst = some d)
    (h : binop c ⟨env, loc, fz, hp⟩ op t x y (.d a) (.d b) = some (.d (.bool r))) (h1 : r = true → Ok (runK c call f ops l ⟨upd env d (.d (.bool true)), loc, fz, hp⟩ k) Q) (h2 : r = false → Ok (runK c call f ops l ⟨upd env d (.d (.bool false)), loc, fz, hp⟩ k) Q) :
    Ok (runK c call f ops (o :: l) ⟨env, loc, fz, hp⟩ k) Q := by
  refine ok_do (op_bin ho hx hy h) hw hd ?_
  cases r with
  | true => exact h1 rfl
  | false => exact h2 rfl

theorem op_fieldI {T : TypeId} {x : Operand} {n m : Nat} {cs : List D} {fl : Field} (ho : o.op = .fieldAddr T x n) (hx : opd env x = some (.d (.ipt cs))) (hf : field? c.P T n = some fl) (hs : Nat.beq (sizeT c.P fl.type) 0 = false) (hm : fl.offset = m) : opStep c call f ⟨env, loc, fz, hp⟩ o = some { v := .d (.ipt (cs.drop m)) } := by
  unfold opStep
  rw [ho]
  show opFieldAddr c _ _ _ _ = _
  unfold opFieldAddr
  rw [show opd (St.mk env loc fz hp).env x = _ from hx, hf]
  simp only
  rw [if_neg (fun e => by rw [e] at hs; simp at hs), hm]
  rfl

theorem op_loadI {T : TypeId} {x : Operand} {cs : List D} {d : D} (ho : o.op = .load T x) (hx : opd env x = some (.d (.ipt cs))) (hu : (c.P.underlying T).isSome = true) (ha : isAggT c.P T = false) (hd : cs.head? = some d) : opStep c call f ⟨env, loc, fz, hp⟩ o = some { v := .d d } := by
  unfold opStep
  rw [ho]
  show opLoad c _ _ _ = _
  unfold opLoad
  rw [show opd (St.mk env loc fz hp).env x = _ from hx]
  simp only [load, hu, if_true, loadAt, ptrOf, elOf, ha, valD, Bool.false_eq_true, if_false, hd, Option.map_some, pureEff]

theorem op_loadIA {T : TypeId} {x : Operand} {cs ds : List D} {n : Nat} (ho : o.op = .load T x) (hx : opd env x = some (.d (.ipt cs))) (hu : (c.P.underlying T).isSome = true) (ha : isAggT c.P T = true) (hn : sizeT c.P T = n) (hl : Nat.ble n cs.length = true) (hd : cs.take n = ds) : opStep c call f ⟨env, loc, fz, hp⟩ o = some { v := .d (.agg ds) } := by
  unfold opStep
  rw [ho]
  show opLoad c _ _ _ = _
  unfold opLoad
  rw [show opd (St.mk env loc fz hp).env x = _ from hx]
  simp only [load, hu, if_true, loadAt, ptrOf, elOf, ha, valD, hn, Nat.le_of_ble_eq_true hl, hd, Option.map_some, pureEff]

theorem op_indexI {T E : TypeId} {x ix : Operand} {cs : List D} {i n m z : Nat} {j : IntKind} (ho : o.op = .indexAddr T x ix) (hx : opd env x = some (.d (.ipt cs))) (hi : opd env ix = some (.d (.int j (i : Int)))) (ha : arrT c.P T = some (n, E)) (hn : Nat.blt i n = true) (hz : sizeT c.P E = z) (hm : i * z = m) : opStep c call f ⟨env, loc, fz, hp⟩ o = some { v := .d (.ipt (cs.drop m)) } := by
  unfold opStep
  rw [ho]
  show opIndexAddr c _ _ _ _ = _
  unfold opIndexAddr
  rw [show opd (St.mk env loc fz hp).env x = _ from hx, show opd (St.mk env loc fz hp).env ix = _ from hi]
  have hn' : i < n := by simpa using hn
  simp only [Option.bind_some, natOf, Int.natCast_nonneg, if_true, Int.toNat_natCast, indexOp, ha, hn', ptrOf, elOf, hz, hm, pureEff, Option.map_some]

/-- What leads to a local variable. -/
theorem op_fieldL {T : TypeId} {x : Operand} {n m i g off : Nat} {fl : Field} (ho : o.op = .fieldAddr T x n) (hx : opd env x = some (.lp i g off)) (hf : field? c.P T n = some fl) (hs : Nat.beq (sizeT c.P fl.type) 0 = false) (hm : off + fl.offset = m) : opStep c call f ⟨env, loc, fz, hp⟩ o = some { v := .lp i g m } := by
  unfold opStep
  rw [ho]
  show opFieldAddr c _ _ _ _ = _
  unfold opFieldAddr
  rw [show opd (St.mk env loc fz hp).env x = _ from hx, hf]
  simp only
  rw [if_neg (fun e => by rw [e] at hs; simp at hs), ← hm]
  rfl

theorem op_indexL {T E : TypeId} {x ix : Operand} {p g off : Nat} {i n m z : Nat} {j : IntKind} (ho : o.op = .indexAddr T x ix) (hx : opd env x = some (.lp p g off)) (hi : opd env ix = some (.d (.int j (i : Int)))) (ha : arrT c.P T = some (n, E)) (hn : Nat.blt i n = true) (hz : sizeT c.P E = z) (hm : off + i * z = m) : opStep c call f ⟨env, loc, fz, hp⟩ o = some { v := .lp p g m } := by
  unfold opStep
  rw [ho]
  show opIndexAddr c _ _ _ _ = _
  unfold opIndexAddr
  rw [show opd (St.mk env loc fz hp).env x = _ from hx, show opd (St.mk env loc fz hp).env ix = _ from hi]
  have hn' : i < n := by simpa using hn
  simp only [Option.bind_some, natOf, Int.natCast_nonneg, if_true, Int.toNat_natCast, indexOp, ha, hn', ptrOf, mkPtr, hz, hm, pureEff, Option.map_some]

theorem op_loadL {T U : TypeId} {x : Operand} {i g off : Nat} {cs : List AV} {v : AV} (ho : o.op = .load T x) (hx : opd env x = some (.lp i g off)) (hb : getL loc i g = some (.box U cs)) (hu : (c.P.underlying T).isSome = true) (ha : isAggT c.P T = false) (hd : (cs.drop off).head? = some v) : opStep c call f ⟨env, loc, fz, hp⟩ o = some { v := v } := by
  unfold opStep
  rw [ho]
  show opLoad c _ _ _ = _
  unfold opLoad
  rw [show opd (St.mk env loc fz hp).env x = _ from hx]
  simp only [load, hu, if_true, loadAt, ptrOf, Go.AE.get, hb, ha, valA, Bool.false_eq_true, if_false, hd, pureEff, Option.map_some]

theorem op_loadLA {T U : TypeId} {x : Operand} {i g off n : Nat} {cs : List AV} {v : AV} (ho : o.op = .load T x) (hx : opd env x = some (.lp i g off)) (hb : getL loc i g = some (.box U cs)) (hu : (c.P.underlying T).isSome = true) (ha : isAggT c.P T = true) (hn : sizeT c.P T = n) (hl : Nat.ble n (cs.drop off).length = true) (hd : mkAgg ((cs.drop off).take n) = v) : opStep c call f ⟨env, loc, fz, hp⟩ o = some { v := v } := by
  unfold opStep
  rw [ho]
  show opLoad c _ _ _ = _
  unfold opLoad
  rw [show opd (St.mk env loc fz hp).env x = _ from hx]
  simp only [load, hu, if_true, loadAt, ptrOf, Go.AE.get, hb, ha, valA, hn, Nat.le_of_ble_eq_true hl, hd, pureEff, Option.map_some]

/-- A parameter gets a place of its own. -/
theorem ok_box {T : TypeId} {x : Operand} {t g : Nat} {v : AV} {cs : List AV} (ho : o.op = .box T x) (hw : wants ops env o = some true) (hx : opd env x = some v) (h1 : v.oneB = true) (hc : v.cells = cs) (hh : isHeap c f o = false) (hd : o.dst = some t) (hg : (loc t).g + 1 = g)
    (hk : Ok (runK c call f ops l ⟨upd env t (.lp t g 0), upd loc t ⟨g, some (.box T cs)⟩, upd fz t false, hp⟩ k) Q) : Ok (runK c call f ops (o :: l) ⟨env, loc, fz, hp⟩ k) Q := by
  have : opStep c call f ⟨env, loc, fz, hp⟩ o = some { v := .lp t g 0, lw := [(t, ⟨g, some (.box T cs)⟩)], fw := [(t, false)] } := by
    unfold opStep
    rw [ho]
    show opBox c f _ o _ _ = _
    unfold opBox
    rw [show opd (St.mk env loc fz hp).env x = _ from hx]
    simp only [h1, if_true, hh, newBox, Bool.false_eq_true, if_false, hd, Option.getD_some, hg, hc]
  refine ok_opW (eff_of hw this) ?_
  rw [hd]; exact hk

/-- A new variable, at a place of its own. -/
theorem ok_alloc {T : TypeId} {t g : Nat} {cs : List D} (ho : o.op = .alloc T) (hw : wants ops env o = some true) (hz : zeroCells c.P T = some cs) (ha : accOf c f o = none) (hh : isHeap c f o = false) (hd : o.dst = some t) (hg : (loc t).g + 1 = g)
    (hk : Ok (runK c call f ops l ⟨upd env t (.lp t g 0), upd loc t ⟨g, some (.box T (cs.map .d))⟩, upd fz t false, hp⟩ k) Q) : Ok (runK c call f ops (o :: l) ⟨env, loc, fz, hp⟩ k) Q := by
  have : opStep c call f ⟨env, loc, fz, hp⟩ o = some { v := .lp t g 0, lw := [(t, ⟨g, some (.box T (cs.map .d))⟩)], fw := [(t, false)] } := by
    unfold opStep
    rw [ho]
    show opAlloc c f _ o _ = _
    unfold opAlloc
    simp only [hz, ha, hh, newBox, Bool.false_eq_true, if_false, hd, Option.getD_some, hg]
  refine ok_opW (eff_of hw this) ?_
  rw [hd]; exact hk

/-- A variable with a place of its own is written. -/
theorem ok_storeL {T U : TypeId} {a x : Operand} {i g off n : Nat} {v : AV} {cs cs' : List AV} (ho : o.op = .store T a x) (hw : wants ops env o = some true) (ha : opd env a = some (.lp i g off)) (hx : opd env x = some v) (hb : getL loc i g = some (.box U cs)) (hn : sizeT c.P T = n) (h1 : v.oneB = true) (h2 : Nat.beq v.cells.length n = true) (h0 : Nat.blt 0 n = true)
    (h3 : Nat.ble (off + v.cells.length) cs.length = true) (hcs : splice cs off v.cells = cs') (hd : o.dst = none) (hk : Ok (runK c call f ops l ⟨env, upd loc i ⟨g, some (.box U cs')⟩, fz, hp⟩ k) Q) : Ok (runK c call f ops (o :: l) ⟨env, loc, fz, hp⟩ k) Q := by
  have h2 := Nat.eq_of_beq_eq_true h2
  have h0 : 0 < n := (show 1 ≤ n from Nat.le_of_ble_eq_true h0)
  have h3 := Nat.le_of_ble_eq_true h3
  have : opStep c call f ⟨env, loc, fz, hp⟩ o = some { v := .d .undef, lw := [(i, ⟨g, some (.box U cs')⟩)] } := by
    unfold opStep
    rw [ho]
    show opStore c _ T a x = _
    unfold opStore
    rw [show opd (St.mk env loc fz hp).env a = _ from ha, show opd (St.mk env loc fz hp).env x = _ from hx]
    show store c _ T _ v = _
    unfold store
    rw [if_pos (by rw [hn]; exact h0)]
    unfold storeAt
    simp only [ptrOf]
    rw [show get (St.mk env loc fz hp) (.l i g) = _ from hb]
    simp only
    rw [if_pos ⟨h1, by rw [h2, hn], h3⟩, hcs]
  refine ok_opW (eff_of hw this) ?_
  rw [hd]; exact hk

/-- A variable with a place of its own is written, all of it. -/
theorem ok_storeW {T U : TypeId} {a x : Operand} {i g n : Nat} {v : AV} {cs cs' : List AV} (ho : o.op = .store T a x) (hw : wants ops env o = some true) (ha : opd env a = some (.lp i g 0)) (hx : opd env x = some v) (hb : getL loc i g = some (.box U cs)) (hn : sizeT c.P T = n) (h1 : v.oneB = true) (hcs : v.cells = cs') (h2 : Nat.beq cs'.length n = true) (h0 : Nat.blt 0 n = true)
    (h3 : Nat.beq n cs.length = true) (hd : o.dst = none) (hk : Ok (runK c call f ops l ⟨env, upd loc i ⟨g, some (.box U cs')⟩, fz, hp⟩ k) Q) : Ok (runK c call f ops (o :: l) ⟨env, loc, fz, hp⟩ k) Q := by
  subst hcs
  have e2 := Nat.eq_of_beq_eq_true h2
  have e3 := Nat.eq_of_beq_eq_true h3
  refine ok_storeL ho hw ha hx hb hn h1 h2 h0 ?_ ?_ hd hk
  · rw [Nat.zero_add, e2, e3]; exact Nat.ble_self_eq_true _
  · simp only [splice, List.take_zero, List.nil_append, Nat.zero_add]
    rw [List.drop_eq_nil_of_le (by omega), List.append_nil]

theorem ok_call {cl : Call} {g t : Nat} {avs : List AV} {ds : List D} {r : D} (hw : wants ops env o = some true) (ho : o.op = .call cl) (hd : o.dst = some t) (hc : cl.callee = .value (.func g)) (ha : opds env cl.args.toList = some avs) (hb : c.byref g = false) (hr : resolves (c.raw g) loc avs = some (ds, []))
    (hcall : call g ds h0 = some ⟨r, h0⟩) (hown : ∀ T xs, r ≠ .own T xs) (hk : Ok (runK c call f ops l ⟨upd env t (.d r), loc, fz, h0⟩ k) Q) : Ok (runK c call f ops (o :: l) ⟨env, loc, fz, h0⟩ k) Q := by
  refine ok_opW (eff_of hw (op_call ho hc ha hb hr hcall rfl hown)) ?_
  rw [hd]; exact hk
end
end
end Go.AE

/- BrokerNil: small facts on the types, by the kernel. -/
namespace Go.Proofs.AeT
open Go Go.AE Go.Proofs
theorem f65_0 : field? cfg.P 65 0 = some { name := "Kind", type := 3, offset := 0, embedded := false, tag := "", pkgPath := "", byteOffset := 0 } := by kernel_rfl
theorem f65_1 : field? cfg.P 65 1 = some { name := "Client", type := 3, offset := 1, embedded := false, tag := "", pkgPath := "", byteOffset := 8 } := by kernel_rfl
theorem f65_2 : field? cfg.P 65 2 = some { name := "Sub", type := 3, offset := 2, embedded := false, tag := "", pkgPath := "", byteOffset := 16 } := by kernel_rfl
theorem f65_3 : field? cfg.P 65 3 = some { name := "From", type := 3, offset := 3, embedded := false, tag := "", pkgPath := "", byteOffset := 24 } := by kernel_rfl
theorem f65_4 : field? cfg.P 65 4 = some { name := "X", type := 59, offset := 4, embedded := false, tag := "", pkgPath := "", byteOffset := 32 } := by kernel_rfl
theorem f65_5 : field? cfg.P 65 5 = some { name := "E", type := 27, offset := 11, embedded := false, tag := "", pkgPath := "", byteOffset := 136 } := by kernel_rfl
theorem f65_6 : field? cfg.P 65 6 = some { name := "F", type := 63, offset := 23, embedded := false, tag := "", pkgPath := "", byteOffset := 264 } := by kernel_rfl
theorem f59_2 : field? cfg.P 59 2 = some { name := "Set", type := 56, offset := 2, embedded := false, tag := "", pkgPath := "", byteOffset := 16 } := by kernel_rfl
theorem f59_3 : field? cfg.P 59 3 = some { name := "Sub", type := 57, offset := 6, embedded := false, tag := "", pkgPath := "", byteOffset := 80 } := by kernel_rfl
theorem f56_1 : field? cfg.P 56 1 = some { name := "Ints", type := 53, offset := 1, embedded := false, tag := "", pkgPath := "", byteOffset := 8 } := by kernel_rfl
theorem f56_3 : field? cfg.P 56 3 = some { name := "Strs", type := 54, offset := 3, embedded := false, tag := "", pkgPath := "", byteOffset := 40 } := by kernel_rfl
theorem f63_1 : field? cfg.P 63 1 = some { name := "D", type := 36, offset := 1, embedded := false, tag := "", pkgPath := "", byteOffset := 8 } := by kernel_rfl
theorem f63_2 : field? cfg.P 63 2 = some { name := "P", type := 61, offset := 3, embedded := false, tag := "", pkgPath := "", byteOffset := 56 } := by kernel_rfl
theorem f36_0 : field? cfg.P 36 0 = some { name := "Adds", type := 32, offset := 0, embedded := false, tag := "", pkgPath := "", byteOffset := 0 } := by kernel_rfl
theorem f36_1 : field? cfg.P 36 1 = some { name := "Removes", type := 33, offset := 1, embedded := false, tag := "", pkgPath := "", byteOffset := 24 } := by kernel_rfl
theorem f49_1 : field? cfg.P 49 1 = some { name := "F", type := 47, offset := 1, embedded := false, tag := "", pkgPath := "", byteOffset := 8 } := by kernel_rfl
theorem f61_2 : field? cfg.P 61 2 = some { name := "E", type := 27, offset := 2, embedded := false, tag := "", pkgPath := "", byteOffset := 16 } := by kernel_rfl
theorem f25_2 : field? cfg.P 25 2 = some { name := "S", type := 9, offset := 2, embedded := false, tag := "", pkgPath := "", byteOffset := 16 } := by kernel_rfl
theorem f82_0 : field? cfg.P 82 0 = some { name := "Kind", type := 3, offset := 0, embedded := false, tag := "", pkgPath := "", byteOffset := 0 } := by kernel_rfl
theorem f82_1 : field? cfg.P 82 1 = some { name := "Client", type := 3, offset := 1, embedded := false, tag := "", pkgPath := "", byteOffset := 8 } := by kernel_rfl
theorem f82_2 : field? cfg.P 82 2 = some { name := "Sub", type := 3, offset := 2, embedded := false, tag := "", pkgPath := "", byteOffset := 16 } := by kernel_rfl
theorem f82_3 : field? cfg.P 82 3 = some { name := "From", type := 3, offset := 3, embedded := false, tag := "", pkgPath := "", byteOffset := 24 } := by kernel_rfl
theorem f82_4 : field? cfg.P 82 4 = some { name := "To", type := 3, offset := 4, embedded := false, tag := "", pkgPath := "", byteOffset := 32 } := by kernel_rfl
theorem f82_5 : field? cfg.P 82 5 = some { name := "X", type := 59, offset := 5, embedded := false, tag := "", pkgPath := "", byteOffset := 40 } := by kernel_rfl
theorem f82_6 : field? cfg.P 82 6 = some { name := "E", type := 27, offset := 12, embedded := false, tag := "", pkgPath := "", byteOffset := 144 } := by kernel_rfl
theorem f85_0 : field? cfg.P 85 0 = some { name := "Parents", type := 33, offset := 0, embedded := false, tag := "", pkgPath := "", byteOffset := 0 } := by kernel_rfl
theorem f85_1 : field? cfg.P 85 1 = some { name := "Homes", type := 33, offset := 1, embedded := false, tag := "", pkgPath := "", byteOffset := 24 } := by kernel_rfl
theorem e86 : elemT cfg.P 86 = some 82 := by kernel_rfl
theorem l86 : elemAt cfg.P #[86] = some 82 := by kernel_rfl
theorem a86 : arrT cfg.P 86 = none := by kernel_rfl
theorem e32 : elemT cfg.P 32 = some 49 := by kernel_rfl
theorem l32 : elemAt cfg.P #[32] = some 49 := by kernel_rfl
theorem a32 : arrT cfg.P 32 = none := by kernel_rfl
theorem e57 : elemT cfg.P 57 = some 59 := by kernel_rfl
theorem l57 : elemAt cfg.P #[57] = some 59 := by kernel_rfl
theorem a57 : arrT cfg.P 57 = none := by kernel_rfl
theorem e53 : elemT cfg.P 53 = some 169 := by kernel_rfl
theorem l53 : elemAt cfg.P #[53] = some 169 := by kernel_rfl
theorem a53 : arrT cfg.P 53 = none := by kernel_rfl
theorem e54 : elemT cfg.P 54 = some 9 := by kernel_rfl
theorem l54 : elemAt cfg.P #[54] = some 9 := by kernel_rfl
theorem a54 : arrT cfg.P 54 = none := by kernel_rfl
theorem e211 : elemT cfg.P 211 = some 56 := by kernel_rfl
theorem l211 : elemAt cfg.P #[211] = some 56 := by kernel_rfl
theorem a211 : arrT cfg.P 211 = none := by kernel_rfl
theorem e46 : elemT cfg.P 46 = some 130 := by kernel_rfl
theorem l46 : elemAt cfg.P #[46] = some 130 := by kernel_rfl
theorem a46 : arrT cfg.P 46 = none := by kernel_rfl
theorem e33 : elemT cfg.P 33 = some 3 := by kernel_rfl
theorem l33 : elemAt cfg.P #[33] = some 3 := by kernel_rfl
theorem a33 : arrT cfg.P 33 = none := by kernel_rfl
theorem a130 : arrT cfg.P 130 = some (4, 56) := by kernel_rfl
theorem a27 : arrT cfg.P 27 = some (4, 25) := by kernel_rfl
theorem s82 : sizeT cfg.P 82 = 24 := by kernel_rfl
theorem s85 : sizeT cfg.P 85 = 4 := by kernel_rfl
theorem s49 : sizeT cfg.P 49 = 3 := by kernel_rfl
theorem s59 : sizeT cfg.P 59 = 7 := by kernel_rfl
theorem s56 : sizeT cfg.P 56 = 4 := by kernel_rfl
theorem s9 : sizeT cfg.P 9 = 1 := by kernel_rfl
theorem s130 : sizeT cfg.P 130 = 16 := by kernel_rfl
theorem s25 : sizeT cfg.P 25 = 3 := by kernel_rfl
theorem s63 : sizeT cfg.P 63 = 17 := by kernel_rfl
theorem s61 : sizeT cfg.P 61 = 14 := by kernel_rfl
theorem s27 : sizeT cfg.P 27 = 12 := by kernel_rfl
theorem na57 : isAggT cfg.P 57 = false := by kernel_rfl
theorem na53 : isAggT cfg.P 53 = false := by kernel_rfl
theorem na54 : isAggT cfg.P 54 = false := by kernel_rfl
theorem na32 : isAggT cfg.P 32 = false := by kernel_rfl
theorem na33 : isAggT cfg.P 33 = false := by kernel_rfl
theorem na9 : isAggT cfg.P 9 = false := by kernel_rfl
theorem na3 : isAggT cfg.P 3 = false := by kernel_rfl
theorem na47 : isAggT cfg.P 47 = false := by kernel_rfl
theorem na22 : isAggT cfg.P 22 = false := by kernel_rfl
theorem na4 : isAggT cfg.P 4 = false := by kernel_rfl
theorem ag82 : isAggT cfg.P 82 = true := by kernel_rfl
theorem ag85 : isAggT cfg.P 85 = true := by kernel_rfl
theorem ag56 : isAggT cfg.P 56 = true := by kernel_rfl
theorem ag59 : isAggT cfg.P 59 = true := by kernel_rfl
theorem ag63 : isAggT cfg.P 63 = true := by kernel_rfl
theorem ag61 : isAggT cfg.P 61 = true := by kernel_rfl
theorem ag27 : isAggT cfg.P 27 = true := by kernel_rfl
theorem ag25 : isAggT cfg.P 25 = true := by kernel_rfl
theorem zc82 : zeroCells cfg.P 82 = some [.int .i64 0, .int .i64 0, .int .i64 0, .int .i64 0, .int .i64 0, .int .i64 0, .int .i64 0, .bool false, .nil0, .bool false, .nil0, .nil0, .int .i64 0, .int .i64 0, .str .empty, .int .i64 0, .int .i64 0, .str .empty, .int .i64 0, .int .i64 0, .str .empty, .int .i64 0, .int .i64 0, .str .empty] := by kernel_rfl
theorem z56 : zeroEl cfg.P 56 = some (.agg [.bool false, .list [], .bool false, .list []]) := by kernel_rfl
theorem z82 : zeroEl cfg.P 82 = some (.agg [.int .i64 0, .int .i64 0, .int .i64 0, .int .i64 0, .int .i64 0, .int .i64 0, .int .i64 0, .bool false, .list [], .bool false, .list [], .list [], .int .i64 0, .int .i64 0, .str .empty, .int .i64 0, .int .i64 0, .str .empty, .int .i64 0, .int .i64 0, .str .empty, .int .i64 0, .int .i64 0, .str .empty]) := by kernel_rfl
theorem r82 : rowT cfg.P 82 = true := by kernel_rfl
theorem r56 : rowT cfg.P 56 = true := by kernel_rfl
theorem o136 : cfg.order 136 4 = [(0, 0, []), (0, 1, []), (0, 2, []), (0, 3, []), (0, 4, []), (0, 5, []), (0, 6, []), (0, 7, []), (0, 8, []), (0, 9, []), (0, 10, []), (0, 11, []), (0, 12, []), (0, 13, []), (0, 14, []), (0, 15, []), (0, 16, []), (0, 17, []), (0, 18, []), (0, 19, []), (1, 20, []), (1, 21, []), (0, 22, [])] := by kernel_rfl
end Go.Proofs.AeT

/- BrokerNil: the guards of the statement come to some answer, whatever the operation is. (Written by mkfew.py out of Few.tpl.) -/
namespace Go.Proofs.AeT
open Go Go.AE Go.Proofs

theorem wrap_succ {i n : Nat} (h : i < n) (hn : n ≤ maxLen) : IntKind.i64.wrap ((i : Int) + 1) = ((i + 1 : Nat) : Int) := by
  have : n ≤ 9223372036854775807 := hn
  have e : IntKind.i64.bits = 64 := rfl
  simp only [IntKind.wrap, e]
  have : IntKind.i64.signed = true := rfl
  simp [this]
  omega

set_option maxHeartbeats 4000000 in
theorem few45 {call : CallF} {fuel : Nat} {ys : List D} (hy : ∀ y ∈ ys, ∃ n bs m, y = .agg [n, .list bs, m] ∧ ∃ b, call 100 [.list bs] h0 = some ⟨.bool b, h0⟩) (hf : ys.length < fuel) (hmax : ys.length ≤ maxLen) :
    Ok (enter cfg fuel call 45 [.list ys] h0) fun R => ∃ b, R = ⟨.bool b, h0⟩ := by
  refine enter_of (fn := Tryz.f45) (by kernel_rfl) Tryz.func45 rfl ?_
  refine ok_seq ?_
  refine ok_region ?_
  refine ok_do (op_move (.inr rfl) (by kernel_rfl) (by kernel_rfl) rfl) rfl rfl ?_
  refine ok_nil ?_
  refine ok_kseq ?_
  refine ok_seq ?_
  refine ok_seq ?_
  refine ok_region ?_
  refine ok_do (op_move (.inr rfl) (by kernel_rfl) (by kernel_rfl) rfl) rfl rfl ?_
  refine ok_nil ?_
  refine ok_kseq ?_
  refine ok_block ?_
  refine loop_ok (ts := [0, 3]) (ks := []) (fun i σ => ∃ fz, σ = ⟨setMany (fun _ => .d .undef) [(0, .d (.list ys)), (3, .d (.int .i64 (i : Int)))], fun _ => ⟨0, none⟩, fz, h0⟩) (by kernel_rfl) (by kernel_rfl) hf ⟨_, rfl⟩ ?_
  rintro i hi σ ⟨fz, rfl⟩ k' hk hk'
  refine ok_seq ?_
  refine ok_seq ?_
  refine ok_region ?_
  refine ok_do (op_move (.inl rfl) (by kernel_rfl) (by kernel_rfl) rfl) rfl rfl ?_
  refine ok_do (op_move (.inl rfl) (by kernel_rfl) (by kernel_rfl) rfl) rfl rfl ?_
  refine ok_do (op_len rfl rfl rfl rfl l32) rfl rfl ?_
  refine ok_cmp rfl rfl rfl rfl rfl bin_lss (fun h => ?_) (fun h => ?_)
  · have hlt : i < ys.length := by simpa using h
    obtain ⟨n, bs, m, hyi, b, hb⟩ := hy _ (List.getElem_mem hlt)
    have hyy : ys[i]? = some (.agg [n, .list bs, m]) := (List.getElem?_eq_getElem hlt).trans (congrArg some hyi)
    refine ok_nil ?_
    refine ok_kseq ?_
    refine ok_cond_t rfl ?_
    refine ok_skipc ?_
    refine ok_kseq ?_
    refine ok_seq ?_
    refine ok_block ?_
    refine ok_seq ?_
    refine ok_region ?_
    refine ok_do (op_move (.inl rfl) (by kernel_rfl) (by kernel_rfl) rfl) rfl rfl ?_
    refine ok_do (op_move (.inl rfl) (by kernel_rfl) (by kernel_rfl) rfl) rfl rfl ?_
    refine ok_do (op_index (y := .agg [n, .list bs, m]) rfl rfl rfl a32 e32 hyy ⟨rfl, s49.symm⟩) rfl rfl ?_
    refine ok_do (op_fieldI rfl rfl f49_1 (by kernel_rfl) rfl) rfl rfl ?_
    refine ok_do (op_loadI rfl rfl (by kernel_rfl) na47 rfl) rfl rfl ?_
    refine ok_call rfl rfl rfl rfl rfl (by kernel_rfl) rfl hb (by simp) ?_
    cases b
    · refine ok_do (op_not rfl rfl) rfl rfl ?_
      refine ok_nil ?_
      refine ok_kseq ?_
      refine ok_cond_t rfl ?_
      refine ok_seq ?_
      refine ok_region ?_
      refine ok_do (op_move (.inr rfl) (by kernel_rfl) (by kernel_rfl) rfl) rfl rfl ?_
      refine ok_nil ?_
      refine ok_kseq ?_
      refine ok_ret ?_
      refine ok_kblock_ret ?_
      refine ok_kseq_ret ?_
      refine hk' _ _ (by simp) ?_
      refine ok_kblock_ret ?_
      refine ok_kseq_ret ?_
      exact fin_ok (.inr rfl) rfl ⟨_, rfl⟩
    · refine ok_do (op_not rfl rfl) rfl rfl ?_
      refine ok_nil ?_
      refine ok_kseq ?_
      refine ok_cond_f rfl ?_
      refine ok_skipc ?_
      refine ok_kblock ?_
      refine ok_kseq ?_
      refine ok_region ?_
      refine ok_do (op_move (.inl rfl) (by kernel_rfl) (by kernel_rfl) rfl) rfl rfl ?_
      refine ok_do (op_bin rfl rfl rfl bin_add) rfl rfl ?_
      refine ok_do (op_move (.inr rfl) (by kernel_rfl) (by kernel_rfl) rfl) rfl rfl ?_
      refine ok_nil ?_
      refine hk hlt _ ?_
      show ∃ _, _
      rw [← wrap_succ hlt hmax]
      exact ⟨_, rfl⟩
  · refine ok_nil ?_
    refine ok_kseq ?_
    refine ok_cond_f rfl ?_
    refine ok_exit ?_
    refine ok_kseq_exit ?_
    refine hk' _ _ (by simp) ?_
    refine ok_kblock_here ?_
    refine ok_kseq ?_
    refine ok_seq ?_
    refine ok_region ?_
    refine ok_do (op_move (.inl rfl) (by kernel_rfl) (by kernel_rfl) rfl) rfl rfl ?_
    refine ok_do (op_len rfl rfl rfl rfl l32) rfl rfl ?_
    refine ok_cmp rfl rfl rfl rfl rfl bin_leq (fun h => ?_) (fun h => ?_)
    · refine ok_do (op_move (.inr rfl) (by kernel_rfl) (by kernel_rfl) rfl) rfl rfl ?_
      refine ok_nil ?_
      refine ok_kseq ?_
      refine ok_ret ?_
      exact fin_ok (.inr rfl) rfl ⟨_, rfl⟩
    · refine ok_do (op_move (.inr rfl) (by kernel_rfl) (by kernel_rfl) rfl) rfl rfl ?_
      refine ok_nil ?_
      refine ok_kseq ?_
      refine ok_ret ?_
      exact fin_ok (.inr rfl) rfl ⟨_, rfl⟩

/-- A set: its cells. -/
def SetY (y : D) : Prop := ∃ b1 rs b2 ss, y = .agg [.bool b1, .list rs, .bool b2, .list ss] ∧ ss.length ≤ maxLen ∧ ∀ s ∈ ss, ∃ t, s = .str t

def BoxY (y : D) : Prop := ∃ a0 a1 a2 a3 b0 b1 b2 b3 c0 c1 c2 c3 d0 d1 d2 d3, y = .agg [.bool a0, .list a1, .bool a2, .list a3, .bool b0, .list b1, .bool b2, .list b3, .bool c0, .list c1, .bool c2, .list c3, .bool d0, .list d1, .bool d2, .list d3] ∧
  SetY (.agg [.bool a0, .list a1, .bool a2, .list a3]) ∧ SetY (.agg [.bool b0, .list b1, .bool b2, .list b3]) ∧ SetY (.agg [.bool c0, .list c1, .bool c2, .list c3]) ∧ SetY (.agg [.bool d0, .list d1, .bool d2, .list d3])

set_option maxHeartbeats 4000000 in
theorem few121 {call : CallF} {fuel : Nat} {ls : List D} (hy : ∀ y ∈ ls, SetY y) (hf : maxLen < fuel) (hmax : ls.length ≤ maxLen) :
    Ok (enter cfg fuel call 121 [.list ls] h0) fun R => ∃ b, R = ⟨.bool b, h0⟩ := by
  refine enter_of (fn := Tryz.f121) (by kernel_rfl) Tryz.func121 rfl ?_
  refine ok_seq ?_
  refine ok_region ?_
  refine ok_do (op_move (.inr rfl) (by kernel_rfl) (by kernel_rfl) rfl) rfl rfl ?_
  refine ok_nil ?_
  refine ok_kseq ?_
  refine ok_seq ?_
  refine ok_seq ?_
  refine ok_region ?_
  refine ok_do (op_move (.inr rfl) (by kernel_rfl) (by kernel_rfl) rfl) rfl rfl ?_
  refine ok_nil ?_
  refine ok_kseq ?_
  refine ok_block ?_
  refine loop_ok (ts := [0, 3]) (ks := []) (fun i σ => ∃ fz, σ = ⟨setMany (fun _ => .d .undef) [(0, .d (.list ls)), (3, .d (.int .i64 (i : Int)))], fun _ => ⟨0, none⟩, fz, h0⟩) (by kernel_rfl) (by kernel_rfl) (Nat.lt_of_le_of_lt hmax hf) ⟨_, rfl⟩ ?_
  rintro i hi σ ⟨fz, rfl⟩ k' hk hk'
  refine ok_seq ?_
  refine ok_seq ?_
  refine ok_region ?_
  refine ok_do (op_move (.inl rfl) (by kernel_rfl) (by kernel_rfl) rfl) rfl rfl ?_
  refine ok_do (op_move (.inl rfl) (by kernel_rfl) (by kernel_rfl) rfl) rfl rfl ?_
  refine ok_do (op_len rfl rfl rfl rfl l211) rfl rfl ?_
  refine ok_cmp rfl rfl rfl rfl rfl bin_lss (fun h => ?_) (fun h => ?_)
  · have hlt : i < ls.length := by simpa using h
    obtain ⟨p1, rs, p2, ss, hyi, hss, hs⟩ := hy _ (List.getElem_mem hlt)
    have hyy : ls[i]? = some (.agg [.bool p1, .list rs, .bool p2, .list ss]) := (List.getElem?_eq_getElem hlt).trans (congrArg some hyi)
    refine ok_nil ?_
    refine ok_kseq ?_
    refine ok_cond_t rfl ?_
    refine ok_skipc ?_
    refine ok_kseq ?_
    refine ok_seq ?_
    refine ok_block ?_
    refine ok_seq ?_
    refine ok_seq ?_
    refine ok_region ?_
    refine ok_do (op_move (.inl rfl) (by kernel_rfl) (by kernel_rfl) rfl) rfl rfl ?_
    refine ok_do (op_move (.inl rfl) (by kernel_rfl) (by kernel_rfl) rfl) rfl rfl ?_
    refine ok_do (op_index (y := .agg [.bool p1, .list rs, .bool p2, .list ss]) rfl rfl rfl a211 e211 hyy ⟨rfl, s56.symm⟩) rfl rfl ?_
    refine ok_do (op_fieldI rfl rfl f56_1 (by kernel_rfl) rfl) rfl rfl ?_
    refine ok_do (op_loadI rfl rfl (by kernel_rfl) na53 rfl) rfl rfl ?_
    refine ok_do (op_len rfl rfl rfl rfl l53) rfl rfl ?_
    refine ok_cmp rfl rfl rfl rfl rfl bin_gtr (fun h => ?_) (fun h => ?_)
    · refine ok_do (op_move (.inl rfl) (by kernel_rfl) (by kernel_rfl) rfl) rfl rfl ?_
      refine ok_skip rfl rfl ?_
      refine ok_skip rfl rfl ?_
      refine ok_skip rfl rfl ?_
      refine ok_skip rfl rfl ?_
      refine ok_skip rfl rfl ?_
      refine ok_skip rfl rfl ?_
      refine ok_skip rfl rfl ?_
      refine ok_do (op_pick rfl rfl rfl) rfl rfl ?_
      refine ok_nil ?_
      refine ok_kseq ?_
      refine ok_cond_t rfl ?_
      refine ok_seq ?_
      refine ok_region ?_
      refine ok_do (op_move (.inr rfl) (by kernel_rfl) (by kernel_rfl) rfl) rfl rfl ?_
      refine ok_nil ?_
      refine ok_kseq ?_
      refine ok_ret ?_
      refine ok_kseq_ret ?_
      refine ok_kblock_ret ?_
      refine ok_kseq_ret ?_
      refine hk' _ _ (by simp) ?_
      refine ok_kblock_ret ?_
      refine ok_kseq_ret ?_
      exact fin_ok (.inr rfl) rfl ⟨_, rfl⟩
    · refine ok_do (op_move (.inl rfl) (by kernel_rfl) (by kernel_rfl) rfl) rfl rfl ?_
      refine ok_do (op_move (.inl rfl) (by kernel_rfl) (by kernel_rfl) rfl) rfl rfl ?_
      refine ok_do (op_move (.inl rfl) (by kernel_rfl) (by kernel_rfl) rfl) rfl rfl ?_
      refine ok_do (op_index (y := .agg [.bool p1, .list rs, .bool p2, .list ss]) rfl rfl rfl a211 e211 hyy ⟨rfl, s56.symm⟩) rfl rfl ?_
      refine ok_do (op_fieldI rfl rfl f56_3 (by kernel_rfl) rfl) rfl rfl ?_
      refine ok_do (op_loadI rfl rfl (by kernel_rfl) na54 rfl) rfl rfl ?_
      refine ok_do (op_len rfl rfl rfl rfl l54) rfl rfl ?_
      refine ok_cmp rfl rfl rfl rfl rfl bin_gtr (fun h => ?_) (fun h => ?_)
      · refine ok_do (op_pick rfl rfl rfl) rfl rfl ?_
        refine ok_nil ?_
        refine ok_kseq ?_
        refine ok_cond_t rfl ?_
        refine ok_seq ?_
        refine ok_region ?_
        refine ok_do (op_move (.inr rfl) (by kernel_rfl) (by kernel_rfl) rfl) rfl rfl ?_
        refine ok_nil ?_
        refine ok_kseq ?_
        refine ok_ret ?_
        refine ok_kseq_ret ?_
        refine ok_kblock_ret ?_
        refine ok_kseq_ret ?_
        refine hk' _ _ (by simp) ?_
        refine ok_kblock_ret ?_
        refine ok_kseq_ret ?_
        exact fin_ok (.inr rfl) rfl ⟨_, rfl⟩
      · refine ok_do (op_pick rfl rfl rfl) rfl rfl ?_
        refine ok_nil ?_
        refine ok_kseq ?_
        refine ok_cond_f rfl ?_
        refine ok_skipc ?_
        refine ok_kseq ?_
        refine ok_seq ?_
        refine ok_region ?_
        refine ok_do (op_move (.inr rfl) (by kernel_rfl) (by kernel_rfl) rfl) rfl rfl ?_
        refine ok_nil ?_
        refine ok_kseq ?_
        refine ok_block ?_
        refine loop_ok (ts := [0, 3, 4]) (ks := []) (fun j σ => ∃ fz, σ = ⟨setMany (fun _ => .d .undef) [(0, .d (.list ls)), (3, .d (.int .i64 (i : Int))), (4, .d (.int .i64 (j : Int)))], fun _ => ⟨0, none⟩, fz, h0⟩) (by kernel_rfl) (by kernel_rfl) (Nat.lt_of_le_of_lt hss hf) ⟨_, rfl⟩ ?_
        rintro j hj σ ⟨fz, rfl⟩ k2 hk2 hk2'
        refine ok_seq ?_
        refine ok_seq ?_
        refine ok_region ?_
        refine ok_do (op_move (.inl rfl) (by kernel_rfl) (by kernel_rfl) rfl) rfl rfl ?_
        refine ok_do (op_move (.inl rfl) (by kernel_rfl) (by kernel_rfl) rfl) rfl rfl ?_
        refine ok_do (op_move (.inl rfl) (by kernel_rfl) (by kernel_rfl) rfl) rfl rfl ?_
        refine ok_do (op_index (y := .agg [.bool p1, .list rs, .bool p2, .list ss]) rfl rfl rfl a211 e211 hyy ⟨rfl, s56.symm⟩) rfl rfl ?_
        refine ok_do (op_fieldI rfl rfl f56_3 (by kernel_rfl) rfl) rfl rfl ?_
        refine ok_do (op_loadI rfl rfl (by kernel_rfl) na54 rfl) rfl rfl ?_
        refine ok_do (op_len rfl rfl rfl rfl l54) rfl rfl ?_
        refine ok_cmp rfl rfl rfl rfl rfl bin_lss (fun h => ?_) (fun h => ?_)
        · have hlj : j < ss.length := by simpa using h
          obtain ⟨t, ht⟩ := hs _ (List.getElem_mem hlj)
          have hjj : ss[j]? = some (.str t) := (List.getElem?_eq_getElem hlj).trans (congrArg some ht)
          refine ok_nil ?_
          refine ok_kseq ?_
          refine ok_cond_t rfl ?_
          refine ok_skipc ?_
          refine ok_kseq ?_
          refine ok_seq ?_
          refine ok_block ?_
          refine ok_seq ?_
          refine ok_region ?_
          refine ok_do (op_move (.inl rfl) (by kernel_rfl) (by kernel_rfl) rfl) rfl rfl ?_
          refine ok_do (op_move (.inl rfl) (by kernel_rfl) (by kernel_rfl) rfl) rfl rfl ?_
          refine ok_do (op_index (y := .agg [.bool p1, .list rs, .bool p2, .list ss]) rfl rfl rfl a211 e211 hyy ⟨rfl, s56.symm⟩) rfl rfl ?_
          refine ok_do (op_fieldI rfl rfl f56_3 (by kernel_rfl) rfl) rfl rfl ?_
          refine ok_do (op_loadI rfl rfl (by kernel_rfl) na54 rfl) rfl rfl ?_
          refine ok_do (op_move (.inl rfl) (by kernel_rfl) (by kernel_rfl) rfl) rfl rfl ?_
          refine ok_do (op_index (y := .str t) rfl rfl rfl a54 e54 hjj ⟨rfl, s9.symm⟩) rfl rfl ?_
          refine ok_do (op_loadI rfl rfl (by kernel_rfl) na9 rfl) rfl rfl ?_
          refine ok_do (op_lenS rfl rfl rfl rfl ⟨rfl, (by kernel_rfl)⟩) rfl rfl ?_
          refine ok_cmp rfl rfl rfl rfl rfl bin_gtr (fun h => ?_) (fun h => ?_)
          · refine ok_nil ?_
            refine ok_kseq ?_
            refine ok_cond_t rfl ?_
            refine ok_seq ?_
            refine ok_region ?_
            refine ok_do (op_move (.inr rfl) (by kernel_rfl) (by kernel_rfl) rfl) rfl rfl ?_
            refine ok_nil ?_
            refine ok_kseq ?_
            refine ok_ret ?_
            refine ok_kblock_ret ?_
            refine ok_kseq_ret ?_
            refine hk2' _ _ (by simp) ?_
            refine ok_kblock_ret ?_
            refine ok_kblock_ret ?_
            refine ok_kseq_ret ?_
            refine hk' _ _ (by simp) ?_
            refine ok_kblock_ret ?_
            refine ok_kseq_ret ?_
            exact fin_ok (.inr rfl) rfl ⟨_, rfl⟩
          · refine ok_nil ?_
            refine ok_kseq ?_
            refine ok_cond_f rfl ?_
            refine ok_skipc ?_
            refine ok_kblock ?_
            refine ok_kseq ?_
            refine ok_region ?_
            refine ok_do (op_move (.inl rfl) (by kernel_rfl) (by kernel_rfl) rfl) rfl rfl ?_
            refine ok_do (op_bin rfl rfl rfl bin_add) rfl rfl ?_
            refine ok_do (op_move (.inr rfl) (by kernel_rfl) (by kernel_rfl) rfl) rfl rfl ?_
            refine ok_nil ?_
            refine hk2 hlj _ ?_
            show ∃ _, _
            rw [← wrap_succ hlj hss]
            exact ⟨_, rfl⟩
        · refine ok_nil ?_
          refine ok_kseq ?_
          refine ok_cond_f rfl ?_
          refine ok_exit ?_
          refine ok_kseq_exit ?_
          refine hk2' _ _ (by simp) ?_
          refine ok_kblock_here ?_
          refine ok_kblock ?_
          refine ok_kseq ?_
          refine ok_region ?_
          refine ok_do (op_move (.inl rfl) (by kernel_rfl) (by kernel_rfl) rfl) rfl rfl ?_
          refine ok_do (op_bin rfl rfl rfl bin_add) rfl rfl ?_
          refine ok_do (op_move (.inr rfl) (by kernel_rfl) (by kernel_rfl) rfl) rfl rfl ?_
          refine ok_nil ?_
          refine hk hlt _ ?_
          show ∃ _, _
          rw [← wrap_succ hlt hmax]
          exact ⟨_, rfl⟩
  · refine ok_nil ?_
    refine ok_kseq ?_
    refine ok_cond_f rfl ?_
    refine ok_exit ?_
    refine ok_kseq_exit ?_
    refine hk' _ _ (by simp) ?_
    refine ok_kblock_here ?_
    refine ok_kseq ?_
    refine ok_seq ?_
    refine ok_region ?_
    refine ok_do (op_move (.inr rfl) (by kernel_rfl) (by kernel_rfl) rfl) rfl rfl ?_
    refine ok_nil ?_
    refine ok_kseq ?_
    refine ok_ret ?_
    exact fin_ok (.inr rfl) rfl ⟨_, rfl⟩

set_option maxHeartbeats 4000000 in
theorem few136 {call : CallF} {fuel : Nat} {bs : List D} (hy : ∀ y ∈ bs, BoxY y) (hf : maxLen < fuel) (hmax : bs.length ≤ maxLen) (hc : ∀ ls, (∀ y ∈ ls, SetY y) → ls.length ≤ maxLen → ∃ b, call 121 [.list ls] h0 = some ⟨.bool b, h0⟩) :
    Ok (enter cfg fuel call 136 [.list bs] h0) fun R => ∃ b, R = ⟨.bool b, h0⟩ := by
  refine enter_of (fn := Tryz.f136) (by kernel_rfl) Tryz.func136 rfl ?_
  refine ok_seq ?_
  refine ok_region ?_
  refine ok_do (op_move (.inr rfl) (by kernel_rfl) (by kernel_rfl) rfl) rfl rfl ?_
  refine ok_nil ?_
  refine ok_kseq ?_
  refine ok_seq ?_
  refine ok_seq ?_
  refine ok_region ?_
  refine ok_do (op_move (.inr rfl) (by kernel_rfl) (by kernel_rfl) rfl) rfl rfl ?_
  refine ok_nil ?_
  refine ok_kseq ?_
  refine ok_block ?_
  refine loop_ok (ts := [0, 3]) (ks := []) (fun i σ => ∃ fz, σ = ⟨setMany (fun _ => .d .undef) [(0, .d (.list bs)), (3, .d (.int .i64 (i : Int)))], fun _ => ⟨0, none⟩, fz, h0⟩) (by kernel_rfl) (by kernel_rfl) (Nat.lt_of_le_of_lt hmax hf) ⟨_, rfl⟩ ?_
  rintro i hi σ ⟨fz, rfl⟩ k' hk hk'
  refine ok_seq ?_
  refine ok_seq ?_
  refine ok_region ?_
  refine ok_do (op_move (.inl rfl) (by kernel_rfl) (by kernel_rfl) rfl) rfl rfl ?_
  refine ok_do (op_move (.inl rfl) (by kernel_rfl) (by kernel_rfl) rfl) rfl rfl ?_
  refine ok_do (op_len rfl rfl rfl rfl l46) rfl rfl ?_
  refine ok_cmp rfl rfl rfl rfl rfl bin_lss (fun h => ?_) (fun h => ?_)
  · have hlt : i < bs.length := by simpa using h
    obtain ⟨a0, a1, a2, a3, b0, b1, b2, b3, c0, c1, c2, c3, d0, d1, d2, d3, hyi, sa, sb, sc, sd⟩ := hy _ (List.getElem_mem hlt)
    have hyy : bs[i]? = some (.agg [.bool a0, .list a1, .bool a2, .list a3, .bool b0, .list b1, .bool b2, .list b3, .bool c0, .list c1, .bool c2, .list c3, .bool d0, .list d1, .bool d2, .list d3]) := (List.getElem?_eq_getElem hlt).trans (congrArg some hyi)
    obtain ⟨r, hr⟩ := hc [.agg [.bool a0, .list a1, .bool a2, .list a3], .agg [.bool b0, .list b1, .bool b2, .list b3], .agg [.bool c0, .list c1, .bool c2, .list c3], .agg [.bool d0, .list d1, .bool d2, .list d3]]
      (by intro y hy; simp only [List.mem_cons, List.not_mem_nil, or_false] at hy; rcases hy with rfl | rfl | rfl | rfl <;> assumption) (by simp only [List.length_cons, List.length_nil, maxLen]; omega)
    refine ok_nil ?_
    refine ok_kseq ?_
    refine ok_cond_t rfl ?_
    refine ok_skipc ?_
    refine ok_kseq ?_
    refine ok_seq ?_
    refine ok_block ?_
    refine ok_seq ?_
    refine ok_regionD o136 ?_
    refine ok_ddo rfl (op_move (.inl rfl) (by kernel_rfl) (by kernel_rfl) rfl) rfl rfl ?_
    refine ok_ddo rfl (op_move (.inl rfl) (by kernel_rfl) (by kernel_rfl) rfl) rfl rfl ?_
    refine ok_ddo rfl (op_index rfl rfl rfl a46 e46 hyy ⟨rfl, s130.symm⟩) rfl rfl ?_
    refine ok_ddo rfl (op_indexI (i := 0) rfl rfl rfl a130 rfl s56 rfl) rfl rfl ?_
    refine ok_ddo rfl (op_loadIA rfl rfl (by kernel_rfl) ag56 s56 rfl rfl) rfl rfl ?_
    refine ok_ddo rfl (op_move (.inl rfl) (by kernel_rfl) (by kernel_rfl) rfl) rfl rfl ?_
    refine ok_ddo rfl (op_move (.inl rfl) (by kernel_rfl) (by kernel_rfl) rfl) rfl rfl ?_
    refine ok_ddo rfl (op_index rfl rfl rfl a46 e46 hyy ⟨rfl, s130.symm⟩) rfl rfl ?_
    refine ok_ddo rfl (op_indexI (i := 1) rfl rfl rfl a130 rfl s56 rfl) rfl rfl ?_
    refine ok_ddo rfl (op_loadIA rfl rfl (by kernel_rfl) ag56 s56 rfl rfl) rfl rfl ?_
    refine ok_ddo rfl (op_move (.inl rfl) (by kernel_rfl) (by kernel_rfl) rfl) rfl rfl ?_
    refine ok_ddo rfl (op_move (.inl rfl) (by kernel_rfl) (by kernel_rfl) rfl) rfl rfl ?_
    refine ok_ddo rfl (op_index rfl rfl rfl a46 e46 hyy ⟨rfl, s130.symm⟩) rfl rfl ?_
    refine ok_ddo rfl (op_indexI (i := 2) rfl rfl rfl a130 rfl s56 rfl) rfl rfl ?_
    refine ok_ddo rfl (op_loadIA rfl rfl (by kernel_rfl) ag56 s56 rfl rfl) rfl rfl ?_
    refine ok_ddo rfl (op_move (.inl rfl) (by kernel_rfl) (by kernel_rfl) rfl) rfl rfl ?_
    refine ok_ddo rfl (op_move (.inl rfl) (by kernel_rfl) (by kernel_rfl) rfl) rfl rfl ?_
    refine ok_ddo rfl (op_index rfl rfl rfl a46 e46 hyy ⟨rfl, s130.symm⟩) rfl rfl ?_
    refine ok_ddo rfl (op_indexI (i := 3) rfl rfl rfl a130 rfl s56 rfl) rfl rfl ?_
    refine ok_ddo rfl (op_loadIA rfl rfl (by kernel_rfl) ag56 s56 rfl rfl) rfl rfl ?_
    refine ok_dop rfl (eff_of rfl (op_bslice (xs := [.agg [.bool a0, .list a1, .bool a2, .list a3], .agg [.bool b0, .list b1, .bool b2, .list b3], .agg [.bool c0, .list c1, .bool c2, .list c3], .agg [.bool d0, .list d1, .bool d2, .list d3]]) rfl e211 rfl rfl z56 (by rw [s56]; rfl) (by rw [s56]; rfl) r56 (by kernel_rfl) (by kernel_rfl) rfl rfl)) rfl ?_
    refine ok_dop rfl (eff_of rfl (op_callF rfl rfl rfl (by kernel_rfl) rfl hr (by simp))) rfl ?_
    cases r
    · refine ok_ddo rfl (op_not rfl rfl) rfl rfl ?_
      refine ok_dnil ?_
      refine ok_kseq ?_
      refine ok_cond_t rfl ?_
      refine ok_seq ?_
      refine ok_region ?_
      refine ok_do (op_move (.inr rfl) (by kernel_rfl) (by kernel_rfl) rfl) rfl rfl ?_
      refine ok_nil ?_
      refine ok_kseq ?_
      refine ok_ret ?_
      refine ok_kblock_ret ?_
      refine ok_kseq_ret ?_
      refine hk' _ _ (by simp) ?_
      refine ok_kblock_ret ?_
      refine ok_kseq_ret ?_
      exact fin_ok (.inr rfl) rfl ⟨_, rfl⟩
    · refine ok_ddo rfl (op_not rfl rfl) rfl rfl ?_
      refine ok_dnil ?_
      refine ok_kseq ?_
      refine ok_cond_f rfl ?_
      refine ok_skipc ?_
      refine ok_kblock ?_
      refine ok_kseq ?_
      refine ok_region ?_
      refine ok_do (op_move (.inl rfl) (by kernel_rfl) (by kernel_rfl) rfl) rfl rfl ?_
      refine ok_do (op_bin rfl rfl rfl bin_add) rfl rfl ?_
      refine ok_do (op_move (.inr rfl) (by kernel_rfl) (by kernel_rfl) rfl) rfl rfl ?_
      refine ok_nil ?_
      refine hk hlt _ ?_
      show ∃ _, _
      rw [← wrap_succ hlt hmax]
      exact ⟨_, rfl⟩
  · refine ok_nil ?_
    refine ok_kseq ?_
    refine ok_cond_f rfl ?_
    refine ok_exit ?_
    refine ok_kseq_exit ?_
    refine hk' _ _ (by simp) ?_
    refine ok_kblock_here ?_
    refine ok_kseq ?_
    refine ok_seq ?_
    refine ok_region ?_
    refine ok_do (op_move (.inr rfl) (by kernel_rfl) (by kernel_rfl) rfl) rfl rfl ?_
    refine ok_nil ?_
    refine ok_kseq ?_
    refine ok_ret ?_
    exact fin_ok (.inr rfl) rfl ⟨_, rfl⟩

set_option maxHeartbeats 4000000 in
theorem few100 {call : CallF} {fuel : Nat} {bs : List D} (hc : ∃ b, call 136 [.list bs] h0 = some ⟨.bool b, h0⟩) : Ok (enter cfg fuel call 100 [.list bs] h0) fun R => ∃ b, R = ⟨.bool b, h0⟩ := by
  refine enter_of (fn := Tryz.f100) (by kernel_rfl) Tryz.func100 rfl ?_
  obtain ⟨r, hr⟩ := hc
  refine ok_seq ?_
  refine ok_region ?_
  refine ok_do (op_move (.inr rfl) (by kernel_rfl) (by kernel_rfl) rfl) rfl rfl ?_
  refine ok_nil ?_
  refine ok_kseq ?_
  refine ok_seq ?_
  refine ok_region ?_
  refine ok_do (op_move (.inl rfl) (by kernel_rfl) (by kernel_rfl) rfl) rfl rfl ?_
  refine ok_do (op_len rfl rfl rfl rfl l46) rfl rfl ?_
  refine ok_cmp rfl rfl rfl rfl rfl bin_leq (fun h => ?_) (fun h => ?_)
  · refine ok_do (op_move (.inl rfl) (by kernel_rfl) (by kernel_rfl) rfl) rfl rfl ?_
    refine ok_do (op_move (.inl rfl) (by kernel_rfl) (by kernel_rfl) rfl) rfl rfl ?_
    refine ok_call rfl rfl rfl rfl rfl (by kernel_rfl) rfl hr (by simp) ?_
    refine ok_do (op_pick rfl rfl rfl) rfl rfl ?_
    refine ok_do (op_move (.inr rfl) (by kernel_rfl) (by kernel_rfl) rfl) rfl rfl ?_
    refine ok_nil ?_
    refine ok_kseq ?_
    refine ok_ret ?_
    exact fin_ok (.inr rfl) rfl ⟨_, rfl⟩
  · refine ok_do (op_move (.inl rfl) (by kernel_rfl) (by kernel_rfl) rfl) rfl rfl ?_
    refine ok_skip rfl rfl ?_
    refine ok_skip rfl rfl ?_
    refine ok_do (op_pick rfl rfl rfl) rfl rfl ?_
    refine ok_do (op_move (.inr rfl) (by kernel_rfl) (by kernel_rfl) rfl) rfl rfl ?_
    refine ok_nil ?_
    refine ok_kseq ?_
    refine ok_ret ?_
    exact fin_ok (.inr rfl) rfl ⟨_, rfl⟩

set_option maxHeartbeats 4000000 in
/-- A frame: its cells. -/
theorem few19 {call : CallF} {fuel : Nat} {p0 : Bool} {es rm : List D} {q0 q1 k0 n0 k1 n1 k2 n2 k3 n3 : Int} {s0 s1 s2 s3 : ByteArray} (hc : ∃ b, call 45 [.list es] h0 = some ⟨.bool b, h0⟩) :
    Ok (enter cfg fuel call 19 [.agg [.bool p0, .list es, .list rm, .int .i64 q0, .int .i64 q1, .int .i64 k0, .int .i64 n0, .str s0, .int .i64 k1, .int .i64 n1, .str s1, .int .i64 k2, .int .i64 n2, .str s2, .int .i64 k3, .int .i64 n3, .str s3]] h0) fun R => ∃ b, R = ⟨.bool b, h0⟩ := by
  refine enter_of (fn := Tryz.f19) (by kernel_rfl) Tryz.func19 rfl ?_
  obtain ⟨r, hr⟩ := hc
  refine ok_seq ?_
  refine ok_region ?_
  refine ok_box rfl rfl rfl rfl rfl (by kernel_rfl) rfl rfl ?_
  refine ok_do (op_move (.inr rfl) (by kernel_rfl) (by kernel_rfl) rfl) rfl rfl ?_
  refine ok_nil ?_
  refine ok_kseq ?_
  refine ok_seq ?_
  refine ok_region ?_
  refine ok_do (op_fieldL rfl rfl f63_1 (by kernel_rfl) rfl) rfl rfl ?_
  refine ok_do (op_fieldL rfl rfl f36_0 (by kernel_rfl) rfl) rfl rfl ?_
  refine ok_do (op_loadL rfl rfl rfl (by kernel_rfl) na32 rfl) rfl rfl ?_
  refine ok_call rfl rfl rfl rfl rfl (by kernel_rfl) rfl hr (by simp) ?_
  cases r
  · refine ok_do (op_move (.inl rfl) (by kernel_rfl) (by kernel_rfl) rfl) rfl rfl ?_
    refine ok_skip rfl rfl ?_
    refine ok_skip rfl rfl ?_
    refine ok_skip rfl rfl ?_
    refine ok_skip rfl rfl ?_
    refine ok_skip rfl rfl ?_
    refine ok_do (op_pick rfl rfl rfl) rfl rfl ?_
    refine ok_do (op_move (.inl rfl) (by kernel_rfl) (by kernel_rfl) rfl) rfl rfl ?_
    refine ok_skip rfl rfl ?_
    refine ok_skip rfl rfl ?_
    refine ok_skip rfl rfl ?_
    refine ok_skip rfl rfl ?_
    refine ok_skip rfl rfl ?_
    refine ok_skip rfl rfl ?_
    refine ok_skip rfl rfl ?_
    refine ok_skip rfl rfl ?_
    refine ok_skip rfl rfl ?_
    refine ok_skip rfl rfl ?_
    refine ok_skip rfl rfl ?_
    refine ok_skip rfl rfl ?_
    refine ok_skip rfl rfl ?_
    refine ok_skip rfl rfl ?_
    refine ok_skip rfl rfl ?_
    refine ok_skip rfl rfl ?_
    refine ok_skip rfl rfl ?_
    refine ok_skip rfl rfl ?_
    refine ok_skip rfl rfl ?_
    refine ok_skip rfl rfl ?_
    refine ok_skip rfl rfl ?_
    refine ok_skip rfl rfl ?_
    refine ok_skip rfl rfl ?_
    refine ok_skip rfl rfl ?_
    refine ok_skip rfl rfl ?_
    refine ok_skip rfl rfl ?_
    refine ok_skip rfl rfl ?_
    refine ok_skip rfl rfl ?_
    refine ok_do (op_pick rfl rfl rfl) rfl rfl ?_
    refine ok_do (op_move (.inr rfl) (by kernel_rfl) (by kernel_rfl) rfl) rfl rfl ?_
    refine ok_nil ?_
    refine ok_kseq ?_
    refine ok_ret ?_
    exact fin_ok (.inr rfl) rfl ⟨_, rfl⟩
  · refine ok_do (op_move (.inl rfl) (by kernel_rfl) (by kernel_rfl) rfl) rfl rfl ?_
    refine ok_do (op_fieldL rfl rfl f63_1 (by kernel_rfl) rfl) rfl rfl ?_
    refine ok_do (op_fieldL rfl rfl f36_1 (by kernel_rfl) rfl) rfl rfl ?_
    refine ok_do (op_loadL rfl rfl rfl (by kernel_rfl) na33 rfl) rfl rfl ?_
    refine ok_do (op_len rfl rfl rfl rfl l33) rfl rfl ?_
    refine ok_cmp rfl rfl rfl rfl rfl bin_leq (fun h => ?_) (fun h => ?_)
    · refine ok_do (op_pick rfl rfl rfl) rfl rfl ?_
      refine ok_do (op_move (.inl rfl) (by kernel_rfl) (by kernel_rfl) rfl) rfl rfl ?_
      refine ok_do (op_fieldL rfl rfl f63_2 (by kernel_rfl) rfl) rfl rfl ?_
      refine ok_do (op_fieldL rfl rfl f61_2 (by kernel_rfl) rfl) rfl rfl ?_
      refine ok_do (op_indexL (i := 0) rfl rfl rfl a27 rfl s25 rfl) rfl rfl ?_
      refine ok_do (op_fieldL rfl rfl f25_2 (by kernel_rfl) rfl) rfl rfl ?_
      refine ok_do (op_loadL rfl rfl rfl (by kernel_rfl) na9 rfl) rfl rfl ?_
      refine ok_do (op_lenS rfl rfl rfl rfl ⟨rfl, (by kernel_rfl)⟩) rfl rfl ?_
      refine ok_do (op_fieldL rfl rfl f63_2 (by kernel_rfl) rfl) rfl rfl ?_
      refine ok_do (op_fieldL rfl rfl f61_2 (by kernel_rfl) rfl) rfl rfl ?_
      refine ok_do (op_indexL (i := 1) rfl rfl rfl a27 rfl s25 rfl) rfl rfl ?_
      refine ok_do (op_fieldL rfl rfl f25_2 (by kernel_rfl) rfl) rfl rfl ?_
      refine ok_do (op_loadL rfl rfl rfl (by kernel_rfl) na9 rfl) rfl rfl ?_
      refine ok_do (op_lenS rfl rfl rfl rfl ⟨rfl, (by kernel_rfl)⟩) rfl rfl ?_
      refine ok_do (op_bin rfl rfl rfl bin_add) rfl rfl ?_
      refine ok_do (op_fieldL rfl rfl f63_2 (by kernel_rfl) rfl) rfl rfl ?_
      refine ok_do (op_fieldL rfl rfl f61_2 (by kernel_rfl) rfl) rfl rfl ?_
      refine ok_do (op_indexL (i := 2) rfl rfl rfl a27 rfl s25 rfl) rfl rfl ?_
      refine ok_do (op_fieldL rfl rfl f25_2 (by kernel_rfl) rfl) rfl rfl ?_
      refine ok_do (op_loadL rfl rfl rfl (by kernel_rfl) na9 rfl) rfl rfl ?_
      refine ok_do (op_lenS rfl rfl rfl rfl ⟨rfl, (by kernel_rfl)⟩) rfl rfl ?_
      refine ok_do (op_bin rfl rfl rfl bin_add) rfl rfl ?_
      refine ok_do (op_fieldL rfl rfl f63_2 (by kernel_rfl) rfl) rfl rfl ?_
      refine ok_do (op_fieldL rfl rfl f61_2 (by kernel_rfl) rfl) rfl rfl ?_
      refine ok_do (op_indexL (i := 3) rfl rfl rfl a27 rfl s25 rfl) rfl rfl ?_
      refine ok_do (op_fieldL rfl rfl f25_2 (by kernel_rfl) rfl) rfl rfl ?_
      refine ok_do (op_loadL rfl rfl rfl (by kernel_rfl) na9 rfl) rfl rfl ?_
      refine ok_do (op_lenS rfl rfl rfl rfl ⟨rfl, (by kernel_rfl)⟩) rfl rfl ?_
      refine ok_do (op_bin rfl rfl rfl bin_add) rfl rfl ?_
      refine ok_cmp rfl rfl rfl rfl rfl bin_leq (fun h => ?_) (fun h => ?_)
      · refine ok_do (op_pick rfl rfl rfl) rfl rfl ?_
        refine ok_do (op_move (.inr rfl) (by kernel_rfl) (by kernel_rfl) rfl) rfl rfl ?_
        refine ok_nil ?_
        refine ok_kseq ?_
        refine ok_ret ?_
        exact fin_ok (.inr rfl) rfl ⟨_, rfl⟩
      · refine ok_do (op_pick rfl rfl rfl) rfl rfl ?_
        refine ok_do (op_move (.inr rfl) (by kernel_rfl) (by kernel_rfl) rfl) rfl rfl ?_
        refine ok_nil ?_
        refine ok_kseq ?_
        refine ok_ret ?_
        exact fin_ok (.inr rfl) rfl ⟨_, rfl⟩
    · refine ok_do (op_pick rfl rfl rfl) rfl rfl ?_
      refine ok_do (op_move (.inl rfl) (by kernel_rfl) (by kernel_rfl) rfl) rfl rfl ?_
      refine ok_skip rfl rfl ?_
      refine ok_skip rfl rfl ?_
      refine ok_skip rfl rfl ?_
      refine ok_skip rfl rfl ?_
      refine ok_skip rfl rfl ?_
      refine ok_skip rfl rfl ?_
      refine ok_skip rfl rfl ?_
      refine ok_skip rfl rfl ?_
      refine ok_skip rfl rfl ?_
      refine ok_skip rfl rfl ?_
      refine ok_skip rfl rfl ?_
      refine ok_skip rfl rfl ?_
      refine ok_skip rfl rfl ?_
      refine ok_skip rfl rfl ?_
      refine ok_skip rfl rfl ?_
      refine ok_skip rfl rfl ?_
      refine ok_skip rfl rfl ?_
      refine ok_skip rfl rfl ?_
      refine ok_skip rfl rfl ?_
      refine ok_skip rfl rfl ?_
      refine ok_skip rfl rfl ?_
      refine ok_skip rfl rfl ?_
      refine ok_skip rfl rfl ?_
      refine ok_skip rfl rfl ?_
      refine ok_skip rfl rfl ?_
      refine ok_skip rfl rfl ?_
      refine ok_skip rfl rfl ?_
      refine ok_skip rfl rfl ?_
      refine ok_do (op_pick rfl rfl rfl) rfl rfl ?_
      refine ok_do (op_move (.inr rfl) (by kernel_rfl) (by kernel_rfl) rfl) rfl rfl ?_
      refine ok_nil ?_
      refine ok_kseq ?_
      refine ok_ret ?_
      exact fin_ok (.inr rfl) rfl ⟨_, rfl⟩

/-- An expression, at most so deep: its cells. -/
def XS : Nat → List D → Prop
  | 0, _ => False
  | n + 1, xs => ∃ k a b1 rs b2 ss subs, xs = [.int .i64 k, .int .i64 a, .bool b1, .list rs, .bool b2, .list ss, .list subs] ∧ ss.length ≤ maxLen ∧ (∀ s ∈ ss, ∃ t, s = .str t) ∧ subs.length ≤ maxLen ∧ ∀ y ∈ subs, ∃ zs, y = .agg zs ∧ XS n zs

theorem XS.ex {n : Nat} {xs : List D} (h : XS n xs) : ∃ k a b1 rs b2 ss subs, xs = [.int .i64 k, .int .i64 a, .bool b1, .list rs, .bool b2, .list ss, .list subs] := by
  cases n with
  | zero => exact h.elim
  | succ n => obtain ⟨k, a, b1, rs, b2, ss, subs, h, _⟩ := h; exact ⟨k, a, b1, rs, b2, ss, subs, h⟩

set_option maxHeartbeats 4000000 in
theorem few72 {call : CallF} {fuel n : Nat} {xs : List D} (hx : XS (n + 1) xs) (hf : maxLen < fuel) (hc : ∀ ls, (∀ y ∈ ls, SetY y) → ls.length ≤ maxLen → ∃ b, call 121 [.list ls] h0 = some ⟨.bool b, h0⟩) (ih : ∀ zs, XS n zs → ∃ b, call 72 [.agg zs] h0 = some ⟨.bool b, h0⟩) :
    Ok (enter cfg fuel call 72 [.agg xs] h0) fun R => ∃ b, R = ⟨.bool b, h0⟩ := by
  obtain ⟨k, a, b1, rs, b2, ss, subs, rfl, hss, hs, hmax, hsub⟩ := hx
  refine enter_of (fn := Tryz.f72) (by kernel_rfl) Tryz.func72 rfl ?_
  obtain ⟨r, hr⟩ := hc [.agg [.bool b1, .list rs, .bool b2, .list ss]] (by intro y hy; simp only [List.mem_singleton] at hy; subst hy; exact ⟨_, _, _, _, rfl, hss, hs⟩) (by simp only [List.length_cons, List.length_nil, maxLen]; omega)
  refine ok_seq ?_
  refine ok_region ?_
  refine ok_box rfl rfl rfl rfl rfl (by kernel_rfl) rfl rfl ?_
  refine ok_do (op_move (.inr rfl) (by kernel_rfl) (by kernel_rfl) rfl) rfl rfl ?_
  refine ok_nil ?_
  refine ok_kseq ?_
  refine ok_seq ?_
  refine ok_seq ?_
  refine ok_region ?_
  refine ok_do (op_fieldL rfl rfl f59_2 (by kernel_rfl) rfl) rfl rfl ?_
  refine ok_do (op_loadLA rfl rfl rfl (by kernel_rfl) ag56 s56 rfl rfl) rfl rfl ?_
  refine ok_opW (eff_of rfl (op_bslice (xs := [.agg [.bool b1, .list rs, .bool b2, .list ss]]) rfl e211 rfl rfl z56 (by rw [s56]; rfl) (by rw [s56]; rfl) r56 (by kernel_rfl) (by kernel_rfl) rfl rfl)) ?_
  refine ok_opW (eff_of rfl (op_callF rfl rfl rfl (by kernel_rfl) rfl hr (by simp))) ?_
  cases r
  · refine ok_do (op_not rfl rfl) rfl rfl ?_
    refine ok_nil ?_
    refine ok_kseq ?_
    refine ok_cond_t rfl ?_
    refine ok_seq ?_
    refine ok_region ?_
    refine ok_do (op_move (.inr rfl) (by kernel_rfl) (by kernel_rfl) rfl) rfl rfl ?_
    refine ok_nil ?_
    refine ok_kseq ?_
    refine ok_ret ?_
    refine ok_kseq_ret ?_
    exact fin_ok (.inr rfl) rfl ⟨_, rfl⟩
  · refine ok_do (op_not rfl rfl) rfl rfl ?_
    refine ok_nil ?_
    refine ok_kseq ?_
    refine ok_cond_f rfl ?_
    refine ok_skipc ?_
    refine ok_kseq ?_
    refine ok_seq ?_
    refine ok_seq ?_
    refine ok_region ?_
    refine ok_do (op_move (.inr rfl) (by kernel_rfl) (by kernel_rfl) rfl) rfl rfl ?_
    refine ok_nil ?_
    refine ok_kseq ?_
    refine ok_block ?_
    refine loop_ok (ts := [1, 3]) (ks := [1]) (fun i σ => ∃ fz, σ = ⟨setMany (fun _ => .d .undef) [(1, .lp 1 0 0), (3, .d (.int .i64 (i : Int)))], setMany (fun _ => ⟨0, none⟩) [(1, ⟨0, some (.box 59 ([.int .i64 k, .int .i64 a, .bool b1, .list rs, .bool b2, .list ss, .list subs].map .d))⟩)], fz, h0⟩) (by kernel_rfl) (by kernel_rfl) (Nat.lt_of_le_of_lt hmax hf) ⟨_, rfl⟩ ?_
    rintro i hi σ ⟨fz, rfl⟩ k' hk hk'
    refine ok_seq ?_
    refine ok_seq ?_
    refine ok_region ?_
    refine ok_do (op_move (.inl rfl) (by kernel_rfl) (by kernel_rfl) rfl) rfl rfl ?_
    refine ok_do (op_fieldL rfl rfl f59_3 (by kernel_rfl) rfl) rfl rfl ?_
    refine ok_do (op_loadL rfl rfl rfl (by kernel_rfl) na57 rfl) rfl rfl ?_
    refine ok_do (op_len rfl rfl rfl rfl l57) rfl rfl ?_
    refine ok_cmp rfl rfl rfl rfl rfl bin_lss (fun h => ?_) (fun h => ?_)
    · have hlt : i < subs.length := by simpa using h
      obtain ⟨zs, hyi, hz⟩ := hsub _ (List.getElem_mem hlt)
      obtain ⟨r, hr⟩ := ih zs hz
      obtain ⟨zk, za, zb1, zrs, zb2, zss, zsubs, rfl⟩ := hz.ex
      have hyy : subs[i]? = some (.agg [.int .i64 zk, .int .i64 za, .bool zb1, .list zrs, .bool zb2, .list zss, .list zsubs]) := (List.getElem?_eq_getElem hlt).trans (congrArg some hyi)
      refine ok_nil ?_
      refine ok_kseq ?_
      refine ok_cond_t rfl ?_
      refine ok_skipc ?_
      refine ok_kseq ?_
      refine ok_seq ?_
      refine ok_block ?_
      refine ok_seq ?_
      refine ok_region ?_
      refine ok_do (op_fieldL rfl rfl f59_3 (by kernel_rfl) rfl) rfl rfl ?_
      refine ok_do (op_loadL rfl rfl rfl (by kernel_rfl) na57 rfl) rfl rfl ?_
      refine ok_do (op_move (.inl rfl) (by kernel_rfl) (by kernel_rfl) rfl) rfl rfl ?_
      refine ok_do (op_index rfl rfl rfl a57 e57 hyy ⟨rfl, s59.symm⟩) rfl rfl ?_
      refine ok_do (op_loadIA rfl rfl (by kernel_rfl) ag59 s59 rfl rfl) rfl rfl ?_
      refine ok_call rfl rfl rfl rfl rfl (by kernel_rfl) rfl hr (by simp) ?_
      cases r
      · refine ok_do (op_not rfl rfl) rfl rfl ?_
        refine ok_nil ?_
        refine ok_kseq ?_
        refine ok_cond_t rfl ?_
        refine ok_seq ?_
        refine ok_region ?_
        refine ok_do (op_move (.inr rfl) (by kernel_rfl) (by kernel_rfl) rfl) rfl rfl ?_
        refine ok_nil ?_
        refine ok_kseq ?_
        refine ok_ret ?_
        refine ok_kblock_ret ?_
        refine ok_kseq_ret ?_
        refine hk' _ _ (by simp) ?_
        refine ok_kblock_ret ?_
        refine ok_kseq_ret ?_
        exact fin_ok (.inr rfl) rfl ⟨_, rfl⟩
      · refine ok_do (op_not rfl rfl) rfl rfl ?_
        refine ok_nil ?_
        refine ok_kseq ?_
        refine ok_cond_f rfl ?_
        refine ok_skipc ?_
        refine ok_kblock ?_
        refine ok_kseq ?_
        refine ok_region ?_
        refine ok_do (op_move (.inl rfl) (by kernel_rfl) (by kernel_rfl) rfl) rfl rfl ?_
        refine ok_do (op_bin rfl rfl rfl bin_add) rfl rfl ?_
        refine ok_do (op_move (.inr rfl) (by kernel_rfl) (by kernel_rfl) rfl) rfl rfl ?_
        refine ok_nil ?_
        refine hk hlt _ ?_
        show ∃ _, _
        rw [← wrap_succ hlt hmax]
        exact ⟨_, rfl⟩
    · refine ok_nil ?_
      refine ok_kseq ?_
      refine ok_cond_f rfl ?_
      refine ok_exit ?_
      refine ok_kseq_exit ?_
      refine hk' _ _ (by simp) ?_
      refine ok_kblock_here ?_
      refine ok_kseq ?_
      refine ok_seq ?_
      refine ok_region ?_
      refine ok_do (op_move (.inr rfl) (by kernel_rfl) (by kernel_rfl) rfl) rfl rfl ?_
      refine ok_nil ?_
      refine ok_kseq ?_
      refine ok_ret ?_
      exact fin_ok (.inr rfl) rfl ⟨_, rfl⟩

set_option maxHeartbeats 4000000 in
theorem few70 {call : CallF} {fuel n : Nat} {xs : List D} {deep : Int} (hx : XS (n + 1) xs) (hf : maxLen < fuel) (ih : ∀ zs d, XS n zs → ∃ b, call 70 [.agg zs, .int .i64 d] h0 = some ⟨.int .i64 b, h0⟩) :
    Ok (enter cfg fuel call 70 [.agg xs, .int .i64 deep] h0) fun R => ∃ b, R = ⟨.int .i64 b, h0⟩ := by
  obtain ⟨k, a, b1, rs, b2, ss, subs, rfl, hss, hs, hmax, hsub⟩ := hx
  refine enter_of (fn := Tryz.f70) (by kernel_rfl) Tryz.func70 rfl ?_
  refine ok_seq ?_
  refine ok_region ?_
  refine ok_box rfl rfl rfl rfl rfl (by kernel_rfl) rfl rfl ?_
  refine ok_do (op_move (.inr rfl) (by kernel_rfl) (by kernel_rfl) rfl) rfl rfl ?_
  refine ok_nil ?_
  refine ok_kseq ?_
  refine ok_seq ?_
  refine ok_region ?_
  refine ok_do (op_move (.inr rfl) (by kernel_rfl) (by kernel_rfl) rfl) rfl rfl ?_
  refine ok_nil ?_
  refine ok_kseq ?_
  refine ok_seq ?_
  refine ok_seq ?_
  refine ok_region ?_
  refine ok_do (op_move (.inl rfl) (by kernel_rfl) (by kernel_rfl) rfl) rfl rfl ?_
  refine ok_cmp rfl rfl rfl rfl rfl bin_gtr (fun h => ?_) (fun h => ?_)
  · refine ok_nil ?_
    refine ok_kseq ?_
    refine ok_cond_t rfl ?_
    refine ok_seq ?_
    refine ok_region ?_
    refine ok_do (op_move (.inr rfl) (by kernel_rfl) (by kernel_rfl) rfl) rfl rfl ?_
    refine ok_nil ?_
    refine ok_kseq ?_
    refine ok_ret ?_
    refine ok_kseq_ret ?_
    exact fin_int (.inr rfl) rfl ⟨_, rfl⟩
  · refine ok_nil ?_
    refine ok_kseq ?_
    refine ok_cond_f rfl ?_
    refine ok_skipc ?_
    refine ok_kseq ?_
    refine ok_seq ?_
    refine ok_seq ?_
    refine ok_region ?_
    refine ok_do (op_move (.inr rfl) (by kernel_rfl) (by kernel_rfl) rfl) rfl rfl ?_
    refine ok_nil ?_
    refine ok_kseq ?_
    refine ok_block ?_
    refine loop_ok (ts := [1, 2, 5, 6]) (ks := [2]) (fun i σ => ∃ acc fz, σ = ⟨setMany (fun _ => .d .undef) [(1, .d (.int .i64 deep)), (2, .lp 2 0 0), (5, .d (.int .i64 acc)), (6, .d (.int .i64 (i : Int)))], setMany (fun _ => ⟨0, none⟩) [(2, ⟨0, some (.box 59 ([.int .i64 k, .int .i64 a, .bool b1, .list rs, .bool b2, .list ss, .list subs].map .d))⟩)], fz, h0⟩) (by kernel_rfl) (by kernel_rfl) (Nat.lt_of_le_of_lt hmax hf) ⟨_, _, rfl⟩ ?_
    rintro i hi σ ⟨acc, fz, rfl⟩ k' hk hk'
    refine ok_seq ?_
    refine ok_seq ?_
    refine ok_region ?_
    refine ok_do (op_move (.inl rfl) (by kernel_rfl) (by kernel_rfl) rfl) rfl rfl ?_
    refine ok_do (op_fieldL rfl rfl f59_3 (by kernel_rfl) rfl) rfl rfl ?_
    refine ok_do (op_loadL rfl rfl rfl (by kernel_rfl) na57 rfl) rfl rfl ?_
    refine ok_do (op_len rfl rfl rfl rfl l57) rfl rfl ?_
    refine ok_cmp rfl rfl rfl rfl rfl bin_lss (fun h => ?_) (fun h => ?_)
    · have hlt : i < subs.length := by simpa using h
      refine ok_do (op_move (.inl rfl) (by kernel_rfl) (by kernel_rfl) rfl) rfl rfl ?_
      refine ok_do (op_move (.inl rfl) (by kernel_rfl) (by kernel_rfl) rfl) rfl rfl ?_
      refine ok_cmp rfl rfl rfl rfl rfl bin_lss (fun h => ?_) (fun h => ?_)
      · obtain ⟨zs, hyi, hz⟩ := hsub _ (List.getElem_mem hlt)
        obtain ⟨r, hr⟩ := ih zs (IntKind.i64.wrap (deep + 1)) hz
        obtain ⟨zk, za, zb1, zrs, zb2, zss, zsubs, rfl⟩ := hz.ex
        have hyy : subs[i]? = some (.agg [.int .i64 zk, .int .i64 za, .bool zb1, .list zrs, .bool zb2, .list zss, .list zsubs]) := (List.getElem?_eq_getElem hlt).trans (congrArg some hyi)
        refine ok_do (op_pick rfl rfl rfl) rfl rfl ?_
        refine ok_nil ?_
        refine ok_kseq ?_
        refine ok_cond_t rfl ?_
        refine ok_skipc ?_
        refine ok_kseq ?_
        refine ok_seq ?_
        refine ok_block ?_
        refine ok_region ?_
        refine ok_do (op_move (.inl rfl) (by kernel_rfl) (by kernel_rfl) rfl) rfl rfl ?_
        refine ok_do (op_fieldL rfl rfl f59_3 (by kernel_rfl) rfl) rfl rfl ?_
        refine ok_do (op_loadL rfl rfl rfl (by kernel_rfl) na57 rfl) rfl rfl ?_
        refine ok_do (op_move (.inl rfl) (by kernel_rfl) (by kernel_rfl) rfl) rfl rfl ?_
        refine ok_do (op_index rfl rfl rfl a57 e57 hyy ⟨rfl, s59.symm⟩) rfl rfl ?_
        refine ok_do (op_loadIA rfl rfl (by kernel_rfl) ag59 s59 rfl rfl) rfl rfl ?_
        refine ok_do (op_move (.inl rfl) (by kernel_rfl) (by kernel_rfl) rfl) rfl rfl ?_
        refine ok_do (op_bin rfl rfl rfl bin_add) rfl rfl ?_
        refine ok_call rfl rfl rfl rfl rfl (by kernel_rfl) rfl hr (by simp) ?_
        refine ok_do (op_bin rfl rfl rfl bin_add) rfl rfl ?_
        refine ok_do (op_move (.inr rfl) (by kernel_rfl) (by kernel_rfl) rfl) rfl rfl ?_
        refine ok_nil ?_
        refine ok_kblock ?_
        refine ok_kseq ?_
        refine ok_region ?_
        refine ok_do (op_move (.inl rfl) (by kernel_rfl) (by kernel_rfl) rfl) rfl rfl ?_
        refine ok_do (op_bin rfl rfl rfl bin_add) rfl rfl ?_
        refine ok_do (op_move (.inr rfl) (by kernel_rfl) (by kernel_rfl) rfl) rfl rfl ?_
        refine ok_nil ?_
        refine hk hlt _ ?_
        show ∃ _ _, _
        rw [← wrap_succ hlt hmax]
        exact ⟨_, _, rfl⟩
      · refine ok_do (op_pick rfl rfl rfl) rfl rfl ?_
        refine ok_nil ?_
        refine ok_kseq ?_
        refine ok_cond_f rfl ?_
        refine ok_exit ?_
        refine ok_kseq_exit ?_
        refine hk' _ _ (by simp) ?_
        refine ok_kblock_here ?_
        refine ok_kseq ?_
        refine ok_seq ?_
        refine ok_region ?_
        refine ok_do (op_move (.inl rfl) (by kernel_rfl) (by kernel_rfl) rfl) rfl rfl ?_
        refine ok_do (op_min2 rfl rfl rfl rfl rfl) rfl rfl ?_
        refine ok_do (op_move (.inr rfl) (by kernel_rfl) (by kernel_rfl) rfl) rfl rfl ?_
        refine ok_nil ?_
        refine ok_kseq ?_
        refine ok_ret ?_
        exact fin_int (.inr rfl) rfl ⟨_, rfl⟩
    · refine ok_do (op_move (.inl rfl) (by kernel_rfl) (by kernel_rfl) rfl) rfl rfl ?_
      refine ok_skip rfl rfl ?_
      refine ok_skip rfl rfl ?_
      refine ok_do (op_pick rfl rfl rfl) rfl rfl ?_
      refine ok_nil ?_
      refine ok_kseq ?_
      refine ok_cond_f rfl ?_
      refine ok_exit ?_
      refine ok_kseq_exit ?_
      refine hk' _ _ (by simp) ?_
      refine ok_kblock_here ?_
      refine ok_kseq ?_
      refine ok_seq ?_
      refine ok_region ?_
      refine ok_do (op_move (.inl rfl) (by kernel_rfl) (by kernel_rfl) rfl) rfl rfl ?_
      refine ok_do (op_min2 rfl rfl rfl rfl rfl) rfl rfl ?_
      refine ok_do (op_move (.inr rfl) (by kernel_rfl) (by kernel_rfl) rfl) rfl rfl ?_
      refine ok_nil ?_
      refine ok_kseq ?_
      refine ok_ret ?_
      exact fin_int (.inr rfl) rfl ⟨_, rfl⟩

set_option maxHeartbeats 4000000 in
theorem few71 {call : CallF} {fuel n : Nat} {xs : List D} {deep : Int} (hx : XS (n + 1) xs) (hf : maxLen < fuel) (ih : ∀ zs d, XS n zs → ∃ b, call 71 [.agg zs, .int .i64 d] h0 = some ⟨.int .i64 b, h0⟩) :
    Ok (enter cfg fuel call 71 [.agg xs, .int .i64 deep] h0) fun R => ∃ b, R = ⟨.int .i64 b, h0⟩ := by
  obtain ⟨k, a, b1, rs, b2, ss, subs, rfl, hss, hs, hmax, hsub⟩ := hx
  refine enter_of (fn := Tryz.f71) (by kernel_rfl) Tryz.func71 rfl ?_
  refine ok_seq ?_
  refine ok_region ?_
  refine ok_box rfl rfl rfl rfl rfl (by kernel_rfl) rfl rfl ?_
  refine ok_do (op_move (.inr rfl) (by kernel_rfl) (by kernel_rfl) rfl) rfl rfl ?_
  refine ok_nil ?_
  refine ok_kseq ?_
  refine ok_seq ?_
  refine ok_region ?_
  refine ok_do (op_move (.inr rfl) (by kernel_rfl) (by kernel_rfl) rfl) rfl rfl ?_
  refine ok_nil ?_
  refine ok_kseq ?_
  refine ok_seq ?_
  refine ok_seq ?_
  refine ok_region ?_
  refine ok_do (op_move (.inl rfl) (by kernel_rfl) (by kernel_rfl) rfl) rfl rfl ?_
  refine ok_cmp rfl rfl rfl rfl rfl bin_gtr (fun h => ?_) (fun h => ?_)
  · refine ok_nil ?_
    refine ok_kseq ?_
    refine ok_cond_t rfl ?_
    refine ok_seq ?_
    refine ok_region ?_
    refine ok_do (op_move (.inr rfl) (by kernel_rfl) (by kernel_rfl) rfl) rfl rfl ?_
    refine ok_nil ?_
    refine ok_kseq ?_
    refine ok_ret ?_
    refine ok_kseq_ret ?_
    exact fin_int (.inr rfl) rfl ⟨_, rfl⟩
  · refine ok_nil ?_
    refine ok_kseq ?_
    refine ok_cond_f rfl ?_
    refine ok_skipc ?_
    refine ok_kseq ?_
    refine ok_seq ?_
    refine ok_seq ?_
    refine ok_region ?_
    refine ok_do (op_move (.inr rfl) (by kernel_rfl) (by kernel_rfl) rfl) rfl rfl ?_
    refine ok_nil ?_
    refine ok_kseq ?_
    refine ok_block ?_
    refine loop_ok (ts := [1, 2, 5, 6]) (ks := [2]) (fun i σ => ∃ acc fz, σ = ⟨setMany (fun _ => .d .undef) [(1, .d (.int .i64 deep)), (2, .lp 2 0 0), (5, .d (.int .i64 acc)), (6, .d (.int .i64 (i : Int)))], setMany (fun _ => ⟨0, none⟩) [(2, ⟨0, some (.box 59 ([.int .i64 k, .int .i64 a, .bool b1, .list rs, .bool b2, .list ss, .list subs].map .d))⟩)], fz, h0⟩) (by kernel_rfl) (by kernel_rfl) (Nat.lt_of_le_of_lt hmax hf) ⟨_, _, rfl⟩ ?_
    rintro i hi σ ⟨acc, fz, rfl⟩ k' hk hk'
    refine ok_seq ?_
    refine ok_seq ?_
    refine ok_region ?_
    refine ok_do (op_move (.inl rfl) (by kernel_rfl) (by kernel_rfl) rfl) rfl rfl ?_
    refine ok_do (op_fieldL rfl rfl f59_3 (by kernel_rfl) rfl) rfl rfl ?_
    refine ok_do (op_loadL rfl rfl rfl (by kernel_rfl) na57 rfl) rfl rfl ?_
    refine ok_do (op_len rfl rfl rfl rfl l57) rfl rfl ?_
    refine ok_cmp rfl rfl rfl rfl rfl bin_lss (fun h => ?_) (fun h => ?_)
    · have hlt : i < subs.length := by simpa using h
      refine ok_do (op_move (.inl rfl) (by kernel_rfl) (by kernel_rfl) rfl) rfl rfl ?_
      refine ok_do (op_move (.inl rfl) (by kernel_rfl) (by kernel_rfl) rfl) rfl rfl ?_
      refine ok_cmp rfl rfl rfl rfl rfl bin_lss (fun h => ?_) (fun h => ?_)
      · obtain ⟨zs, hyi, hz⟩ := hsub _ (List.getElem_mem hlt)
        obtain ⟨r, hr⟩ := ih zs (IntKind.i64.wrap (deep + 1)) hz
        obtain ⟨zk, za, zb1, zrs, zb2, zss, zsubs, rfl⟩ := hz.ex
        have hyy : subs[i]? = some (.agg [.int .i64 zk, .int .i64 za, .bool zb1, .list zrs, .bool zb2, .list zss, .list zsubs]) := (List.getElem?_eq_getElem hlt).trans (congrArg some hyi)
        refine ok_do (op_pick rfl rfl rfl) rfl rfl ?_
        refine ok_nil ?_
        refine ok_kseq ?_
        refine ok_cond_t rfl ?_
        refine ok_skipc ?_
        refine ok_kseq ?_
        refine ok_seq ?_
        refine ok_block ?_
        refine ok_region ?_
        refine ok_do (op_move (.inl rfl) (by kernel_rfl) (by kernel_rfl) rfl) rfl rfl ?_
        refine ok_do (op_fieldL rfl rfl f59_3 (by kernel_rfl) rfl) rfl rfl ?_
        refine ok_do (op_loadL rfl rfl rfl (by kernel_rfl) na57 rfl) rfl rfl ?_
        refine ok_do (op_move (.inl rfl) (by kernel_rfl) (by kernel_rfl) rfl) rfl rfl ?_
        refine ok_do (op_index rfl rfl rfl a57 e57 hyy ⟨rfl, s59.symm⟩) rfl rfl ?_
        refine ok_do (op_loadIA rfl rfl (by kernel_rfl) ag59 s59 rfl rfl) rfl rfl ?_
        refine ok_do (op_move (.inl rfl) (by kernel_rfl) (by kernel_rfl) rfl) rfl rfl ?_
        refine ok_do (op_bin rfl rfl rfl bin_add) rfl rfl ?_
        refine ok_call rfl rfl rfl rfl rfl (by kernel_rfl) rfl hr (by simp) ?_
        refine ok_do (op_max2 rfl rfl rfl rfl rfl) rfl rfl ?_
        refine ok_do (op_move (.inr rfl) (by kernel_rfl) (by kernel_rfl) rfl) rfl rfl ?_
        refine ok_nil ?_
        refine ok_kblock ?_
        refine ok_kseq ?_
        refine ok_region ?_
        refine ok_do (op_move (.inl rfl) (by kernel_rfl) (by kernel_rfl) rfl) rfl rfl ?_
        refine ok_do (op_bin rfl rfl rfl bin_add) rfl rfl ?_
        refine ok_do (op_move (.inr rfl) (by kernel_rfl) (by kernel_rfl) rfl) rfl rfl ?_
        refine ok_nil ?_
        refine hk hlt _ ?_
        show ∃ _ _, _
        rw [← wrap_succ hlt hmax]
        exact ⟨_, _, rfl⟩
      · refine ok_do (op_pick rfl rfl rfl) rfl rfl ?_
        refine ok_nil ?_
        refine ok_kseq ?_
        refine ok_cond_f rfl ?_
        refine ok_exit ?_
        refine ok_kseq_exit ?_
        refine hk' _ _ (by simp) ?_
        refine ok_kblock_here ?_
        refine ok_kseq ?_
        refine ok_seq ?_
        refine ok_region ?_
        refine ok_do (op_move (.inl rfl) (by kernel_rfl) (by kernel_rfl) rfl) rfl rfl ?_
        refine ok_do (op_bin rfl rfl rfl bin_add) rfl rfl ?_
        refine ok_do (op_min2 rfl rfl rfl rfl rfl) rfl rfl ?_
        refine ok_do (op_move (.inr rfl) (by kernel_rfl) (by kernel_rfl) rfl) rfl rfl ?_
        refine ok_nil ?_
        refine ok_kseq ?_
        refine ok_ret ?_
        exact fin_int (.inr rfl) rfl ⟨_, rfl⟩
    · refine ok_do (op_move (.inl rfl) (by kernel_rfl) (by kernel_rfl) rfl) rfl rfl ?_
      refine ok_skip rfl rfl ?_
      refine ok_skip rfl rfl ?_
      refine ok_do (op_pick rfl rfl rfl) rfl rfl ?_
      refine ok_nil ?_
      refine ok_kseq ?_
      refine ok_cond_f rfl ?_
      refine ok_exit ?_
      refine ok_kseq_exit ?_
      refine hk' _ _ (by simp) ?_
      refine ok_kblock_here ?_
      refine ok_kseq ?_
      refine ok_seq ?_
      refine ok_region ?_
      refine ok_do (op_move (.inl rfl) (by kernel_rfl) (by kernel_rfl) rfl) rfl rfl ?_
      refine ok_do (op_bin rfl rfl rfl bin_add) rfl rfl ?_
      refine ok_do (op_min2 rfl rfl rfl rfl rfl) rfl rfl ?_
      refine ok_do (op_move (.inr rfl) (by kernel_rfl) (by kernel_rfl) rfl) rfl rfl ?_
      refine ok_nil ?_
      refine ok_kseq ?_
      refine ok_ret ?_
      exact fin_int (.inr rfl) rfl ⟨_, rfl⟩

set_option maxHeartbeats 4000000 in
theorem few18 {call : CallF} {fuel n : Nat} {xs : List D} (hx : XS n xs) (h70 : ∃ b, call 70 [.agg xs, .int .i64 0] h0 = some ⟨.int .i64 b, h0⟩) (h71 : ∃ b, call 71 [.agg xs, .int .i64 0] h0 = some ⟨.int .i64 b, h0⟩) (h72 : ∃ b, call 72 [.agg xs] h0 = some ⟨.bool b, h0⟩) :
    Ok (enter cfg fuel call 18 [.agg xs] h0) fun R => ∃ b, R = ⟨.bool b, h0⟩ := by
  obtain ⟨k, a, b1, rs, b2, ss, subs, rfl⟩ := hx.ex
  obtain ⟨c1, hc1⟩ := h70
  obtain ⟨c2, hc2⟩ := h71
  obtain ⟨c3, hc3⟩ := h72
  refine enter_of (fn := Tryz.f18) (by kernel_rfl) Tryz.func18 rfl ?_
  refine ok_seq ?_
  refine ok_region ?_
  refine ok_box rfl rfl rfl rfl rfl (by kernel_rfl) rfl rfl ?_
  refine ok_do (op_move (.inr rfl) (by kernel_rfl) (by kernel_rfl) rfl) rfl rfl ?_
  refine ok_nil ?_
  refine ok_kseq ?_
  refine ok_seq ?_
  refine ok_seq ?_
  refine ok_region ?_
  refine ok_do (op_loadLA rfl rfl rfl (by kernel_rfl) ag59 s59 rfl rfl) rfl rfl ?_
  refine ok_call rfl rfl rfl rfl rfl (by kernel_rfl) rfl hc1 (by simp) ?_
  refine ok_cmp rfl rfl rfl rfl rfl bin_geq (fun h => ?_) (fun h => ?_)
  · refine ok_do (op_move (.inl rfl) (by kernel_rfl) (by kernel_rfl) rfl) rfl rfl ?_
    refine ok_skip rfl rfl ?_
    refine ok_skip rfl rfl ?_
    refine ok_skip rfl rfl ?_
    refine ok_do (op_pick rfl rfl rfl) rfl rfl ?_
    refine ok_nil ?_
    refine ok_kseq ?_
    refine ok_cond_t rfl ?_
    refine ok_seq ?_
    refine ok_region ?_
    refine ok_do (op_move (.inr rfl) (by kernel_rfl) (by kernel_rfl) rfl) rfl rfl ?_
    refine ok_nil ?_
    refine ok_kseq ?_
    refine ok_ret ?_
    refine ok_kseq_ret ?_
    exact fin_ok (.inr rfl) rfl ⟨_, rfl⟩
  · refine ok_do (op_move (.inl rfl) (by kernel_rfl) (by kernel_rfl) rfl) rfl rfl ?_
    refine ok_do (op_loadLA rfl rfl rfl (by kernel_rfl) ag59 s59 rfl rfl) rfl rfl ?_
    refine ok_call rfl rfl rfl rfl rfl (by kernel_rfl) rfl hc2 (by simp) ?_
    refine ok_cmp rfl rfl rfl rfl rfl bin_geq (fun h => ?_) (fun h => ?_)
    · refine ok_do (op_pick rfl rfl rfl) rfl rfl ?_
      refine ok_nil ?_
      refine ok_kseq ?_
      refine ok_cond_t rfl ?_
      refine ok_seq ?_
      refine ok_region ?_
      refine ok_do (op_move (.inr rfl) (by kernel_rfl) (by kernel_rfl) rfl) rfl rfl ?_
      refine ok_nil ?_
      refine ok_kseq ?_
      refine ok_ret ?_
      refine ok_kseq_ret ?_
      exact fin_ok (.inr rfl) rfl ⟨_, rfl⟩
    · refine ok_do (op_pick rfl rfl rfl) rfl rfl ?_
      refine ok_nil ?_
      refine ok_kseq ?_
      refine ok_cond_f rfl ?_
      refine ok_skipc ?_
      refine ok_kseq ?_
      refine ok_seq ?_
      refine ok_region ?_
      refine ok_do (op_loadLA rfl rfl rfl (by kernel_rfl) ag59 s59 rfl rfl) rfl rfl ?_
      refine ok_call rfl rfl rfl rfl rfl (by kernel_rfl) rfl hc3 (by simp) ?_
      refine ok_do (op_move (.inr rfl) (by kernel_rfl) (by kernel_rfl) rfl) rfl rfl ?_
      refine ok_nil ?_
      refine ok_kseq ?_
      refine ok_ret ?_
      exact fin_ok (.inr rfl) rfl ⟨_, rfl⟩
end Go.Proofs.AeT

/- OverlayNil: the guard of the statement comes to some answer, whatever the operation is. (Written by mkfew.py out of On.tpl.) -/
namespace Go.Proofs.AeT
open Go Go.AE Go.Proofs

/-- A header without brokers, clients. -/
def H4 : List D := [.list [], .list [], .int .i64 0, .int .u64 0]

set_option maxHeartbeats 4000000 in
theorem few30 {call : CallF} {fuel : Nat} {g0 g1 g2 g3 g4 k a : Int} {b1 b2 : Bool} {rs ss subs : List D} {k0 n0 k1 n1 k2 n2 k3 n3 : Int} {s0 s1 s2 s3 : ByteArray} {r : Bool} (hf : 1 < fuel)
    (h18 : call 18 [.agg [.int .i64 k, .int .i64 a, .bool b1, .list rs, .bool b2, .list ss, .list subs]] h0 = some ⟨.bool r, h0⟩) (h86 : call 86 [.agg H4] h0 = some ⟨.bool true, h0⟩) :
    Ok (enter cfg fuel call 30 [.agg H4, .list [.agg [.int .i64 g0, .int .i64 g1, .int .i64 g2, .int .i64 g3, .int .i64 g4, .int .i64 k, .int .i64 a, .bool b1, .list rs, .bool b2, .list ss, .list subs, .int .i64 k0, .int .i64 n0, .str s0, .int .i64 k1, .int .i64 n1, .str s1, .int .i64 k2, .int .i64 n2, .str s2, .int .i64 k3, .int .i64 n3, .str s3]]] h0) fun R => ∃ b, R = ⟨.bool b, h0⟩ := by
  refine enter_of (fn := Tryz.f30) (by kernel_rfl) Tryz.func30 rfl ?_
  refine ok_seq ?_
  refine ok_region ?_
  refine ok_box rfl rfl rfl rfl rfl (by kernel_rfl) rfl rfl ?_
  refine ok_do (op_move (.inr rfl) (by kernel_rfl) (by kernel_rfl) rfl) rfl rfl ?_
  refine ok_nil ?_
  refine ok_kseq ?_
  refine ok_seq ?_
  refine ok_region ?_
  refine ok_do (op_move (.inr rfl) (by kernel_rfl) (by kernel_rfl) rfl) rfl rfl ?_
  refine ok_nil ?_
  refine ok_kseq ?_
  refine ok_seq ?_
  refine ok_seq ?_
  refine ok_region ?_
  refine ok_do (op_move (.inr rfl) (by kernel_rfl) (by kernel_rfl) rfl) rfl rfl ?_
  refine ok_nil ?_
  refine ok_kseq ?_
  refine ok_block ?_
  refine loop_ok (n := 1) (ts := [1, 2, 5, 6]) (ks := [2]) (fun i σ => ∃ acc fz, σ = ⟨setMany (fun _ => .d .undef) [(1, .d (.list [.agg [.int .i64 g0, .int .i64 g1, .int .i64 g2, .int .i64 g3, .int .i64 g4, .int .i64 k, .int .i64 a, .bool b1, .list rs, .bool b2, .list ss, .list subs, .int .i64 k0, .int .i64 n0, .str s0, .int .i64 k1, .int .i64 n1, .str s1, .int .i64 k2, .int .i64 n2, .str s2, .int .i64 k3, .int .i64 n3, .str s3]])), (2, .lp 2 0 0), (5, .d (.int .i64 acc)), (6, .d (.int .i64 (i : Int)))], setMany (fun _ => ⟨0, none⟩) [(2, ⟨0, some (.box 85 (H4.map .d))⟩)], fz, h0⟩) (by kernel_rfl) (by kernel_rfl) hf ⟨_, _, rfl⟩ ?_
  rintro i hi σ ⟨acc, fz, rfl⟩ k' hk hk'
  refine ok_seq ?_
  refine ok_seq ?_
  refine ok_region ?_
  refine ok_do (op_move (.inl rfl) (by kernel_rfl) (by kernel_rfl) rfl) rfl rfl ?_
  refine ok_do (op_move (.inl rfl) (by kernel_rfl) (by kernel_rfl) rfl) rfl rfl ?_
  refine ok_do (op_len rfl rfl rfl rfl l86) rfl rfl ?_
  refine ok_cmp rfl rfl rfl rfl rfl bin_lss (fun h => ?_) (fun h => ?_)
  · have hlt : i < 1 := by have := of_decide_eq_true h; simp at this; omega
    have hyy : [(.agg [.int .i64 g0, .int .i64 g1, .int .i64 g2, .int .i64 g3, .int .i64 g4, .int .i64 k, .int .i64 a, .bool b1, .list rs, .bool b2, .list ss, .list subs, .int .i64 k0, .int .i64 n0, .str s0, .int .i64 k1, .int .i64 n1, .str s1, .int .i64 k2, .int .i64 n2, .str s2, .int .i64 k3, .int .i64 n3, .str s3] : D)][i]? = some (.agg [.int .i64 g0, .int .i64 g1, .int .i64 g2, .int .i64 g3, .int .i64 g4, .int .i64 k, .int .i64 a, .bool b1, .list rs, .bool b2, .list ss, .list subs, .int .i64 k0, .int .i64 n0, .str s0, .int .i64 k1, .int .i64 n1, .str s1, .int .i64 k2, .int .i64 n2, .str s2, .int .i64 k3, .int .i64 n3, .str s3]) := by
      obtain rfl : i = 0 := by omega
      rfl
    refine ok_nil ?_
    refine ok_kseq ?_
    refine ok_cond_t rfl ?_
    refine ok_skipc ?_
    refine ok_kseq ?_
    refine ok_seq ?_
    refine ok_block ?_
    refine ok_seq ?_
    refine ok_region ?_
    refine ok_do (op_move (.inl rfl) (by kernel_rfl) (by kernel_rfl) rfl) rfl rfl ?_
    refine ok_do (op_move (.inl rfl) (by kernel_rfl) (by kernel_rfl) rfl) rfl rfl ?_
    refine ok_do (op_index rfl rfl rfl a86 e86 hyy ⟨rfl, s82.symm⟩) rfl rfl ?_
    refine ok_do (op_loadIA rfl rfl (by kernel_rfl) ag82 s82 rfl rfl) rfl rfl ?_
    refine ok_alloc rfl rfl zc82 (by kernel_rfl) (by kernel_rfl) rfl rfl ?_
    refine ok_storeW rfl rfl rfl rfl rfl s82 rfl rfl rfl rfl rfl rfl ?_
    refine ok_nil ?_
    refine ok_kseq ?_
    refine ok_seq ?_
    refine ok_seq ?_
    refine ok_region ?_
    refine ok_do (op_fieldL rfl rfl f82_5 (by kernel_rfl) rfl) rfl rfl ?_
    refine ok_do (op_loadLA rfl rfl rfl (by kernel_rfl) ag59 s59 rfl rfl) rfl rfl ?_
    refine ok_call rfl rfl rfl rfl rfl (by kernel_rfl) rfl h18 (by simp) ?_
    cases r
    · refine ok_do (op_not rfl rfl) rfl rfl ?_
      refine ok_do (op_move (.inl rfl) (by kernel_rfl) (by kernel_rfl) rfl) rfl rfl ?_
      refine ok_skip rfl rfl ?_
      refine ok_skip rfl rfl ?_
      refine ok_skip rfl rfl ?_
      refine ok_skip rfl rfl ?_
      refine ok_skip rfl rfl ?_
      refine ok_skip rfl rfl ?_
      refine ok_skip rfl rfl ?_
      refine ok_skip rfl rfl ?_
      refine ok_skip rfl rfl ?_
      refine ok_skip rfl rfl ?_
      refine ok_skip rfl rfl ?_
      refine ok_skip rfl rfl ?_
      refine ok_skip rfl rfl ?_
      refine ok_skip rfl rfl ?_
      refine ok_skip rfl rfl ?_
      refine ok_skip rfl rfl ?_
      refine ok_skip rfl rfl ?_
      refine ok_skip rfl rfl ?_
      refine ok_skip rfl rfl ?_
      refine ok_skip rfl rfl ?_
      refine ok_skip rfl rfl ?_
      refine ok_skip rfl rfl ?_
      refine ok_skip rfl rfl ?_
      refine ok_skip rfl rfl ?_
      refine ok_do (op_pick rfl rfl rfl) rfl rfl ?_
      refine ok_nil ?_
      refine ok_kseq ?_
      refine ok_cond_t rfl ?_
      refine ok_seq ?_
      refine ok_region ?_
      refine ok_do (op_move (.inr rfl) (by kernel_rfl) (by kernel_rfl) rfl) rfl rfl ?_
      refine ok_nil ?_
      refine ok_kseq ?_
      refine ok_ret ?_
      refine ok_kseq_ret ?_
      refine ok_kblock_ret ?_
      refine ok_kseq_ret ?_
      refine hk' _ _ (by simp) ?_
      refine ok_kblock_ret ?_
      refine ok_kseq_ret ?_
      exact fin_ok (.inr rfl) rfl ⟨_, rfl⟩
    · refine ok_do (op_not rfl rfl) rfl rfl ?_
      refine ok_do (op_move (.inl rfl) (by kernel_rfl) (by kernel_rfl) rfl) rfl rfl ?_
      refine ok_do (op_fieldL rfl rfl f82_6 (by kernel_rfl) rfl) rfl rfl ?_
      refine ok_do (op_indexL (i := 0) rfl rfl rfl a27 rfl s25 rfl) rfl rfl ?_
      refine ok_do (op_fieldL rfl rfl f25_2 (by kernel_rfl) rfl) rfl rfl ?_
      refine ok_do (op_loadL rfl rfl rfl (by kernel_rfl) na9 rfl) rfl rfl ?_
      refine ok_do (op_lenS rfl rfl rfl rfl ⟨rfl, (by kernel_rfl)⟩) rfl rfl ?_
      refine ok_do (op_fieldL rfl rfl f82_6 (by kernel_rfl) rfl) rfl rfl ?_
      refine ok_do (op_indexL (i := 1) rfl rfl rfl a27 rfl s25 rfl) rfl rfl ?_
      refine ok_do (op_fieldL rfl rfl f25_2 (by kernel_rfl) rfl) rfl rfl ?_
      refine ok_do (op_loadL rfl rfl rfl (by kernel_rfl) na9 rfl) rfl rfl ?_
      refine ok_do (op_lenS rfl rfl rfl rfl ⟨rfl, (by kernel_rfl)⟩) rfl rfl ?_
      refine ok_do (op_bin rfl rfl rfl bin_add) rfl rfl ?_
      refine ok_do (op_fieldL rfl rfl f82_6 (by kernel_rfl) rfl) rfl rfl ?_
      refine ok_do (op_indexL (i := 2) rfl rfl rfl a27 rfl s25 rfl) rfl rfl ?_
      refine ok_do (op_fieldL rfl rfl f25_2 (by kernel_rfl) rfl) rfl rfl ?_
      refine ok_do (op_loadL rfl rfl rfl (by kernel_rfl) na9 rfl) rfl rfl ?_
      refine ok_do (op_lenS rfl rfl rfl rfl ⟨rfl, (by kernel_rfl)⟩) rfl rfl ?_
      refine ok_do (op_bin rfl rfl rfl bin_add) rfl rfl ?_
      refine ok_do (op_fieldL rfl rfl f82_6 (by kernel_rfl) rfl) rfl rfl ?_
      refine ok_do (op_indexL (i := 3) rfl rfl rfl a27 rfl s25 rfl) rfl rfl ?_
      refine ok_do (op_fieldL rfl rfl f25_2 (by kernel_rfl) rfl) rfl rfl ?_
      refine ok_do (op_loadL rfl rfl rfl (by kernel_rfl) na9 rfl) rfl rfl ?_
      refine ok_do (op_lenS rfl rfl rfl rfl ⟨rfl, (by kernel_rfl)⟩) rfl rfl ?_
      refine ok_do (op_bin rfl rfl rfl bin_add) rfl rfl ?_
      refine ok_cmp rfl rfl rfl rfl rfl bin_gtr (fun h => ?_) (fun h => ?_)
      · refine ok_do (op_pick rfl rfl rfl) rfl rfl ?_
        refine ok_nil ?_
        refine ok_kseq ?_
        refine ok_cond_t rfl ?_
        refine ok_seq ?_
        refine ok_region ?_
        refine ok_do (op_move (.inr rfl) (by kernel_rfl) (by kernel_rfl) rfl) rfl rfl ?_
        refine ok_nil ?_
        refine ok_kseq ?_
        refine ok_ret ?_
        refine ok_kseq_ret ?_
        refine ok_kblock_ret ?_
        refine ok_kseq_ret ?_
        refine hk' _ _ (by simp) ?_
        refine ok_kblock_ret ?_
        refine ok_kseq_ret ?_
        exact fin_ok (.inr rfl) rfl ⟨_, rfl⟩
      · refine ok_do (op_pick rfl rfl rfl) rfl rfl ?_
        refine ok_nil ?_
        refine ok_kseq ?_
        refine ok_cond_f rfl ?_
        refine ok_skipc ?_
        refine ok_kseq ?_
        refine ok_seq ?_
        refine ok_region ?_
        refine ok_do (op_fieldL rfl rfl f82_0 (by kernel_rfl) rfl) rfl rfl ?_
        refine ok_do (op_loadL rfl rfl rfl (by kernel_rfl) na3 rfl) rfl rfl ?_
        refine ok_cmp rfl rfl rfl rfl rfl bin_eql (fun h => ?_) (fun h => ?_)
        · refine ok_nil ?_
          refine ok_kseq ?_
          refine ok_cond_t rfl ?_
          refine ok_region ?_
          refine ok_do (op_move (.inl rfl) (by kernel_rfl) (by kernel_rfl) rfl) rfl rfl ?_
          refine ok_do (op_bin rfl rfl rfl bin_add) rfl rfl ?_
          refine ok_do (op_move (.inr rfl) (by kernel_rfl) (by kernel_rfl) rfl) rfl rfl ?_
          refine ok_nil ?_
          refine ok_kblock ?_
          refine ok_kseq ?_
          refine ok_region ?_
          refine ok_do (op_move (.inl rfl) (by kernel_rfl) (by kernel_rfl) rfl) rfl rfl ?_
          refine ok_do (op_bin rfl rfl rfl bin_add) rfl rfl ?_
          refine ok_do (op_move (.inr rfl) (by kernel_rfl) (by kernel_rfl) rfl) rfl rfl ?_
          refine ok_nil ?_
          refine hk hlt _ ?_
          show ∃ _ _, _
          rw [← wrap_succ (n := 1) hlt (by decide)]
          exact ⟨_, _, rfl⟩
        · refine ok_nil ?_
          refine ok_kseq ?_
          refine ok_cond_f rfl ?_
          refine ok_skipc ?_
          refine ok_kblock ?_
          refine ok_kseq ?_
          refine ok_region ?_
          refine ok_do (op_move (.inl rfl) (by kernel_rfl) (by kernel_rfl) rfl) rfl rfl ?_
          refine ok_do (op_bin rfl rfl rfl bin_add) rfl rfl ?_
          refine ok_do (op_move (.inr rfl) (by kernel_rfl) (by kernel_rfl) rfl) rfl rfl ?_
          refine ok_nil ?_
          refine hk hlt _ ?_
          show ∃ _ _, _
          rw [← wrap_succ (n := 1) hlt (by decide)]
          exact ⟨_, _, rfl⟩
  · refine ok_nil ?_
    refine ok_kseq ?_
    refine ok_cond_f rfl ?_
    refine ok_exit ?_
    refine ok_kseq_exit ?_
    refine hk' _ _ (by simp) ?_
    refine ok_kblock_here ?_
    refine ok_kseq ?_
    refine ok_seq ?_
    refine ok_region ?_
    refine ok_do (op_loadLA rfl rfl rfl (by kernel_rfl) ag85 s85 rfl rfl) rfl rfl ?_
    refine ok_call rfl rfl rfl rfl rfl (by kernel_rfl) rfl h86 (by simp) ?_
    refine ok_do (op_move (.inl rfl) (by kernel_rfl) (by kernel_rfl) rfl) rfl rfl ?_
    refine ok_do (op_move (.inl rfl) (by kernel_rfl) (by kernel_rfl) rfl) rfl rfl ?_
    refine ok_cmp rfl rfl rfl rfl rfl bin_leq (fun h => ?_) (fun h => ?_)
    · refine ok_do (op_pick rfl rfl rfl) rfl rfl ?_
      refine ok_do (op_move (.inl rfl) (by kernel_rfl) (by kernel_rfl) rfl) rfl rfl ?_
      refine ok_do (op_move (.inl rfl) (by kernel_rfl) (by kernel_rfl) rfl) rfl rfl ?_
      refine ok_do (op_len rfl rfl rfl rfl l86) rfl rfl ?_
      refine ok_cmp rfl rfl rfl rfl rfl bin_leq (fun h => ?_) (fun h => ?_)
      · refine ok_do (op_pick rfl rfl rfl) rfl rfl ?_
        refine ok_do (op_move (.inr rfl) (by kernel_rfl) (by kernel_rfl) rfl) rfl rfl ?_
        refine ok_nil ?_
        refine ok_kseq ?_
        refine ok_ret ?_
        exact fin_ok (.inr rfl) rfl ⟨_, rfl⟩
      · refine ok_do (op_pick rfl rfl rfl) rfl rfl ?_
        refine ok_do (op_move (.inr rfl) (by kernel_rfl) (by kernel_rfl) rfl) rfl rfl ?_
        refine ok_nil ?_
        refine ok_kseq ?_
        refine ok_ret ?_
        exact fin_ok (.inr rfl) rfl ⟨_, rfl⟩
    · refine ok_do (op_pick rfl rfl rfl) rfl rfl ?_
      refine ok_do (op_move (.inl rfl) (by kernel_rfl) (by kernel_rfl) rfl) rfl rfl ?_
      refine ok_skip rfl rfl ?_
      refine ok_skip rfl rfl ?_
      refine ok_skip rfl rfl ?_
      refine ok_do (op_pick rfl rfl rfl) rfl rfl ?_
      refine ok_do (op_move (.inr rfl) (by kernel_rfl) (by kernel_rfl) rfl) rfl rfl ?_
      refine ok_nil ?_
      refine ok_kseq ?_
      refine ok_ret ?_
      exact fin_ok (.inr rfl) rfl ⟨_, rfl⟩
end Go.Proofs.AeT

/- BrokerNil: at every operation the interpreter says true, if awake says so. (Written by mkfew.py.) -/
namespace Go.Proofs.AeT
open Go Go.AE Go.Proofs

/-- What is asked of awake alone. -/
noncomputable def T17 : List Ent := [⟨17, [], .bool true⟩]
noncomputable abbrev callA (fuel d : Nat) : CallF := runM cfg T17 fuel d

theorem callA_enter {fuel d g : Nat} {args : List D} (hg : Nat.beq 17 g = false) : callA fuel (d + 1) g args h0 = enter cfg fuel (callA fuel d) g args h0 := by
  show memo T17 (enter cfg fuel (runM cfg T17 fuel d)) g args h0 = _
  unfold memo
  have : pick g T17 = [] := by
    show cond (Nat.beq 17 g) _ _ = _
    rw [hg]; rfl
  rw [this]
  rfl

theorem callA_17 {fuel d : Nat} : callA fuel (d + 1) 17 [] h0 = some ⟨.bool true, h0⟩ := rfl

theorem of_ok {fuel d g : Nat} {args : List D} (hg : Nat.beq 17 g = false) (h : Ok (enter cfg fuel (callA fuel d) g args h0) fun R => ∃ b, R = ⟨.bool b, h0⟩) : ∃ b, callA fuel (d + 1) g args h0 = some ⟨.bool b, h0⟩ := by
  obtain ⟨_, h1, b, rfl⟩ := h
  exact ⟨b, (callA_enter hg).trans h1⟩
theorem of_okI {fuel d g : Nat} {args : List D} (hg : Nat.beq 17 g = false) (h : Ok (enter cfg fuel (callA fuel d) g args h0) fun R => ∃ b, R = ⟨.int .i64 b, h0⟩) : ∃ b, callA fuel (d + 1) g args h0 = some ⟨.int .i64 b, h0⟩ := by
  obtain ⟨_, h1, b, rfl⟩ := h
  exact ⟨b, (callA_enter hg).trans h1⟩

section
variable {fuel : Nat} (hf : maxLen < fuel)
  include hf
theorem c121 (d : Nat) (ls : List D) (h : ∀ y ∈ ls, SetY y) (hm : ls.length ≤ maxLen) : ∃ b, callA fuel (d + 1) 121 [.list ls] h0 = some ⟨.bool b, h0⟩ := of_ok rfl (few121 h hf hm)
theorem c136 (d : Nat) (bs : List D) (h : ∀ y ∈ bs, BoxY y) (hm : bs.length ≤ maxLen) : ∃ b, callA fuel (d + 2) 136 [.list bs] h0 = some ⟨.bool b, h0⟩ := of_ok rfl (few136 h hf hm (c121 hf d))
theorem c100 (d : Nat) (bs : List D) (h : ∀ y ∈ bs, BoxY y) (hm : bs.length ≤ maxLen) : ∃ b, callA fuel (d + 3) 100 [.list bs] h0 = some ⟨.bool b, h0⟩ := of_ok rfl (few100 (c136 hf d bs h hm))
/-- An entry of a table. -/
def EntY (y : D) : Prop := ∃ n bs m, y = .agg [n, .list bs, m] ∧ (∀ y ∈ bs, BoxY y) ∧ bs.length ≤ maxLen
theorem c45 (d : Nat) (es : List D) (h : ∀ y ∈ es, EntY y) (hm : es.length ≤ maxLen) : ∃ b, callA fuel (d + 4) 45 [.list es] h0 = some ⟨.bool b, h0⟩ := by
  refine of_ok rfl (few45 (fun y hy => ?_) (Nat.lt_of_le_of_lt hm hf) hm)
  obtain ⟨n, bs, m, h1, h2, h3⟩ := h y hy
  exact ⟨n, bs, m, h1, c100 hf d bs h2 h3⟩
theorem c72 : ∀ (n d : Nat) (xs : List D), XS n xs → ∃ b, callA fuel (n + d + 1) 72 [.agg xs] h0 = some ⟨.bool b, h0⟩
  | 0, _, _, h => h.elim
  | n + 1, d, xs, h => by
    rw [show n + 1 + d + 1 = (n + d + 1) + 1 by omega]
    exact of_ok rfl (few72 h hf (fun ls h1 h2 => c121 hf (n + d) ls h1 h2) fun zs hz => c72 n d zs hz)
theorem c70 : ∀ (n d : Nat) (xs : List D) (i : Int), XS n xs → ∃ b, callA fuel (n + d) 70 [.agg xs, .int .i64 i] h0 = some ⟨.int .i64 b, h0⟩
  | 0, _, _, _, h => h.elim
  | n + 1, d, xs, i, h => by
    rw [show n + 1 + d = (n + d) + 1 by omega]
    exact of_okI rfl (few70 h hf fun zs j hz => c70 n d zs j hz)
theorem c71 : ∀ (n d : Nat) (xs : List D) (i : Int), XS n xs → ∃ b, callA fuel (n + d) 71 [.agg xs, .int .i64 i] h0 = some ⟨.int .i64 b, h0⟩
  | 0, _, _, _, h => h.elim
  | n + 1, d, xs, i, h => by
    rw [show n + 1 + d = (n + d) + 1 by omega]
    exact of_okI rfl (few71 h hf fun zs j hz => c71 n d zs j hz)
theorem c18 (n d : Nat) (xs : List D) (h : XS n xs) : ∃ b, callA fuel (n + d + 2) 18 [.agg xs] h0 = some ⟨.bool b, h0⟩ :=
  of_ok rfl (few18 h (c70 hf n (d + 1) xs 0 h) (c71 hf n (d + 1) xs 0 h) (c72 hf n d xs h))
end

set_option maxHeartbeats 4000000 in
/-- The statement's own text. -/
theorem main4 {fuel d : Nat} {g0 g1 g2 g3 : Int} {k a : Int} {b1 b2 : Bool} {rs ss subs : List D} {ek0 en0 ek1 en1 ek2 en2 ek3 en3 : Int} {et0 et1 et2 et3 : ByteArray} {p0 : Bool} {es rm : List D} {q0 q1 k0 n0 k1 n1 k2 n2 k3 n3 : Int} {s0 s1 s2 s3 : ByteArray}
    (h18 : ∃ b, callA fuel (d + 4) 18 [.agg [.int .i64 k, .int .i64 a, .bool b1, .list rs, .bool b2, .list ss, .list subs]] h0 = some ⟨.bool b, h0⟩)
    (h19 : ∃ b, callA fuel (d + 4) 19 [.agg [.bool p0, .list es, .list rm, .int .i64 q0, .int .i64 q1, .int .i64 k0, .int .i64 n0, .str s0, .int .i64 k1, .int .i64 n1, .str s1, .int .i64 k2, .int .i64 n2, .str s2, .int .i64 k3, .int .i64 n3, .str s3]] h0 = some ⟨.bool b, h0⟩) :
    Ok (enter cfg fuel (callA fuel (d + 4)) 4 [.agg [.int .i64 g0, .int .i64 g1, .int .i64 g2, .int .i64 g3, .int .i64 k, .int .i64 a, .bool b1, .list rs, .bool b2, .list ss, .list subs, .int .i64 ek0, .int .i64 en0, .str et0, .int .i64 ek1, .int .i64 en1, .str et1, .int .i64 ek2, .int .i64 en2, .str et2, .int .i64 ek3, .int .i64 en3, .str et3, .bool p0, .list es, .list rm, .int .i64 q0, .int .i64 q1, .int .i64 k0, .int .i64 n0, .str s0, .int .i64 k1, .int .i64 n1, .str s1, .int .i64 k2, .int .i64 n2, .str s2, .int .i64 k3, .int .i64 n3, .str s3]] h0) fun R => ∃ b, R = ⟨.bool b, h0⟩ ∧ b = true := by
  refine enter_of (fn := Tryz.f4) (by kernel_rfl) Tryz.func4 rfl ?_
  obtain ⟨r8, h18⟩ := h18
  obtain ⟨r9, h19⟩ := h19
  refine ok_seq ?_
  refine ok_region ?_
  refine ok_box rfl rfl rfl rfl rfl (by kernel_rfl) rfl rfl ?_
  refine ok_do (op_move (.inr rfl) (by kernel_rfl) (by kernel_rfl) rfl) rfl rfl ?_
  refine ok_nil ?_
  refine ok_kseq ?_
  refine ok_seq ?_
  refine ok_seq ?_
  refine ok_region ?_
  refine ok_call rfl rfl rfl rfl rfl (by kernel_rfl) rfl callA_17 (by simp) ?_
  refine ok_do (op_not rfl rfl) rfl rfl ?_
  refine ok_do (op_move (.inl rfl) (by kernel_rfl) (by kernel_rfl) rfl) rfl rfl ?_
  refine ok_do (op_fieldL rfl rfl f65_4 (by kernel_rfl) rfl) rfl rfl ?_
  refine ok_do (op_loadLA rfl rfl rfl (by kernel_rfl) ag59 s59 rfl rfl) rfl rfl ?_
  refine ok_call rfl rfl rfl rfl rfl (by kernel_rfl) rfl h18 (by simp) ?_
  cases r8
  · refine ok_do (op_not rfl rfl) rfl rfl ?_
    refine ok_do (op_pick rfl rfl rfl) rfl rfl ?_
    refine ok_do (op_move (.inl rfl) (by kernel_rfl) (by kernel_rfl) rfl) rfl rfl ?_
    refine ok_skip rfl rfl ?_
    refine ok_skip rfl rfl ?_
    refine ok_skip rfl rfl ?_
    refine ok_skip rfl rfl ?_
    refine ok_do (op_pick rfl rfl rfl) rfl rfl ?_
    refine ok_nil ?_
    refine ok_kseq ?_
    refine ok_cond_t rfl ?_
    refine ok_seq ?_
    refine ok_region ?_
    refine ok_call rfl rfl rfl rfl rfl (by kernel_rfl) rfl callA_17 (by simp) ?_
    refine ok_do (op_move (.inr rfl) (by kernel_rfl) (by kernel_rfl) rfl) rfl rfl ?_
    refine ok_nil ?_
    refine ok_kseq ?_
    refine ok_ret ?_
    refine ok_kseq_ret ?_
    exact fin_ok (.inr rfl) rfl ⟨_, rfl, rfl⟩
  · refine ok_do (op_not rfl rfl) rfl rfl ?_
    refine ok_do (op_pick rfl rfl rfl) rfl rfl ?_
    refine ok_do (op_move (.inl rfl) (by kernel_rfl) (by kernel_rfl) rfl) rfl rfl ?_
    refine ok_do (op_fieldL rfl rfl f65_6 (by kernel_rfl) rfl) rfl rfl ?_
    refine ok_do (op_loadLA rfl rfl rfl (by kernel_rfl) ag63 s63 rfl rfl) rfl rfl ?_
    refine ok_call rfl rfl rfl rfl rfl (by kernel_rfl) rfl h19 (by simp) ?_
    cases r9
    · refine ok_do (op_not rfl rfl) rfl rfl ?_
      refine ok_do (op_pick rfl rfl rfl) rfl rfl ?_
      refine ok_nil ?_
      refine ok_kseq ?_
      refine ok_cond_t rfl ?_
      refine ok_seq ?_
      refine ok_region ?_
      refine ok_call rfl rfl rfl rfl rfl (by kernel_rfl) rfl callA_17 (by simp) ?_
      refine ok_do (op_move (.inr rfl) (by kernel_rfl) (by kernel_rfl) rfl) rfl rfl ?_
      refine ok_nil ?_
      refine ok_kseq ?_
      refine ok_ret ?_
      refine ok_kseq_ret ?_
      exact fin_ok (.inr rfl) rfl ⟨_, rfl, rfl⟩
    · refine ⟨⟨.bool true, h0⟩, by kernel_rfl, _, rfl, rfl⟩
end Go.Proofs.AeT

/- BrokerNil: an operation's cells. -/
namespace Go.Proofs.AeT
open Go Go.AE Go.Proofs

section
variable {P : Program} {n : Nat} {t : TypeId} {xs : List D}
theorem shp_int {k : IntKind} (hu : P.underlying t = some (.int k)) (h : Shp P (n + 1) t xs) : ∃ i, xs = [.int k i] := by
  unfold Shp at h; rw [hu] at h; exact ⟨h.choose, h.choose_spec.1⟩
theorem shp_bool (hu : P.underlying t = some .bool) (h : Shp P (n + 1) t xs) : ∃ b, xs = [.bool b] := by
  unfold Shp at h; rw [hu] at h; exact h
theorem shp_str (hu : P.underlying t = some .string) (h : Shp P (n + 1) t xs) : ∃ s, xs = [.str s] := by
  unfold Shp at h; rw [hu] at h; exact ⟨h.choose, h.choose_spec.1⟩
theorem shp_list {e : TypeId} (hu : P.underlying t = some (.slice e)) (h : Shp P (n + 1) t xs) : ∃ ys, xs = [.list ys] ∧ ys.length ≤ maxLen ∧ ∀ y ∈ ys, ElShp P (Shp P n) e y := by
  unfold Shp at h; rw [hu] at h; exact h
theorem shp_struct {fs : Array Field} {ts : List TypeId} (hu : P.underlying t = some (.struct fs)) (h : Shp P (n + 1) t xs) (hts : fs.toList.map (·.type) = ts) : Cat (Shp P n) ts xs := by
  unfold Shp at h; rw [hu] at h; rw [← hts]; exact h
theorem shp_arr {m : Nat} {e : TypeId} (hu : P.underlying t = some (.array m e)) (h : Shp P (n + 1) t xs) : Cat (Shp P n) (List.replicate m e) xs := by
  unfold Shp at h; rw [hu] at h; exact h
theorem cat2 {Q : TypeId → List D → Prop} {ta tb : TypeId} {xs : List D} (h : Cat Q [ta, tb] xs) : ∃ a b, xs = a ++ (b ++ []) ∧ Q ta a ∧ Q tb b := by
  simp only [Cat] at h
  obtain ⟨a, _, rfl, ha, b, _, rfl, hb, rfl⟩ := h
  exact ⟨a, b, rfl, ha, hb⟩
theorem cat3 {Q : TypeId → List D → Prop} {ta tb tc : TypeId} {xs : List D} (h : Cat Q [ta, tb, tc] xs) : ∃ a b c, xs = a ++ (b ++ (c ++ [])) ∧ Q ta a ∧ Q tb b ∧ Q tc c := by
  simp only [Cat] at h
  obtain ⟨a, _, rfl, ha, b, _, rfl, hb, c, _, rfl, hc, rfl⟩ := h
  exact ⟨a, b, c, rfl, ha, hb, hc⟩
theorem cat4 {Q : TypeId → List D → Prop} {ta tb tc td : TypeId} {xs : List D} (h : Cat Q [ta, tb, tc, td] xs) : ∃ a b c d, xs = a ++ (b ++ (c ++ (d ++ []))) ∧ Q ta a ∧ Q tb b ∧ Q tc c ∧ Q td d := by
  simp only [Cat] at h
  obtain ⟨a, _, rfl, ha, b, _, rfl, hb, c, _, rfl, hc, d, _, rfl, hd, rfl⟩ := h
  exact ⟨a, b, c, d, rfl, ha, hb, hc, hd⟩
theorem cat7 {Q : TypeId → List D → Prop} {ta tb tc td te tf tg : TypeId} {xs : List D} (h : Cat Q [ta, tb, tc, td, te, tf, tg] xs) : ∃ a b c d e f g, xs = a ++ (b ++ (c ++ (d ++ (e ++ (f ++ (g ++ [])))))) ∧ Q ta a ∧ Q tb b ∧ Q tc c ∧ Q td d ∧ Q te e ∧ Q tf f ∧ Q tg g := by
  simp only [Cat] at h
  obtain ⟨a, _, rfl, ha, b, _, rfl, hb, c, _, rfl, hc, d, _, rfl, hd, e, _, rfl, he, f, _, rfl, hf, g, _, rfl, hg, rfl⟩ := h
  exact ⟨a, b, c, d, e, f, g, rfl, ha, hb, hc, hd, he, hf, hg⟩
theorem shp_pos (h : Shp P n t xs) : ∃ m, n = m + 1 := by
  cases n with
  | zero => exact h.elim
  | succ m => exact ⟨m, rfl⟩
theorem el_agg {Q : TypeId → List D → Prop} {e : TypeId} {y : D} (ha : isAggT P e = true) (h : ElShp P Q e y) : ∃ xs, y = .agg xs ∧ Q e xs := by
  unfold ElShp at h; rw [if_pos ha] at h; exact h
theorem el_one {Q : TypeId → List D → Prop} {e : TypeId} {y : D} (ha : isAggT P e = false) (h : ElShp P Q e y) : Q e [y] := by
  unfold ElShp at h; rw [if_neg (by rw [ha]; simp)] at h; exact h
end

theorem XS.up : ∀ {m : Nat} {zs : List D}, XS m zs → XS (m + 1) zs
  | 0, _, h => h.elim
  | m + 1, zs, h => by
    obtain ⟨k, a, b1, rs, b2, ss, subs, h1, h2, h3, h4, h5⟩ := h
    exact ⟨k, a, b1, rs, b2, ss, subs, h1, h2, h3, h4, fun y hy => by obtain ⟨zs, k1, k2⟩ := h5 y hy; exact ⟨zs, k1, XS.up k2⟩⟩

/-- The types that are asked. -/
structure TyOK (P : Program) : Prop where
  u56 : ∃ fs, P.underlying 56 = some (.struct fs) ∧ fs.toList.map (·.type) = [4, 53, 4, 54]
  u59 : ∃ fs, P.underlying 59 = some (.struct fs) ∧ fs.toList.map (·.type) = [3, 3, 56, 57]
  u49 : ∃ fs, P.underlying 49 = some (.struct fs) ∧ fs.toList.map (·.type) = [3, 47, 22]
  u25 : ∃ fs, P.underlying 25 = some (.struct fs) ∧ fs.toList.map (·.type) = [3, 3, 9]
  u63 : ∃ fs, P.underlying 63 = some (.struct fs) ∧ fs.toList.map (·.type) = [4, 36, 61]
  u36 : ∃ fs, P.underlying 36 = some (.struct fs) ∧ fs.toList.map (·.type) = [32, 33]
  u61 : ∃ fs, P.underlying 61 = some (.struct fs) ∧ fs.toList.map (·.type) = [3, 3, 27]
  u65 : ∃ fs, P.underlying 65 = some (.struct fs) ∧ fs.toList.map (·.type) = [3, 3, 3, 3, 59, 27, 63]
  u57 : P.underlying 57 = some (.slice 59)
  u53 : P.underlying 53 = some (.slice 169)
  u54 : P.underlying 54 = some (.slice 9)
  u32 : P.underlying 32 = some (.slice 49)
  u33 : P.underlying 33 = some (.slice 3)
  u47 : P.underlying 47 = some (.slice 130)
  u130 : P.underlying 130 = some (.array 4 56)
  u27 : P.underlying 27 = some (.array 4 25)
  u3 : P.underlying 3 = some (.int .i64)
  u22 : P.underlying 22 = some (.int .u64)
  u4 : P.underlying 4 = some .bool
  u9 : P.underlying 9 = some .string
  g59 : isAggT P 59 = true
  g130 : isAggT P 130 = true
  g49 : isAggT P 49 = true
  g9 : isAggT P 9 = false

section
variable {P : Program} (T : TyOK P)
  include T
theorem shp56 {n : Nat} {xs : List D} (h : Shp P n 56 xs) : ∃ b1 rs b2 ss, xs = [.bool b1, .list rs, .bool b2, .list ss] ∧ ss.length ≤ maxLen ∧ ∀ s ∈ ss, ∃ t, s = .str t := by
  obtain ⟨n, rfl⟩ := shp_pos h
  obtain ⟨a, b, c, d, rfl, h1, h2, h3, h4⟩ := cat4 <| shp_struct T.u56.choose_spec.1 h T.u56.choose_spec.2
  obtain ⟨n, rfl⟩ := shp_pos h1
  obtain ⟨b1, rfl⟩ := shp_bool T.u4 h1
  obtain ⟨rs, rfl, _⟩ := shp_list T.u53 h2
  obtain ⟨b2, rfl⟩ := shp_bool T.u4 h3
  obtain ⟨ss, rfl, k1, k2⟩ := shp_list T.u54 h4
  refine ⟨b1, rs, b2, ss, rfl, k1, fun s hs => ?_⟩
  have := el_one T.g9 (k2 s hs)
  obtain ⟨n, rfl⟩ := shp_pos this
  obtain ⟨t, ht⟩ := shp_str T.u9 this
  simp only [List.cons.injEq, and_true] at ht
  exact ⟨t, ht⟩

theorem shp59 : ∀ {n : Nat} {xs : List D}, Shp P n 59 xs → XS n xs
  | 0, _, h => h.elim
  | n + 1, xs, h => by
    obtain ⟨a, b, c, d, rfl, h1, h2, h3, h4⟩ := cat4 <| shp_struct T.u59.choose_spec.1 h T.u59.choose_spec.2
    obtain ⟨m, rfl⟩ := shp_pos h1
    obtain ⟨k, rfl⟩ := shp_int T.u3 h1
    obtain ⟨a', rfl⟩ := shp_int T.u3 h2
    obtain ⟨b1, rs, b2, ss, rfl, k1, k2⟩ := shp56 T h3
    obtain ⟨subs, rfl, k3, k4⟩ := shp_list T.u57 h4
    refine ⟨k, a', b1, rs, b2, ss, subs, rfl, k1, k2, k3, fun y hy => ?_⟩
    obtain ⟨zs, rfl, hz⟩ := el_agg T.g59 (k4 y hy)
    exact ⟨zs, rfl, XS.up (shp59 hz)⟩

theorem shpBox {n : Nat} {xs : List D} (h : Shp P n 130 xs) : BoxY (.agg xs) := by
  obtain ⟨n, rfl⟩ := shp_pos h
  obtain ⟨a, b, c, d, rfl, h1, h2, h3, h4⟩ := cat4 <| shp_arr T.u130 h
  obtain ⟨a0, a1, a2, a3, rfl, p1, p2⟩ := shp56 T h1
  obtain ⟨b0, b1, b2, b3, rfl, p3, p4⟩ := shp56 T h2
  obtain ⟨c0, c1, c2, c3, rfl, p5, p6⟩ := shp56 T h3
  obtain ⟨d0, d1, d2, d3, rfl, p7, p8⟩ := shp56 T h4
  exact ⟨a0, a1, a2, a3, b0, b1, b2, b3, c0, c1, c2, c3, d0, d1, d2, d3, rfl, ⟨_, _, _, _, rfl, p1, p2⟩, ⟨_, _, _, _, rfl, p3, p4⟩, ⟨_, _, _, _, rfl, p5, p6⟩, ⟨_, _, _, _, rfl, p7, p8⟩⟩

theorem shpEnt {n : Nat} {xs : List D} (h : Shp P n 49 xs) : EntY (.agg xs) := by
  obtain ⟨n, rfl⟩ := shp_pos h
  obtain ⟨a, b, c, rfl, h1, h2, h3⟩ := cat3 <| shp_struct T.u49.choose_spec.1 h T.u49.choose_spec.2
  obtain ⟨n, rfl⟩ := shp_pos h1
  obtain ⟨i, rfl⟩ := shp_int T.u3 h1
  obtain ⟨bs, rfl, k1, k2⟩ := shp_list T.u47 h2
  obtain ⟨j, rfl⟩ := shp_int T.u22 h3
  refine ⟨_, bs, _, rfl, fun y hy => ?_, k1⟩
  obtain ⟨zs, rfl, hz⟩ := el_agg T.g130 (k2 y hy)
  exact shpBox T hz

theorem shp25 {n : Nat} {xs : List D} (h : Shp P n 25 xs) : ∃ k m s, xs = [.int .i64 k, .int .i64 m, .str s] := by
  obtain ⟨n, rfl⟩ := shp_pos h
  obtain ⟨a, b, c, rfl, h1, h2, h3⟩ := cat3 <| shp_struct T.u25.choose_spec.1 h T.u25.choose_spec.2
  obtain ⟨n, rfl⟩ := shp_pos h1
  obtain ⟨i, rfl⟩ := shp_int T.u3 h1
  obtain ⟨j, rfl⟩ := shp_int T.u3 h2
  obtain ⟨s, rfl⟩ := shp_str T.u9 h3
  exact ⟨i, j, s, rfl⟩

theorem shp27 {n : Nat} {xs : List D} (h : Shp P n 27 xs) : ∃ k0 n0 s0 k1 n1 s1 k2 n2 s2 k3 n3 s3, xs = [.int .i64 k0, .int .i64 n0, .str s0, .int .i64 k1, .int .i64 n1, .str s1, .int .i64 k2, .int .i64 n2, .str s2, .int .i64 k3, .int .i64 n3, .str s3] := by
  obtain ⟨n, rfl⟩ := shp_pos h
  obtain ⟨a, b, c, d, rfl, h1, h2, h3, h4⟩ := cat4 <| shp_arr T.u27 h
  obtain ⟨_, _, _, rfl⟩ := shp25 T h1
  obtain ⟨_, _, _, rfl⟩ := shp25 T h2
  obtain ⟨_, _, _, rfl⟩ := shp25 T h3
  obtain ⟨_, _, _, rfl⟩ := shp25 T h4
  exact ⟨_, _, _, _, _, _, _, _, _, _, _, _, rfl⟩

theorem shp63 {n : Nat} {xs : List D} (h : Shp P n 63 xs) : ∃ p0 es rm q0 q1 k0 n0 s0 k1 n1 s1 k2 n2 s2 k3 n3 s3, xs = [.bool p0, .list es, .list rm, .int .i64 q0, .int .i64 q1, .int .i64 k0, .int .i64 n0, .str s0, .int .i64 k1, .int .i64 n1, .str s1, .int .i64 k2, .int .i64 n2, .str s2, .int .i64 k3, .int .i64 n3, .str s3] ∧ es.length ≤ maxLen ∧ ∀ y ∈ es, EntY y := by
  obtain ⟨n, rfl⟩ := shp_pos h
  obtain ⟨a, b, c, rfl, h1, h2, h3⟩ := cat3 <| shp_struct T.u63.choose_spec.1 h T.u63.choose_spec.2
  obtain ⟨n, rfl⟩ := shp_pos h1
  obtain ⟨p0, rfl⟩ := shp_bool T.u4 h1
  obtain ⟨d, e, rfl, h4, h5⟩ := cat2 <| shp_struct T.u36.choose_spec.1 h2 T.u36.choose_spec.2
  obtain ⟨n, rfl⟩ := shp_pos h4
  obtain ⟨es, rfl, k1, k2⟩ := shp_list T.u32 h4
  obtain ⟨rm, rfl, _⟩ := shp_list T.u33 h5
  obtain ⟨f, g, i, rfl, h6, h7, h8⟩ := cat3 <| shp_struct T.u61.choose_spec.1 h3 T.u61.choose_spec.2
  obtain ⟨q0, rfl⟩ := shp_int T.u3 h6
  obtain ⟨q1, rfl⟩ := shp_int T.u3 h7
  obtain ⟨_, _, _, _, _, _, _, _, _, _, _, _, rfl⟩ := shp27 T h8
  refine ⟨p0, es, rm, q0, q1, _, _, _, _, _, _, _, _, _, _, _, _, rfl, k1, fun y hy => ?_⟩
  obtain ⟨zs, rfl, hz⟩ := el_agg T.g49 (k2 y hy)
  exact shpEnt T hz

/-- At every operation. -/
theorem main65 (hT : ∀ fuel d, CallOK P (callA fuel d)) (n : Nat) (xs : List D) (h : Shp P n 65 xs) : ∃ (call : CallF) (hp' : Hp), CallOK P call ∧ call 4 [.agg xs] h0 = some ⟨.bool true, hp'⟩ := by
  obtain ⟨n, rfl⟩ := shp_pos h
  obtain ⟨a0, a1, a2, a3, a4, a5, a6, rfl, h0', h1, h2, h3, h4, h5, h6⟩ := cat7 <| shp_struct T.u65.choose_spec.1 h T.u65.choose_spec.2
  obtain ⟨n, rfl⟩ := shp_pos h0'
  obtain ⟨g0, rfl⟩ := shp_int T.u3 h0'
  obtain ⟨g1, rfl⟩ := shp_int T.u3 h1
  obtain ⟨g2, rfl⟩ := shp_int T.u3 h2
  obtain ⟨g3, rfl⟩ := shp_int T.u3 h3
  have hX := shp59 T h4
  obtain ⟨k, a, b1, rs, b2, ss, subs, rfl⟩ := hX.ex
  obtain ⟨_, _, _, _, _, _, _, _, _, _, _, _, rfl⟩ := shp27 T h5
  obtain ⟨p0, es, rm, q0, q1, k0, n0, s0, k1, n1, s1, k2, n2, s2, k3, n3, s3, rfl, m1, m2⟩ := shp63 T h6
  have hf : maxLen < maxLen + 1 := Nat.lt_succ_self _
  have h18 := c18 (fuel := maxLen + 1) hf (n + 1) 5 _ hX
  have h19 := of_ok (fuel := maxLen + 1) (d := n + 7) rfl (few19 (p0 := p0) (es := es) (rm := rm) (q0 := q0) (q1 := q1) (k0 := k0) (n0 := n0) (k1 := k1) (n1 := n1) (k2 := k2) (n2 := n2) (k3 := k3) (n3 := n3) (s0 := s0) (s1 := s1) (s2 := s2) (s3 := s3) (c45 hf (n + 3) es m2 m1))
  have e1 : n + 1 + 5 + 2 = (n + 4) + 4 := by omega
  have e2 : n + 7 + 1 = (n + 4) + 4 := by omega
  rw [e1] at h18
  rw [e2] at h19
  obtain ⟨_, k1, b, rfl, rfl⟩ := main4 (g0 := g0) (g1 := g1) (g2 := g2) (g3 := g3) h18 h19
  exact ⟨callA (maxLen + 1) (n + 4 + 4 + 1), h0, hT _ _, (callA_enter rfl).trans k1⟩
end

theorem tyOK : TyOK Tryz.prog where
  u56 := ⟨_, Tryz.underlying56, rfl⟩
  u59 := ⟨_, Tryz.underlying59, rfl⟩
  u49 := ⟨_, Tryz.underlying49, rfl⟩
  u25 := ⟨_, Tryz.underlying25, rfl⟩
  u63 := ⟨_, Tryz.underlying63, rfl⟩
  u36 := ⟨_, Tryz.underlying36, rfl⟩
  u61 := ⟨_, Tryz.underlying61, rfl⟩
  u65 := ⟨_, Tryz.underlying65, rfl⟩
  u57 := Tryz.underlying57
  u53 := Tryz.underlying53
  u54 := Tryz.underlying54
  u32 := Tryz.underlying32
  u33 := Tryz.underlying33
  u47 := Tryz.underlying47
  u130 := Tryz.underlying130
  u27 := Tryz.underlying27
  u3 := Tryz.underlying3
  u22 := Tryz.underlying22
  u4 := Tryz.underlying4
  u9 := Tryz.underlying9
  g59 := by kernel_rfl
  g130 := by kernel_rfl
  g49 := by kernel_rfl
  g9 := by kernel_rfl
end Go.Proofs.AeT

/- OverlayNil: at every operation the interpreter says true, if Awake says so. (Written by mkfew.py.) -/
namespace Go.Proofs.AeT
open Go Go.AE Go.Proofs

/-- What is asked of awake alone. -/
noncomputable def T29 : List Ent := [⟨29, [], .bool true⟩]
noncomputable abbrev callB (fuel d : Nat) : CallF := runM cfg T29 fuel d

theorem callB_enter {fuel d g : Nat} {args : List D} (hg : Nat.beq 29 g = false) : callB fuel (d + 1) g args h0 = enter cfg fuel (callB fuel d) g args h0 := by
  show memo T29 (enter cfg fuel (runM cfg T29 fuel d)) g args h0 = _
  unfold memo
  have : pick g T29 = [] := by
    show cond (Nat.beq 29 g) _ _ = _
    rw [hg]; rfl
  rw [this]
  rfl

theorem callB_29 {fuel d : Nat} : callB fuel (d + 1) 29 [] h0 = some ⟨.bool true, h0⟩ := rfl

theorem of_okB {fuel d g : Nat} {args : List D} (hg : Nat.beq 29 g = false) (h : Ok (enter cfg fuel (callB fuel d) g args h0) fun R => ∃ b, R = ⟨.bool b, h0⟩) : ∃ b, callB fuel (d + 1) g args h0 = some ⟨.bool b, h0⟩ := by
  obtain ⟨_, h1, b, rfl⟩ := h
  exact ⟨b, (callB_enter hg).trans h1⟩
theorem of_okIB {fuel d g : Nat} {args : List D} (hg : Nat.beq 29 g = false) (h : Ok (enter cfg fuel (callB fuel d) g args h0) fun R => ∃ b, R = ⟨.int .i64 b, h0⟩) : ∃ b, callB fuel (d + 1) g args h0 = some ⟨.int .i64 b, h0⟩ := by
  obtain ⟨_, h1, b, rfl⟩ := h
  exact ⟨b, (callB_enter hg).trans h1⟩

section
variable {fuel : Nat} (hf : maxLen < fuel)
  include hf
theorem c121B (d : Nat) (ls : List D) (h : ∀ y ∈ ls, SetY y) (hm : ls.length ≤ maxLen) : ∃ b, callB fuel (d + 1) 121 [.list ls] h0 = some ⟨.bool b, h0⟩ := of_okB rfl (few121 h hf hm)
theorem c136B (d : Nat) (bs : List D) (h : ∀ y ∈ bs, BoxY y) (hm : bs.length ≤ maxLen) : ∃ b, callB fuel (d + 2) 136 [.list bs] h0 = some ⟨.bool b, h0⟩ := of_okB rfl (few136 h hf hm (c121B hf d))
theorem c100B (d : Nat) (bs : List D) (h : ∀ y ∈ bs, BoxY y) (hm : bs.length ≤ maxLen) : ∃ b, callB fuel (d + 3) 100 [.list bs] h0 = some ⟨.bool b, h0⟩ := of_okB rfl (few100 (c136B hf d bs h hm))
theorem c45B (d : Nat) (es : List D) (h : ∀ y ∈ es, EntY y) (hm : es.length ≤ maxLen) : ∃ b, callB fuel (d + 4) 45 [.list es] h0 = some ⟨.bool b, h0⟩ := by
  refine of_okB rfl (few45 (fun y hy => ?_) (Nat.lt_of_le_of_lt hm hf) hm)
  obtain ⟨n, bs, m, h1, h2, h3⟩ := h y hy
  exact ⟨n, bs, m, h1, c100B hf d bs h2 h3⟩
theorem c72B : ∀ (n d : Nat) (xs : List D), XS n xs → ∃ b, callB fuel (n + d + 1) 72 [.agg xs] h0 = some ⟨.bool b, h0⟩
  | 0, _, _, h => h.elim
  | n + 1, d, xs, h => by
    rw [show n + 1 + d + 1 = (n + d + 1) + 1 by omega]
    exact of_okB rfl (few72 h hf (fun ls h1 h2 => c121B hf (n + d) ls h1 h2) fun zs hz => c72B n d zs hz)
theorem c70B : ∀ (n d : Nat) (xs : List D) (i : Int), XS n xs → ∃ b, callB fuel (n + d) 70 [.agg xs, .int .i64 i] h0 = some ⟨.int .i64 b, h0⟩
  | 0, _, _, _, h => h.elim
  | n + 1, d, xs, i, h => by
    rw [show n + 1 + d = (n + d) + 1 by omega]
    exact of_okIB rfl (few70 h hf fun zs j hz => c70B n d zs j hz)
theorem c71B : ∀ (n d : Nat) (xs : List D) (i : Int), XS n xs → ∃ b, callB fuel (n + d) 71 [.agg xs, .int .i64 i] h0 = some ⟨.int .i64 b, h0⟩
  | 0, _, _, _, h => h.elim
  | n + 1, d, xs, i, h => by
    rw [show n + 1 + d = (n + d) + 1 by omega]
    exact of_okIB rfl (few71 h hf fun zs j hz => c71B n d zs j hz)
theorem c18B (n d : Nat) (xs : List D) (h : XS n xs) : ∃ b, callB fuel (n + d + 2) 18 [.agg xs] h0 = some ⟨.bool b, h0⟩ :=
  of_okB rfl (few18 h (c70B hf n (d + 1) xs 0 h) (c71B hf n (d + 1) xs 0 h) (c72B hf n d xs h))
end


theorem c86B {fuel d : Nat} : callB fuel (d + 1) 86 [.agg H4] h0 = some ⟨.bool true, h0⟩ := by kernel_rfl

set_option maxHeartbeats 4000000 in
/-- The statement's own text. -/
theorem main5 {fuel d : Nat} {g0 g1 g2 g3 g4 : Int} {k a : Int} {b1 b2 : Bool} {rs ss subs : List D} {k0 n0 k1 n1 k2 n2 k3 n3 : Int} {s0 s1 s2 s3 : ByteArray}
    (h30 : ∃ b, callB fuel (d + 4) 30 [.agg H4, .list [.agg [.int .i64 g0, .int .i64 g1, .int .i64 g2, .int .i64 g3, .int .i64 g4, .int .i64 k, .int .i64 a, .bool b1, .list rs, .bool b2, .list ss, .list subs, .int .i64 k0, .int .i64 n0, .str s0, .int .i64 k1, .int .i64 n1, .str s1, .int .i64 k2, .int .i64 n2, .str s2, .int .i64 k3, .int .i64 n3, .str s3]]] h0 = some ⟨.bool b, h0⟩) :
    Ok (enter cfg fuel (callB fuel (d + 4)) 5 [.agg [.int .i64 g0, .int .i64 g1, .int .i64 g2, .int .i64 g3, .int .i64 g4, .int .i64 k, .int .i64 a, .bool b1, .list rs, .bool b2, .list ss, .list subs, .int .i64 k0, .int .i64 n0, .str s0, .int .i64 k1, .int .i64 n1, .str s1, .int .i64 k2, .int .i64 n2, .str s2, .int .i64 k3, .int .i64 n3, .str s3]] h0) fun R => ∃ b, R = ⟨.bool b, h0⟩ ∧ b = true := by
  refine enter_of (fn := Tryz.f5) (by kernel_rfl) Tryz.func5 rfl ?_
  obtain ⟨r, h30⟩ := h30
  refine ok_seq ?_
  refine ok_region ?_
  refine ok_box rfl rfl rfl rfl rfl (by kernel_rfl) rfl rfl ?_
  refine ok_do (op_move (.inr rfl) (by kernel_rfl) (by kernel_rfl) rfl) rfl rfl ?_
  refine ok_nil ?_
  refine ok_kseq ?_
  refine ok_seq ?_
  refine ok_seq ?_
  refine ok_region ?_
  refine ok_call rfl rfl rfl rfl rfl (by kernel_rfl) rfl callB_29 (by simp) ?_
  refine ok_do (op_not rfl rfl) rfl rfl ?_
  refine ok_do (op_move (.inl rfl) (by kernel_rfl) (by kernel_rfl) rfl) rfl rfl ?_
  refine ok_do (v := .d (.agg [.nil0, .nil0, .int .i64 0, .int .u64 0])) (by kernel_rfl) rfl rfl ?_
  refine ok_do (op_loadLA rfl rfl rfl (by kernel_rfl) ag82 s82 rfl rfl) rfl rfl ?_
  refine ok_opW (eff_of rfl (op_bslice (xs := [.agg [.int .i64 g0, .int .i64 g1, .int .i64 g2, .int .i64 g3, .int .i64 g4, .int .i64 k, .int .i64 a, .bool b1, .list rs, .bool b2, .list ss, .list subs, .int .i64 k0, .int .i64 n0, .str s0, .int .i64 k1, .int .i64 n1, .str s1, .int .i64 k2, .int .i64 n2, .str s2, .int .i64 k3, .int .i64 n3, .str s3]]) rfl e86 rfl rfl z82 (by rw [s82]; rfl) (by rw [s82]; rfl) r82 (by kernel_rfl) (by kernel_rfl) rfl rfl)) ?_
  refine ok_opW (eff_of rfl (op_callF rfl rfl rfl (by kernel_rfl) rfl h30 (by simp))) ?_
  cases r
  · refine ok_do (op_not rfl rfl) rfl rfl ?_
    refine ok_do (op_pick rfl rfl rfl) rfl rfl ?_
    refine ok_nil ?_
    refine ok_kseq ?_
    refine ok_cond_t rfl ?_
    refine ok_seq ?_
    refine ok_region ?_
    refine ok_call rfl rfl rfl rfl rfl (by kernel_rfl) rfl callB_29 (by simp) ?_
    refine ok_do (op_move (.inr rfl) (by kernel_rfl) (by kernel_rfl) rfl) rfl rfl ?_
    refine ok_nil ?_
    refine ok_kseq ?_
    refine ok_ret ?_
    refine ok_kseq_ret ?_
    exact fin_ok (.inr rfl) rfl ⟨_, rfl, rfl⟩
  · refine ⟨⟨.bool true, h0⟩, by kernel_rfl, _, rfl, rfl⟩
end Go.Proofs.AeT

/- OverlayNil: an operation's cells. -/
namespace Go.Proofs.AeT
open Go Go.AE Go.Proofs

/-- At every operation. -/
theorem main82 {P : Program} (T : TyOK P) (u82 : ∃ fs, P.underlying 82 = some (.struct fs) ∧ fs.toList.map (·.type) = [3, 3, 3, 3, 3, 59, 27]) (hT : ∀ fuel d, CallOK P (callB fuel d)) (n : Nat) (xs : List D) (h : Shp P n 82 xs) : ∃ (call : CallF) (hp' : Hp), CallOK P call ∧ call 5 [.agg xs] h0 = some ⟨.bool true, hp'⟩ := by
  obtain ⟨n, rfl⟩ := shp_pos h
  obtain ⟨a0, a1, a2, a3, a4, a5, a6, rfl, h0', h1, h2, h3, h4, h5, h6⟩ := cat7 <| shp_struct u82.choose_spec.1 h u82.choose_spec.2
  obtain ⟨n, rfl⟩ := shp_pos h0'
  obtain ⟨g0, rfl⟩ := shp_int T.u3 h0'
  obtain ⟨g1, rfl⟩ := shp_int T.u3 h1
  obtain ⟨g2, rfl⟩ := shp_int T.u3 h2
  obtain ⟨g3, rfl⟩ := shp_int T.u3 h3
  obtain ⟨g4, rfl⟩ := shp_int T.u3 h4
  have hX := shp59 T h5
  obtain ⟨k, a, b1, rs, b2, ss, subs, rfl⟩ := hX.ex
  obtain ⟨k0, n0, s0, k1, n1, s1, k2, n2, s2, k3, n3, s3, rfl⟩ := shp27 T h6
  have hf : maxLen < maxLen + 1 := Nat.lt_succ_self _
  obtain ⟨r, h18⟩ := c18B (fuel := maxLen + 1) hf (n + 1) 4 _ hX
  have e1 : n + 1 + 4 + 2 = n + 6 + 1 := by omega
  rw [e1] at h18
  have h30 := of_okB (fuel := maxLen + 1) (d := n + 6 + 1) rfl (few30 (g0 := g0) (g1 := g1) (g2 := g2) (g3 := g3) (g4 := g4) (k0 := k0) (n0 := n0) (s0 := s0) (k1 := k1) (n1 := n1) (s1 := s1) (k2 := k2) (n2 := n2) (s2 := s2) (k3 := k3) (n3 := n3) (s3 := s3) (by decide) h18 c86B)
  have e2 : n + 6 + 1 + 1 = (n + 4) + 4 := by omega
  rw [e2] at h30
  obtain ⟨_, k1, b, rfl, rfl⟩ := main5 h30
  exact ⟨callB (maxLen + 1) (n + 4 + 4 + 1), h0, hT _ _, (callB_enter rfl).trans k1⟩

theorem u82 : ∃ fs, Tryz.prog.underlying 82 = some (.struct fs) ∧ fs.toList.map (·.type) = [3, 3, 3, 3, 3, 59, 27] := ⟨_, Tryz.underlying82, rfl⟩
end Go.Proofs.AeT
