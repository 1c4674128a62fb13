/- Part 5 of the proof: OverlayNil returns true at every operation and leaves its argument as it was (the tied card, no condition). -/
import Derived.Test.YtjamfnaepkheeaaGreatDoorB04
import GoSem.Claim
import Derived.Test.YtjamfnaepkheeaaGreatDoorB00

/- The closed facts of a row, together. -/
namespace Go.Proofs.YtjamfnaepkheeaaGreatDoor
open Go Go.ChangeShapes Go.WideShapes Go.ChangeAt Go.RowKit
theorem and2 {a b : Bool} (h : a = true) (k : b = true) : (a && b) = true := by rw [h, k]; rfl
theorem facts5 : joinedFacts Tryz.prog 5 Tryz.f5 Rows.overlayNilSpec Rows.overlayNilRow = true := by
  unfold joinedFacts
  refine and2 (and2 (and2 (and2 (and2 (and2 (and2 (and2 (and2 (and2 (and2 (and2 (and2 (and2 (and2 (and2 (and2 (and2 (and2 (and2 (and2 (and2 (and2 (and2 (and2 (and2 (and2 (and2 (and2 (and2 (and2 (?_) ?_) ?_) ?_) ?_) ?_) ?_) ?_) ?_) ?_) ?_) ?_) ?_) ?_) ?_) ?_) ?_) ?_) ?_) ?_) ?_) ?_) ?_) ?_) ?_) ?_) ?_) ?_) ?_) ?_) ?_) ?_
  · exact facts5_k0
  · exact facts5_k1
  · exact facts5_k2
  · exact facts5_k3
  · exact facts5_k4
  · exact facts5_k5
  · exact facts5_k6
  · exact facts5_k7
  · exact facts5_k8
  · exact facts5_k9
  · exact facts5_k10
  · exact facts5_k11
  · exact facts5_k12
  · exact facts5_k13
  · exact facts5_k14
  · exact facts5_k15
  · exact facts5_k16
  · exact facts5_k17
  · exact facts5_k18
  · exact facts5_k19
  · exact facts5_k20
  · exact facts5_k21
  · exact facts5_k22
  · exact facts5_k23
  · exact facts5_k24
  · exact facts5_k25
  · exact facts5_k26
  · exact facts5_k27
  · kernel_rfl
  · exact facts5_k29
  · exact facts5_k30
  · exact facts5_k31
end Go.Proofs.YtjamfnaepkheeaaGreatDoor

/- AE: what the interpreter does at calls of Go's library that it does not step through. Plain definitions alone. -/
namespace Go.AE
noncomputable section

/-- What a function of the library without a text does. -/
inductive PK where
  | load (k : IntKind)
  | store
  | add (k : IntKind)
  | cas (k : IntKind)
  | same
  | mark0
  | mark1

def clean (hp : Hp) : Hp := { hp with ch := none, es := none }

def cellI (hp : Hp) (id off : Nat) : Option D :=
  match getH hp id with
  | some ⟨.box _ cs, _⟩ => match cs[off]? with
    | some (.d x) => some x
    | _ => none
  | _ => none

/-- A cell that leads nowhere is written. -/
def setI (hp : Hp) (id off : Nat) (v : D) : Option Hp :=
  match getH hp id with
  | some ⟨.box T cs, z⟩ => if off < cs.length then some (setHp (clean hp) id (some ⟨.box T (cs.set off (.d v)), z⟩) true) else none
  | _ => none

def primK (P : Program) (k : PK) (args : List D) (hp : Hp) : Option Res :=
  match k, args with
  | .load k, [.ptr id off] => match cellI hp id off with
    | some (.int j m) => if j = k then some ⟨.int k m, clean hp⟩ else none
    | _ => none
  | .store, [.ptr id off, .int k y] => match cellI hp id off with
    | some _ => (setI hp id off (.int k y)).map fun h => ⟨.tup [], h⟩
    | none => none
  | .add k, [.ptr id off, .int j y] => match cellI hp id off with
    | some (.int i x) => if i = k ∧ j = k then match pureRun P (Op.intArith .add k x y) with
        | some (.int l s) => if l = k then (setI hp id off (.int k s)).map fun h => ⟨.int k s, h⟩ else none
        | _ => none
      else none
    | _ => none
  | .cas k, [.ptr id off, .int j o, .int l y] => match cellI hp id off with
    | some (.int i x) => if i = k ∧ j = k ∧ l = k then (if x = o then (setI hp id off (.int k y)).map fun h => ⟨.bool true, h⟩ else some ⟨.bool false, clean hp⟩) else none
    | _ => none
  | .same, [.ptr id off] => some ⟨.ptr id off, clean hp⟩
  | .mark0, [] => some ⟨.tup [], clean hp⟩
  | .mark1, [.ptr _ _] => some ⟨.tup [], clean hp⟩
  | _, _ => none

def insOrd (x : Int) : List Int → List Int
  | [] => [x]
  | y :: r => if x ≤ y then x :: y :: r else y :: insOrd x r
def sortOrd : List Int → List Int
  | [] => []
  | x :: r => insOrd x (sortOrd r)

def intsOf : List D → Option (List Int)
  | [] => some []
  | .int .i64 n :: r => (intsOf r).map (n :: ·)
  | _ => none

/-! ### the interpreter's side -/
def nodupI : List Int → Bool
  | [] => true
  | x :: r => !(r.any fun y => x == y) && nodupI r

def capAt (hp : Hp) (id : Nat) : Option (List (D × D)) :=
  match cellI hp id 0 with
  | some (.map m) => mapOf hp m
  | _ => none

/-- slices.Sorted at what maps.Keys handed back: the keys in order. -/
def sortedKeys (iter : FuncId) (T : TypeId) (args : List D) (hp : Hp) : Option Res :=
  match args with
  | [.fn g [] [.ptr id 0]] => if g = iter then
      match (capAt hp id).bind fun es => intsOf (es.map (·.1)) with
      | some ks => if nodupI ks && (ks.all fun x => (Lit.int .i64 x).wf) && Nat.ble ks.length maxN then some ⟨.own T ((sortOrd ks).map (.int .i64)), clean hp⟩ else none
      | none => none
    else none
  | _ => none

/-- A function's text over a heap, be it memorized or not. -/
def enterB (c : Cfg) (loops : Nat) (call : CallF) (f : FuncId) (args : List D) (hp : Hp) : Option Res :=
  match c.P.funcs[f]? with
  | some fn => match fn.body with
    | some b => exec c call f loops b (start args hp) (finish c f hp fn.results.toList)
    | none => none
  | none => none

def hasBody (P : Program) (f : FuncId) : Bool :=
  match P.funcs[f]? with
  | some fn => fn.body.isSome && !(decide (fn.name = "runtime.NumGoroutine"))
  | none => false

/-- What a call hands back that hands back nothing. -/
def unitR (j : Hp) : Option Res → Option Hp
  | some ⟨.tup [], hp'⟩ => some (joinHp j hp')
  | _ => none
def falseR (j : Hp) : Option Res → Option Hp
  | some ⟨.bool false, hp'⟩ => some (joinHp j hp')
  | _ => none

/-- (*sync.Once).doSlow, not done: the lock is taken, the function called; then the deferred calls. -/
def slowRun (c0 : Cfg) (loops lock load store unlock : Nat) (call : CallF) (args : List D) (hp : Hp) : Option Res :=
  match args with
  | [.ptr id off, .fn g first caps] => if hasBody c0.P g then
      match unitR (clean hp) (call lock [.ptr id (off + 1)] (clean hp)) with
      | some j1 => match falseR j1 (call load [.ptr id off] j1) with
        | some j2 => match unitR j2 (call g (first ++ caps) j2) with
          | some j3 => match unitR j3 (enterB c0 loops call store [.ptr id off, .bool true] j3) with
            | some j4 => match unitR j4 (enterB c0 loops call unlock [.ptr id (off + 1)] j4) with
              | some j5 => some ⟨.tup [], j5⟩
              | none => none
            | none => none
          | none => none
        | none => none
      | none => none
    else none
  | _ => none

def inByte : D → Bool
  | .int _ n => decide (0 ≤ n) && decide (n < 256)
  | _ => false

/-- (*strings.Builder).String: the bytes; their row is data from now on. -/
def strRun (T : TypeId) (args : List D) (hp : Hp) : Option Res :=
  match args with
  | [.ptr id off] => match cellI hp id (off + 1) with
    | some (.hsf i) => match getH hp i with
      | some ⟨.row U xs, _⟩ => if U = T then match xs with
        | [] => none
        | x :: r => if inByte x && (r.all inByte && Nat.ble (r.length + 1) maxN) then (bytesOf (x :: r)).map fun b => ⟨.str b, setHp (clean hp) i (some ⟨.row U (x :: r), true⟩) true⟩ else none
        else none
      | _ => none
    | _ => none
  | _ => none

/-- slices.Clone of no element. -/
def cloneRun (T : TypeId) (args : List D) (hp : Hp) : Option Res :=
  match args with
  | [.list []] => some ⟨.own T [], clean hp⟩
  | [.nil0] => some ⟨.own T [], clean hp⟩
  | _ => none

/-- (*link.Net).Total: the lengths of a map's elements, together. -/
def pairOf : D → Option (Int × Int)
  | .agg [.int .i64 a, .int .i64 b] => if (Lit.int .i64 a).wf && (Lit.int .i64 b).wf then some (a, b) else none
  | _ => none
def pairsOf : List D → Option (List (Int × Int))
  | [] => some []
  | d :: r => match pairOf d, pairsOf r with
    | some p, some ps => some (p :: ps)
    | _, _ => none
def lenD : D → Option Nat
  | .list xs => some xs.length
  | .nil0 => some 0
  | _ => none
def lensOf : List D → Option (List Nat)
  | [] => some []
  | d :: r => match lenD d, lensOf r with
    | some p, some ps => some (p :: ps)
    | _, _ => none
def sumN : List Nat → Nat
  | [] => 0
  | n :: r => n + sumN r
def nodupP : List (Int × Int) → Bool
  | [] => true
  | x :: r => !(r.any fun y => x.1 == y.1 && x.2 == y.2) && nodupP r
def totalRun (q : Nat) (args : List D) (hp : Hp) : Option Res :=
  match args with
  | [.ptr id off] => match cellI hp id (off + q) with
    | some (.map m) => match mapOf hp m with
      | some es => match pairsOf (es.map (·.1)), lensOf (es.map (·.2)) with
        | some ks, some ns => if nodupP ks && (Nat.ble ks.length maxN && Nat.ble (sumN ns) maxN) then some ⟨.int .i64 (sumN ns), clean hp⟩ else none
        | _, _ => none
      | none => none
    | _ => none
  | _ => none

def kindOf (f : Nat) : List (Nat × PK) → Option PK := List.rec none fun p _ ih => cond (Nat.beq p.1 f) (some p.2) ih


/-- The primitives of a program: the functions' numbers. -/
structure PT where
  kinds : List (Nat × PK)
  slow : Nat
  lock : Nat
  loadB : Nat
  storeB : Nat
  unlock : Nat
  str : Nat
  strT : Nat
  sortI : Nat
  iterI : Nat
  tyI : Nat
  total : Nat
  totalQ : Nat
  clones : List (Nat × Nat)

def cloneT (f : Nat) : List (Nat × Nat) → Option Nat := List.rec none fun p _ ih => cond (Nat.beq p.1 f) (some p.2) ih

def primsF (c0 : Cfg) (loops : Nat) (N : PT) (call : CallF) (f : FuncId) (args : List D) (hp : Hp) : Option Res :=
  match kindOf f N.kinds with
  | some k => primK c0.P k args hp
  | none => match cloneT f N.clones with
    | some T => cloneRun T args hp
    | none =>
      if f = N.slow then slowRun c0 loops N.lock N.loadB N.storeB N.unlock call args hp
      else if f = N.str then strRun N.strT args hp
      else if f = N.sortI then sortedKeys N.iterI N.tyI args hp
      else if f = N.total then totalRun N.totalQ args hp
      else none
end
end Go.AE
