/- Part 0 of the proof: OverlayNil returns true at every operation and leaves its argument as it was (the tied card, no condition). -/
import Derived.Control
import Derived.Calls
import Derived.Laws.World
import Derived.Deep.MidRow
import Derived.LaidEqlPtr

/- AE: a deterministic abstract interpreter over the model's Code: its values, its state, its steps. Plain definitions alone; the proof that it is sound stands in the texts behind it. -/
namespace Go.AE
noncomputable section

/-- Data: what a value reads as. Immutable slices are lists; objects on the (abstract) heap are numbers. -/
inductive D where
  | undef
  | bool (b : Bool)
  | int (k : IntKind) (n : Int)
  | str (s : ByteArray)
  | agg (cs : List D)
  | tup (vs : List D)
  | list (xs : List D)
  | nilp
  | ptr (id off : Nat)
  | hr (id j off : Nat)
  | ipt (cs : List D)
  | nilm
  | map (id : Nat)
  | nilf
  | fn (f : FuncId) (first caps : List D)
  | nili
  | iface (t : TypeId) (d : D)
  | hsf (id : Nat)
  | hs (id off len : Nat)
  | own (T : TypeId) (xs : List D)
  | nil0
  deriving Inhabited

/-- Values in slots and local variables: data, or what leads to a local object (its key, its generation). -/
inductive AV where
  | d (x : D)
  | lp (i g off : Nat)
  | lr (i g j off : Nat)
  | lsf (i g : Nat)
  | ls (i g off len : Nat)
  | lb (i g off len : Nat)
  | agg (cs : List AV)
  deriving Inhabited

def D.cells : D → List D
  | .agg cs => cs
  | x => [x]

/-- A slice without memory, as data. -/
def D.norm1 : D → D
  | .nil0 => .list []
  | x => x

def D.norm : D → D
  | .agg cs => .agg (cs.map D.norm1)
  | x => x.norm1

/-- A struct, or a value of one cell. -/
def D.oneB : D → Bool
  | .tup _ | .undef | .own .. => false
  | _ => true

def AV.cells : AV → List AV
  | .agg cs => cs
  | .d x => x.cells.map .d
  | v => [v]

def AV.oneB : AV → Bool
  | .d x => x.oneB
  | _ => true

def allD : List AV → Option (List D)
  | [] => some []
  | .d x :: r => (allD r).map (x :: ·)
  | _ :: _ => none

def mkAgg (cs : List AV) : AV :=
  match allD cs with
  | some ds => .d (.agg ds)
  | none => .agg cs

/-- Objects: a variable; a row (a slice's array: it may be written; it may be handed on as data already: fz; it may have no memory: bare); a map. -/
inductive Ob where
  | box (T : TypeId) (cs : List AV)
  | row (T : TypeId) (xs : List D)
  | bare
  | map (es : List (D × D))
  deriving Inhabited

structure LOb where
  g : Nat
  o : Option Ob
  deriving Inhabited

structure HOb where
  o : Ob
  fz : Bool
  deriving Inhabited

structure Hp where
  objs : List (Option HOb)
  ch : Option Nat    -- the least object that was changed
  es : Option Nat    -- the least object that was given what leads to the heap

structure St where
  env : Nat → AV
  loc : Nat → LOb
  fz : Nat → Bool
  hp : Hp

/-- The n-th of a list; a list with another n-th. (By the recursors: that is quick in the kernel.) -/
def nth {α : Type} (l : List α) : Nat → Option α := List.rec (fun _ => none) (fun a _ ih n => Nat.rec (some a) (fun m _ => ih m) n) l
def setNth {α : Type} (l : List α) : Nat → α → List α := List.rec (fun _ _ => []) (fun a r ih n v => Nat.rec (v :: r) (fun m _ => a :: ih m v) n) l

/-- A function, turned at one place. -/
def upd {α : Type} (f : Nat → α) (i : Nat) (v : α) : Nat → α := fun k => cond (Nat.beq k i) v (f k)

/-- What a call comes to. -/
structure Res where
  r : D
  hp : Hp

/-- What is told of a program beside its text: hints; whatever they say, the interpreter is sound. -/
structure Cfg where
  P : Program
  heapDst : FuncId → List Nat
  accDst : FuncId → List (Nat × Nat)
  frzDst : FuncId → List Nat
  ownRet : FuncId → Bool
  drops : FuncId → Bool
  lives : FuncId → Nat → List Nat
  keys : FuncId → Nat → List Nat
  byref : FuncId → Bool
  raw : FuncId → Bool
  order : FuncId → Nat → List (Nat × Nat × List Nat)
  prim : FuncId → Bool
  primRun : (FuncId → List D → Hp → Option Res) → FuncId → List D → Hp → Option Res

abbrev CallF := FuncId → List D → Hp → Option Res

/-! ### types -/
def dOfVal : Value → Option D
  | .bool b => some (.bool b)
  | .int k n => some (.int k n)
  | .string s => some (.str s)
  | .pointer none => some .nilp
  | .slice none 0 0 => some .nil0
  | .map none => some .nilm
  | .nilFunc => some .nilf
  | .nilIface => some .nili
  | _ => none

def dsOfVals : List Value → Option (List D)
  | [] => some []
  | v :: r => match dOfVal v, dsOfVals r with
    | some d, some ds => some (d :: ds)
    | _, _ => none

/-- Is a type one of the program's table? -/
def inT (P : Program) (t : TypeId) : Bool := Nat.blt t P.types.size

def zeroCells (P : Program) (t : TypeId) : Option (List D) :=
  if inT P t then match (P.info? t).bind (·.zero) with
  | some (.agg cs) => dsOfVals cs.toList
  | some v => (dOfVal v).map ([·])
  | none => none
  else none

def isAggT (P : Program) (t : TypeId) : Bool :=
  match P.underlying t with
  | some (.struct _) | some (.array _ _) => true
  | _ => false

def sizeT (P : Program) (t : TypeId) : Nat := ((P.info? t).map (·.size)).getD 0
def bytesT (P : Program) (t : TypeId) : Nat := ((P.info? t).map (·.bytes)).getD 0

def field? (P : Program) (t : TypeId) (k : Nat) : Option Field :=
  if inT P t then match P.underlying t with
  | some (.struct fs) => fs[k]?
  | _ => none
  else none

def elemT (P : Program) (t : TypeId) : Option TypeId :=
  if inT P t then match P.underlying t with
  | some (.slice e) => some e
  | _ => none
  else none

def arrT (P : Program) (t : TypeId) : Option (Nat × TypeId) :=
  if inT P t then match P.underlying t with
  | some (.array n e) => some (n, e)
  | _ => none
  else none

/-- So many cells has an element of a row; and its bytes are few. -/
def rowT (P : Program) (E : TypeId) : Bool := inT P E && ((Nat.blt 0 (sizeT P E) && Nat.ble (bytesT P E) 65536) && ((P.info? E).bind (·.zero)).isSome)

def isStrT (P : Program) (t : TypeId) : Bool :=
  match P.underlying t with
  | some .string => true
  | _ => false
def isMapT (P : Program) (t : TypeId) : Bool :=
  match P.underlying t with
  | some (.map _ _) => true
  | _ => false
def isPtrT (P : Program) (t : TypeId) : Bool :=
  match P.underlying t with
  | some (.pointer _) => true
  | _ => false
def isFnT (P : Program) (t : TypeId) : Bool :=
  match P.underlying t with
  | some (.func _ _ _) => true
  | _ => false
def mapT (P : Program) (t : TypeId) : Option (TypeId × TypeId) :=
  if inT P t then match P.underlying t with
  | some (.map k e) => some (k, e)
  | _ => none
  else none
/-- Is a key's type one whose values are compared at once? -/
def isKeyT (P : Program) (t : TypeId) : Bool :=
  match P.underlying t with
  | some (.int _) | some .string | some .bool => true
  | _ => false
def isIntT (P : Program) (t : TypeId) : Bool :=
  match P.underlying t with
  | some (.int _) => true
  | _ => false

def isBoolT (P : Program) (t : TypeId) : Bool :=
  match P.underlying t with
  | some .bool => true
  | _ => false

/-- Has a type slices, or strings? -/
def isRowT (P : Program) (t : TypeId) : Bool :=
  match P.underlying t with
  | some (.slice _) | some .string => true
  | _ => false

def zeroEl (P : Program) (E : TypeId) : Option D :=
  match zeroCells P E with
  | some cs => if isAggT P E then some (D.agg cs).norm else cs.head?.map D.norm
  | none => none

/-! ### values that lead nowhere, as the model's own -/
def scalV : D → Option Value
  | .bool b => some (.bool b)
  | .int k n => some (.int k n)
  | .str s => some (.string s)
  | .nilp => some (.pointer none)
  | .nilm => some (.map none)
  | .nilf => some .nilFunc
  | .nili => some .nilIface
  | _ => none

def scalVs : List D → Option (List Value)
  | [] => some []
  | d :: r => match scalV d, scalVs r with
    | some v, some vs => some (v :: vs)
    | _, _ => none

def toV : D → Option Value
  | .agg cs => (scalVs cs).map fun vs => .agg vs.toArray
  | d => scalV d

def ofV : Value → Option D
  | .bool b => some (.bool b)
  | .int k n => some (.int k n)
  | .string s => some (.str s)
  | _ => none

/-- A computation that asks nothing of the world. -/
def pureRun {α : Type} (P : Program) : Sem α → Option α
  | .pure a => some a
  | .program k => pureRun P (k P)
  | _ => none

/-! ### the state -/
inductive Ref where
  | l (i g : Nat)
  | h (i : Nat)
  deriving DecidableEq, Inhabited

def getL (loc : Nat → LOb) (i g : Nat) : Option Ob := cond (Nat.beq (loc i).g g) (loc i).o none

def getH (hp : Hp) (i : Nat) : Option HOb :=
  match nth hp.objs i with
  | some o => o
  | none => none

def get (σ : St) : Ref → Option Ob
  | .l i g => getL σ.loc i g
  | .h i => (getH σ.hp i).map (·.o)

def frozen (σ : St) : Ref → Bool
  | .l i _ => σ.fz i
  | .h i => ((getH σ.hp i).map (·.fz)).getD true

def ptrOf : AV → Option (Ref × Nat)
  | .lp i g off => some (.l i g, off)
  | .d (.ptr id off) => some (.h id, off)
  | _ => none

def elOf : AV → Option (Ref × Nat × Nat)
  | .lr i g j off => some (.l i g, j, off)
  | .d (.hr id j off) => some (.h id, j, off)
  | _ => none

/-- A slice of a row: the whole row, or a part. -/
def slOf : AV → Option (Ref × Option (Nat × Nat))
  | .lsf i g => some (.l i g, none)
  | .ls i g off len => some (.l i g, some (off, len))
  | .d (.hsf id) => some (.h id, none)
  | .d (.hs id off len) => some (.h id, some (off, len))
  | _ => none

def mkPtr : Ref → Nat → AV
  | .l i g, off => .lp i g off
  | .h id, off => .d (.ptr id off)

def mkEl : Ref → Nat → Nat → AV
  | .l i g, j, off => .lr i g j off
  | .h id, j, off => .d (.hr id j off)

def mkSl : Ref → Nat → Nat → AV
  | .l i g, off, len => .ls i g off len
  | .h id, off, len => .d (.hs id off len)

def omin (a : Option Nat) (b : Nat) : Option Nat :=
  match a with
  | some x => some (min x b)
  | none => some b

def ominO (a b : Option Nat) : Option Nat :=
  match b with
  | some y => omin a y
  | none => a

/-- What an operation does: its value, what is written to local objects, which are handed on as data (or are new), and the heap. -/
structure Eff where
  v : AV
  lw : List (Nat × LOb) := []
  fw : List (Nat × Bool) := []
  hw : Option Hp := none

def setMany {α : Type} (l : Nat → α) (ws : List (Nat × α)) : Nat → α := ws.foldl (fun l w => upd l w.1 w.2) l

def apply (σ : St) (dst : Option Nat) (e : Eff) : St :=
  { env := match dst with
      | some t => upd σ.env t e.v
      | none => σ.env
    loc := setMany σ.loc e.lw
    fz := setMany σ.fz e.fw
    hp := match e.hw with
      | some h => h
      | none => σ.hp }

/-- Operands. -/
def constD : Value → Option D
  | .agg cs => (dsOfVals cs.toList).map .agg
  | .tuple cs => (dsOfVals cs.toList).map .tup
  | v => dOfVal v

def opd (env : Nat → AV) : Operand → Option AV
  | .tmp t => match env t with
    | .d .undef => none
    | v => some v
  | .const v => (constD v).map .d
  | .func f => some (.d (.fn f [] []))
  | .global _ => none

def opds (env : Nat → AV) : List Operand → Option (List AV)
  | [] => some []
  | x :: r => match opd env x, opds env r with
    | some v, some vs => some (v :: vs)
    | _, _ => none

/-- A local row's elements. -/
def rowL (loc : Nat → LOb) (i g : Nat) : Option (List D) :=
  match getL loc i g with
  | some (.row _ xs) => some xs
  | some .bare => some []
  | _ => none

/-- One cell handed on as data; the rows that are data from now on. -/
def resolve1 (loc : Nat → LOb) : AV → Option (D × List (Nat × Bool))
  | .d .undef => none
  | .d x => some (x, [])
  | .lsf i g => (rowL loc i g).map fun xs => (.list xs, [(i, true)])
  | .ls i g off len => (rowL loc i g).bind fun xs => if off + len ≤ xs.length then some (.list ((xs.drop off).take len), [(i, true)]) else none
  | _ => none

def resolveL (loc : Nat → LOb) : List AV → Option (List D × List (Nat × Bool))
  | [] => some ([], [])
  | v :: r => match resolve1 loc v, resolveL loc r with
    | some (x, f), some (xs, fs) => some (x :: xs, f ++ fs)
    | _, _ => none

def resolve (loc : Nat → LOb) : AV → Option (D × List (Nat × Bool))
  | .agg cs => (resolveL loc cs).map fun p => (.agg p.1, p.2)
  | v => resolve1 loc v

def resolveN (loc : Nat → LOb) (v : AV) : Option (D × List (Nat × Bool)) := (resolve loc v).map fun p => (p.1.norm, p.2)

/-- Values handed on to a call, or back; raw: a slice without memory stays one. -/
def resolves (raw : Bool) (loc : Nat → LOb) : List AV → Option (List D × List (Nat × Bool))
  | [] => some ([], [])
  | v :: r => match (if raw then resolve loc v else resolveN loc v), resolves raw loc r with
    | some (x, f), some (xs, fs) => some (x :: xs, f ++ fs)
    | _, _ => none

/-! ### what leads to the heap -/
mutual
def D.flatD : D → Bool
  | .agg cs | .tup cs | .list cs | .ipt cs => D.flatDs cs
  | .fn _ a b => D.flatDs a && D.flatDs b
  | .iface _ d => d.flatD
  | .ptr .. | .hr .. | .map _ | .hsf _ | .hs .. | .own .. => false
  | _ => true
def D.flatDs : List D → Bool
  | [] => true
  | d :: r => d.flatD && D.flatDs r
end

def setHp (hp : Hp) (id : Nat) (o : Option HOb) (flat : Bool) : Hp :=
  { objs := setNth hp.objs id o, ch := omin hp.ch id, es := if flat then hp.es else omin hp.es id }
def pushHp (hp : Hp) (o : HOb) : Hp := { hp with objs := hp.objs ++ [some o] }

def below (n : Nat) (o : Option Nat) : Option Nat :=
  match o with
  | some i => if i < n then some i else none
  | none => none

/-! ### memory -/
def splice {α : Type} (cs : List α) (off : Nat) (new : List α) : List α := cs.take off ++ new ++ cs.drop (off + new.length)

/-- The value of so many cells. -/
def valD (agg : Bool) (n : Nat) (cs : List D) : Option D :=
  if agg then (if n ≤ cs.length then some (.agg (cs.take n)) else none) else cs.head?
def valA (agg : Bool) (n : Nat) (cs : List AV) : Option AV :=
  if agg then (if n ≤ cs.length then some (mkAgg (cs.take n)) else none) else cs.head?

/-- An element, or a part of it. -/
def partD (agg : Bool) (n off : Nat) (x : D) : Option D :=
  match x with
  | .agg cs => valD agg n (cs.drop off)
  | x => if off = 0 ∧ agg = false then some x else none

def loadAt (c : Cfg) (σ : St) (T : TypeId) (a : AV) : Option AV :=
  match ptrOf a with
  | some (r, off) => match get σ r with
    | some (.box _ cs) => valA (isAggT c.P T) (sizeT c.P T) (cs.drop off)
    | _ => none
  | none => match elOf a with
    | some (r, j, off) => match get σ r with
      | some (.row _ xs) => (xs[j]?).bind fun x => (partD (isAggT c.P T) (sizeT c.P T) off x).map .d
      | _ => none
    | none => match a with
      | .d (.ipt cs) => (valD (isAggT c.P T) (sizeT c.P T) cs).map .d
      | _ => none

def load (c : Cfg) (σ : St) (T : TypeId) (a : AV) : Option AV := if (c.P.underlying T).isSome then loadAt c σ T a else none

def spliceEl (x : D) (off : Nat) (new : List D) : Option D :=
  match x with
  | .agg cs => if off + new.length ≤ cs.length then some (.agg (splice cs off new)) else none
  | _ => match off, new with
    | 0, [y] => some y
    | _, _ => none

/-- Is a row data already, these being handed on, too? -/
def frozenF (σ : St) (f : List (Nat × Bool)) : Ref → Bool
  | .l i _ => setMany σ.fz f i
  | .h i => frozen σ (.h i)

/-- An object gets new contents. -/
def putOb (σ : St) (r : Ref) (o : Ob) (flat : Bool) (f : List (Nat × Bool)) : Eff :=
  match r with
  | .l i g => { v := .d .undef, lw := [(i, ⟨g, some o⟩)], fw := f }
  | .h id => { v := .d .undef, fw := f, hw := some (setHp σ.hp id (some ⟨o, (getH σ.hp id).elim true (·.fz)⟩) flat) }

def storeAt (c : Cfg) (σ : St) (T : TypeId) (a : AV) (v : AV) : Option Eff :=
  match ptrOf a with
  | some (r, off) => match get σ r with
    | some (.box U cs) =>
      match r with
      | .l i g => if v.oneB = true ∧ v.cells.length = sizeT c.P T ∧ off + v.cells.length ≤ cs.length then some { v := .d .undef, lw := [(i, ⟨g, some (.box U (splice cs off v.cells))⟩)] } else none
      | .h id => match resolve σ.loc v with
        | some (x, f) => if x.oneB = true ∧ x.cells.length = sizeT c.P T ∧ off + x.cells.length ≤ cs.length then some (putOb σ (.h id) (.box U (splice cs off (x.cells.map .d))) x.flatD f) else none
        | none => none
    | _ => none
  | none => match elOf a with
    | some (r, j, off) => match get σ r, resolveN σ.loc v with
      | some (.row U xs), some (x, f) =>
        if frozenF σ f r then none else
        match (xs[j]?).bind fun y => spliceEl y off x.cells with
        | some y' => if x.oneB = true ∧ x.cells.length = sizeT c.P T then some (putOb σ r (.row U (xs.set j y')) x.flatD f) else none
        | none => none
      | _, _ => none
    | none => none

def store (c : Cfg) (σ : St) (T : TypeId) (a : AV) (v : AV) : Option Eff := if 0 < sizeT c.P T then storeAt c σ T a v else none

/-- A new variable: at the place of its slot, or on the heap. -/
def newBox (σ : St) (heap : Bool) (t : Nat) (T : TypeId) (cs : List AV) : Option Eff :=
  if heap then
    match resolveL σ.loc cs with
    | some (ds, f) => some { v := .d (.ptr σ.hp.objs.length 0), fw := f, hw := some (pushHp σ.hp ⟨.box T (ds.map .d), false⟩) }
    | none => none
  else let b := σ.loc t
    some { v := .lp t (b.g + 1) 0, lw := [(t, ⟨b.g + 1, some (.box T cs)⟩)], fw := [(t, false)] }

/-- A new row. -/
def newRow (c : Cfg) (σ : St) (heap : Bool) (t : Nat) (T : TypeId) (xs : List D) (f : List (Nat × Bool)) : Option Eff :=
  if rowT c.P T then
    if heap then some { v := .d (.hsf σ.hp.objs.length), fw := f, hw := some (pushHp σ.hp ⟨.row T xs, false⟩) }
    else let b := σ.loc t
      some { v := .lsf t (b.g + 1), lw := [(t, ⟨b.g + 1, some (.row T xs)⟩)], fw := f ++ [(t, false)] }
  else none

/-- A new row; it may be data at once. -/
def newRowZ (c : Cfg) (σ : St) (frz heap : Bool) (t : Nat) (T : TypeId) (xs : List D) (f : List (Nat × Bool)) : Option Eff :=
  if frz then (if rowT c.P T then some { v := .d (.list xs), fw := f } else none) else newRow c σ heap t T xs f

/-- Have the elements of a list so many cells? (All have as many as the first.) -/
def headOk (P : Program) (E : TypeId) (xs : List D) : Bool :=
  match xs with
  | [] => true
  | x :: _ => Nat.beq x.cells.length (sizeT P E)

def sameSz (P : Program) (U E : TypeId) : Bool := Nat.beq (sizeT P U) (sizeT P E)

/-- The elements of a slice of elements of a type. -/
def elems (c : Cfg) (σ : St) (E : TypeId) (v : AV) : Option (List D) :=
  match v with
  | .d (.list xs) => if headOk c.P E xs then some xs else none
  | .d .nil0 => some []
  | v => match slOf v with
    | some (r, w) => match get σ r with
      | some (.row U xs) => if sameSz c.P U E then match w with
        | none => some xs
        | some (off, len) => if off + len ≤ xs.length then some ((xs.drop off).take len) else none
        else none
      | some .bare => match w with
        | none => some []
        | some (0, 0) => some []
        | _ => none
      | _ => none
    | none => none

def lenS (σ : St) (v : AV) : Option Nat :=
  match v with
  | .d (.list xs) => some xs.length
  | .d .nil0 => some 0
  | v => match slOf v with
    | some (_, some (_, len)) => some len
    | some (r, none) => match get σ r with
      | some (.row _ xs) => some xs.length
      | some .bare => some 0
      | _ => none
    | none => none

/-! ### operations -/
def maxN : Nat := 1073741824

def oneBs : List D → Bool
  | [] => true
  | d :: r => d.oneB && oneBs r

def append (c : Cfg) (σ : St) (heap : Bool) (t : Nat) (E : TypeId) (s : AV) (ys : List D) : Option Eff :=
  if rowT c.P E && oneBs ys then
  match s with
  | .d .nil0 => if ys.isEmpty then some { v := .d .nil0 } else if ys.length ≤ maxN then newRow c σ heap t E ys [] else none
  | s => match slOf s with
    | some (r, none) => match get σ r with
      | some (.row T xs) =>
        if ys.isEmpty then some { v := s }
        else if T = E ∧ xs.length + ys.length ≤ maxN then
          match r with
          | .l i g => some { v := .lsf i (g + 1), lw := [(i, ⟨g + 1, some (.row T (xs ++ ys))⟩)] }
          | .h id => some { v := .d (.hsf σ.hp.objs.length), hw := some (pushHp (setHp σ.hp id none true) ⟨.row T (xs ++ ys), frozen σ r⟩) }
        else none
      | some .bare =>
        if ys.isEmpty then some { v := s }
        else if ys.length ≤ maxN then
          match r with
          | .l i g => some { v := .lsf i (g + 1), lw := [(i, ⟨g + 1, some (.row E ys)⟩)], fw := [(i, false)] }
          | _ => none
        else none
      | _ => none
    | some (r, some (0, len)) => match get σ r with
      | some (.row T xs) =>
        if ys.isEmpty then (if len ≤ xs.length then some { v := s } else none)
        else if frozen σ r then none
        else if T = E ∧ len + ys.length ≤ xs.length then
          let e := putOb σ r (.row T (xs.take len ++ ys ++ xs.drop (len + ys.length))) (D.flatDs ys) []
          some { e with v := mkSl r 0 (len + ys.length) }
        else if T = E ∧ len ≤ xs.length ∧ len + ys.length ≤ maxN then
          match r with
          | .l i g => some { v := .lsf i (g + 1), lw := [(i, ⟨g + 1, some (.row T (xs.take len ++ ys))⟩)] }
          | .h _ => none
        else none
      | _ => none
    | _ => none
  else none

def sliceOp (c : Cfg) (σ : St) (E : TypeId) (x : AV) (lo hi : Option Nat) : Option AV :=
  match x with
  | .d (.list xs) => if lo.getD 0 ≤ hi.getD xs.length ∧ hi.getD xs.length ≤ xs.length ∧ headOk c.P E xs = true then some (.d (.list ((xs.drop (lo.getD 0)).take (hi.getD xs.length - lo.getD 0)))) else none
  | .d .nil0 => if lo.getD 0 = 0 ∧ hi.getD 0 = 0 then some (.d .nil0) else none
  | x => match slOf x with
    | some (r, w) => match get σ r with
      | some (.row U xs) =>
        if lo.getD 0 ≤ hi.getD (w.elim xs.length (·.2)) ∧ w.elim 0 (·.1) + hi.getD (w.elim xs.length (·.2)) ≤ xs.length ∧ sameSz c.P U E = true then
          if lo.getD 0 = hi.getD (w.elim xs.length (·.2)) ∧ 0 < lo.getD 0 then some (.d (.list [])) else some (mkSl r (w.elim 0 (·.1) + lo.getD 0) (hi.getD (w.elim xs.length (·.2)) - lo.getD 0))
        else none
      | some .bare => if lo.getD 0 = 0 ∧ hi.getD 0 = 0 ∧ w.elim 0 (·.1) = 0 ∧ w.elim 0 (·.2) = 0 then some (mkSl r 0 0) else none
      | _ => none
    | none => none

def natOf : AV → Option Nat
  | .d (.int _ n) => if 0 ≤ n then some n.toNat else none
  | _ => none

def optNat (env : Nat → AV) : Option Operand → Option (Option Nat)
  | none => some none
  | some x => ((opd env x).bind natOf).map some

/-- Are two keys one? Keys of one cell at once, others as the model asks. -/
def keyEq (P : Program) (K : TypeId) : D → D → Option Bool
  | .int j a, .int k b => if j = k ∧ isIntT P K = true then some (a == b) else none
  | .str a, .str b => if isStrT P K then some (a == b) else none
  | .bool a, .bool b => if isBoolT P K then some (a == b) else none
  | .agg as, .agg bs => match toV (.agg as), toV (.agg bs) with
    | some u, some v => pureRun P (Op.equal K u v)
    | _, _ => none
  | _, _ => none

/-- May a value be a key? -/
def keyOk (P : Program) (K : TypeId) (empty : Bool) (k : D) : Bool :=
  match k with
  | .agg as => match toV (.agg as) with
    | some u => (pureRun P (Instr.checkKey empty 10000 K u)).isSome
    | none => false
  | _ => isKeyT P K

/-- The place of a key: none: it can't be told. -/
def find (P : Program) (K : TypeId) (k : D) : List (D × D) → Nat → Option (Option Nat)
  | [], _ => some none
  | e :: r, i => match keyEq P K k e.1 with
    | some true => some (some i)
    | some false => find P K k r (i + 1)
    | none => none

def mapOf (hp : Hp) (id : Nat) : Option (List (D × D)) :=
  match getH hp id with
  | some ⟨.map es, _⟩ => some es
  | _ => none

def findK (P : Program) (K : TypeId) (empty : Bool) (k : D) (es : List (D × D)) : Option (Option Nat) := if keyOk P K empty k then find P K k es 0 else none

def setMap (hp : Hp) (id : Nat) (es : List (D × D)) (flat : Bool) : Hp := setHp hp id (some ⟨.map es, (getH hp id).elim true (·.fz)⟩) flat

/-- Of two equal keys, is the new one the old one? -/
def stays (old new : D) : Bool :=
  match old with
  | .agg _ => match toV old, toV new with
    | some u, some v => Instr.sameBits 10000 u v
    | _, _ => false
  | _ => true

def mapSet (P : Program) (K : TypeId) (hp : Hp) (id : Nat) (k v : D) : Option Hp :=
  match mapOf hp id with
  | some es => match findK P K false k es with
    | some (some i) => if stays (((es[i]?).map (·.1)).getD k) k then some (setMap hp id (es.set i (k, v)) (k.flatD && v.flatD)) else none
    | some none => some (setMap hp id (es ++ [(k, v)]) (k.flatD && v.flatD))
    | none => none
  | none => none

def isPtrI (P : Program) (t : TypeId) : Bool :=
  match P.underlying t with
  | some (.pointer e) => (P.info? e).isSome
  | _ => false

/-- Are two values one, of which one may lead to memory? Nil is no other. -/
def eqNil (P : Program) (t : TypeId) : AV → AV → Option Bool
  | .d .nilp, .d .nilp => if isPtrT P t then some true else none
  | .d .nilp, .d (.ptr ..) | .d (.ptr ..), .d .nilp => if isPtrT P t then some false else none
  | .d .nilp, .lp .. | .lp .., .d .nilp => if isPtrT P t then some false else none
  | .d .nilf, .d .nilf => if isFnT P t then some true else none
  | .d .nilf, .d (.fn ..) | .d (.fn ..), .d .nilf => if isFnT P t then some false else none
  | .d (.ptr i a), .d (.ptr j b) => if isPtrI P t && (Nat.beq i j && Nat.beq a b) then some true else none
  | _, _ => none

def isSlT (P : Program) (t : TypeId) : Bool :=
  match P.underlying t with
  | some (.slice _) => true
  | _ => false

def isNilC : Operand → Bool
  | .const (.slice none 0 0) => true
  | _ => false

/-- A slice that has elements is not nil. -/
def eqSl (P : Program) (σ : St) (t : TypeId) (yo : Operand) (x : AV) : Option Bool :=
  match x with
  | .d (.list (_ :: _)) => if isSlT P t && isNilC yo then some false else none
  | .d (.hsf i) => match get σ (.h i) with
    | some (.row _ (_ :: _)) => if isSlT P t && isNilC yo then some false else none
    | _ => none
  | _ => none

def eqAny (P : Program) (σ : St) (t : TypeId) (yo : Operand) (x y : AV) : Option Bool :=
  match eqNil P t x y with
  | some b => some b
  | none => eqSl P σ t yo x

def eqOp (P : Program) (σ : St) (t : TypeId) (op : BinOp) (yo : Operand) (x y : AV) : Option AV :=
  match op with
  | .eql => (eqAny P σ t yo x y).map fun b => .d (.bool b)
  | .neq => (eqAny P σ t yo x y).map fun b => .d (.bool !b)
  | _ => none

def binop (c : Cfg) (σ : St) (op : BinOp) (t : TypeId) (xo yo : Operand) (x y : AV) : Option AV :=
  match eqOp c.P σ t op yo x y with
  | some r => some r
  | none => match x, y with
    | .d a, .d b => match toV a, toV b with
      | some u, some v => ((pureRun c.P (do eqGuard op t xo yo u v; Go.binOp op t u v)).bind ofV).map .d
      | _, _ => none
    | _, _ => none

def typeAt (ts : Array TypeId) : TypeId := (ts[0]?).getD 0
def elemAt (P : Program) (ts : Array TypeId) : Option TypeId := (ts[0]?).bind (elemT P)

def lenOp (c : Cfg) (σ : St) (ts : Array TypeId) (v : AV) : Option Eff :=
  match v with
  | .d (.str s) => if (ts[0]?).isSome ∧ isStrT c.P (typeAt ts) = true then some { v := .d (.int .i64 s.size) } else none
  | .d .nilm => if (ts[0]?).isSome ∧ isMapT c.P (typeAt ts) = true then some { v := .d (.int .i64 0) } else none
  | .d (.map id) => if (ts[0]?).isSome ∧ isMapT c.P (typeAt ts) = true then (mapOf σ.hp id).map fun es => { v := .d (.int .i64 es.length) } else none
  | v => match elemAt c.P ts with
    | some _ => (lenS σ v).map fun (n : Nat) => { v := .d (.int .i64 n) }
    | none => none

def appendOp (c : Cfg) (σ : St) (heap : Bool) (t : Nat) (ts : Array TypeId) (s x : AV) : Option Eff :=
  match ts.toList with
  | [T, U] => match elemT c.P T with
    | some E => if isRowT c.P U then
      match x with
      | .d (.str b) => if isStrT c.P U = true ∧ sizeT c.P E = 1 then append c σ heap t E s (b.data.toList.map fun x => .int .u8 x.toNat) else none
      | x => (elems c σ E x).bind fun ys => append c σ heap t E s ys
      else match s, x with
        | .d .nil0, .d (.int _ n) => if isIntT c.P U = true ∧ 0 < n ∧ n ≤ maxN then (zeroEl c.P E).bind fun z => newRow c σ heap t E (List.replicate n.toNat z) [] else none
        | _, _ => none
    | none => none
  | _ => none

def deleteOp (c : Cfg) (σ : St) (ts : Array TypeId) (id : Nat) (k : AV) : Option Eff :=
  match (ts[0]?).bind (mapT c.P), resolveN σ.loc k, mapOf σ.hp id with
  | some (K, _), some (k, f), some es => match findK c.P K es.isEmpty k es with
    | some (some i) => some { v := .d (.tup []), fw := f, hw := some (setMap σ.hp id (es.eraseIdx i) true) }
    | some none => some { v := .d (.tup []), fw := f }
    | none => none
  | _, _, _ => none

def clearOp (c : Cfg) (σ : St) (ts : Array TypeId) (v : AV) : Option Eff :=
  match v with
  | .d (.list []) => (elemAt c.P ts).map fun _ => { v := .d (.tup []) }
  | .d .nil0 => (elemAt c.P ts).map fun _ => { v := .d (.tup []) }
  | v => match slOf v, elemAt c.P ts with
    | some (r, some (off, len)), some E => match get σ r, zeroEl c.P E with
      | some (.row T xs), some z => if T = E ∧ frozen σ r = false ∧ off + len ≤ xs.length then
          some { putOb σ r (.row T (xs.take off ++ List.replicate len z ++ xs.drop (off + len))) true [] with v := .d (.tup []) } else none
      | _, _ => none
    | _, _ => none

/-- A call of a built-in function. -/
def builtinOp (c : Cfg) (σ : St) (heap : Bool) (t : Nat) (b : Builtin) (ts : Array TypeId) (args : List AV) : Option Eff :=
  match b, args with
  | .len, [v] => lenOp c σ ts v
  | .cap, [.d .nil0] => (elemAt c.P ts).map fun _ => { v := .d (.int .i64 0) }
  | .min, [.d (.int k x), .d (.int _ y)] => some { v := .d (.int k (if y < x then y else x)) }
  | .min, [.d (.int k x), .d (.int _ y), .d (.int _ z)] => some { v := .d (.int k (if z < (if y < x then y else x) then z else (if y < x then y else x))) }
  | .max, [.d (.int k x), .d (.int _ y)] => some { v := .d (.int k (if y > x then y else x)) }
  | .append, [s, x] => appendOp c σ heap t ts s x
  | .delete, [.d (.map id), k] => deleteOp c σ ts id k
  | .clear, [v] => clearOp c σ ts v
  | _, _ => none

/-- What comes back from a call: a value; a row of the caller's own, if it is one. -/
def back (σ : St) (t : Nat) (f : List (Nat × Bool)) (R : Res) : Option Eff :=
  match R.r with
  | .own T xs => let b := σ.loc t
    some { v := .lsf t (b.g + 1), lw := [(t, ⟨b.g + 1, some (if T = 0 then .bare else .row T xs)⟩)], fw := f ++ [(t, false)], hw := some R.hp }
  | x => some { v := .d x, fw := f, hw := some R.hp }

def joinHp (hp : Hp) (h : Hp) : Hp := { objs := h.objs, ch := ominO hp.ch h.ch, es := ominO hp.es h.es }

/-- A row that was lent comes back. -/
def lentRow (hp : Hp) (id j T : Nat) : Option (List D) :=
  if id ≤ j then
    match getH hp j with
    | some ⟨.row U ys, false⟩ => if U = T ∧ D.flatDs ys = true then some ys else none
    | _ => none
  else none

/-- What comes back where a row was lent. -/
def lentBack (i n T k : Nat) (f : List (Nat × Bool)) (id : Nat) (R : Res) : Option Eff :=
  match R.r with
  | .hsf j => (lentRow R.hp id j T).map fun ys => { v := .lsf i (n + 1), lw := [(i, ⟨n + 1, some (.row T ys)⟩)], fw := f }
  | .hs j 0 len => (lentRow R.hp id j T).bind fun ys => if len ≤ ys.length then some { v := .lsf i (n + 1), lw := [(i, ⟨n + 1, some (.row T (ys.take len))⟩)], fw := f } else none
  | .tup [] => (lentRow R.hp id id T).bind fun ys => if ys.length = k then some { v := .d (.tup []), lw := [(i, ⟨n, some (.row T ys)⟩)], fw := f } else none
  | _ => none

/-- The call of a function that works on a row of the caller's: the row is lent to the heap. -/
def lendOp (call : CallF) (σ : St) (g : FuncId) (first caps : List D) (i n : Nat) (w : Option (Nat × Nat)) (rest : List AV) : Option Eff :=
  match getL σ.loc i n, resolves false σ.loc rest with
  | some .bare, some (ds, f) =>
    if w.elim 0 (·.2) = 0 then
      match call g (first ++ .nil0 :: ds ++ caps) σ.hp with
      | some R => match R.r with
        | .tup [] | .list [] => back σ 0 f { R with hp := joinHp σ.hp R.hp }
        | _ => none
      | none => none
    else none
  | some (.row T xs), some (ds, f) =>
    if setMany σ.fz f i then none else
    match call g (first ++ (match w with | none => .hsf σ.hp.objs.length | some p => .hs σ.hp.objs.length p.1 p.2) :: ds ++ caps) (pushHp σ.hp ⟨.row T xs, false⟩) with
    | some R => if (below σ.hp.objs.length R.hp.ch).isNone then lentBack i n T xs.length f σ.hp.objs.length R else none
    | none => none
  | _, _ => none

/-- The call of a function. -/
def callOp (c : Cfg) (call : CallF) (σ : St) (t : Nat) (f : AV) (args : List AV) : Option Eff :=
  match f with
  | .d (.fn g first caps) => match (if c.byref g then args else []) with
    | .lsf i n :: rest => lendOp call σ g first caps i n none rest
    | .ls i n off len :: rest => lendOp call σ g first caps i n (some (off, len)) rest
    | _ => match resolves (c.raw g) σ.loc args with
      | some (ds, fw) => match call g (first ++ ds ++ caps) σ.hp with
        | some R => back σ t fw { R with hp := joinHp σ.hp R.hp }
        | none => none
      | none => none
  | _ => none

def isHeap (c : Cfg) (f : FuncId) (o : Oper) : Bool :=
  match o.dst with
  | some d => (c.heapDst f).contains d
  | none => false

def isFrz (c : Cfg) (f : FuncId) (o : Oper) : Bool :=
  match o.dst with
  | some d => (c.frzDst f).contains d
  | none => false

def accOf (c : Cfg) (f : FuncId) (o : Oper) : Option Nat :=
  match o.dst with
  | some d => ((c.accDst f).find? fun p => p.1 == d).map (·.2)
  | none => none

def fillD (place : Nat → Option (Nat × Nat)) (cs : List AV) : List (Nat × AV) → Option (List AV)
  | [] => some cs
  | (i, v) :: r => match place i with
    | some (off, n) => if v.oneB = true ∧ v.cells.length = n ∧ off + n ≤ cs.length then fillD place (splice cs off v.cells) r else none
    | none => none

def parts (env : Nat → AV) : List (Nat × Operand) → Option (List (Nat × AV))
  | [] => some []
  | (i, x) :: r => match opd env x, parts env r with
    | some v, some vs => some ((i, v) :: vs)
    | _, _ => none

def fillE (n : Nat) (xs : List D) : List (Nat × D) → Option (List D)
  | [] => some xs
  | (i, v) :: r => if v.oneB = true ∧ v.cells.length = n ∧ i < xs.length then fillE n (xs.set i v) r else none

def partsD (loc : Nat → LOb) : List (Nat × AV) → Option (List (Nat × D) × List (Nat × Bool))
  | [] => some ([], [])
  | (i, v) :: r => match resolveN loc v, partsD loc r with
    | some (d, f), some (ds, fs) => some ((i, d) :: ds, f ++ fs)
    | _, _ => none

def bytesGo : List D → Option (List UInt8)
  | [] => some []
  | .int .u8 n :: r => (bytesGo r).map (UInt8.ofNat n.toNat :: ·)
  | _ => none
def bytesOf (xs : List D) : Option ByteArray := (bytesGo xs).map fun l => ⟨l.toArray⟩

/-- From bytes to a string? -/
def toStr (P : Program) (s t : TypeId) : Bool :=
  match P.underlying s, P.underlying t with
  | some (.slice e), some .string => (match P.underlying e with | some (.int .u8) => true | _ => false)
  | _, _ => false

/-- A new variable's slices, each as a row of its own without memory, at the places from k on. -/
def accCells (loc : Nat → LOb) (k : Nat) : List D → Option (List AV × List (Nat × LOb) × List (Nat × Bool))
  | [] => some ([], [], [])
  | .nil0 :: r => match accCells (upd loc k ⟨(loc k).g + 1, some .bare⟩) (k + 1) r with
    | some (vs, ls, fs) => some (.lsf k ((loc k).g + 1) :: vs, (k, ⟨(loc k).g + 1, some .bare⟩) :: ls, (k, false) :: fs)
    | none => none
  | x :: r => match accCells loc k r with
    | some (vs, ls, fs) => some (.d x :: vs, ls, fs)
    | none => none

def szNe (P : Program) (e : TypeId) : Bool :=
  match P.info? e with
  | some i => !Nat.beq i.size 0
  | none => false

/-- A pointer to a variable of the heap, seen as memory, or back. -/
def convP (P : Program) (σ : St) (s t : TypeId) (v : AV) : Option AV :=
  match v with
  | .d (.ptr id off) => match get σ (.h id) with
    | some (.box T cs) => match P.underlying s, P.underlying t with
      | some (.pointer e), some .unsafePointer => if Nat.blt off cs.length && szNe P e then some (.d (.ptr id off)) else none
      | some .unsafePointer, some (.pointer u) => if (P.info? u).isSome && liesAt P P.depth T (cs.length / P.cellsOf T) off u 1 then some (.d (.ptr id off)) else none
      | _, _ => none
    | _ => none
  | _ => none

def convOp (c : Cfg) (σ : St) (s t : TypeId) (v : AV) : Option AV :=
  match convP c.P σ s t v with
  | some r => some r
  | none =>
  if toStr c.P s t then
    match v with
    | .lb i g off n => match getL σ.loc i g with
      | some (.box _ cs) => if off + n ≤ cs.length then ((allD ((cs.drop off).take n)).bind bytesOf).map fun b => .d (.str b) else none
      | _ => none
    | v => match elemT c.P s with
      | some E => if sizeT c.P E = 1 then ((elems c σ E v).bind bytesOf).map fun b => .d (.str b) else none
      | none => none
  else match v with
    | .d a => match toV a with
      | some u => ((pureRun c.P (Go.convert s t u)).bind ofV).map .d
      | none => none
    | _ => none

def indexOp (c : Cfg) (σ : St) (T : TypeId) (a : AV) (i : Nat) : Option AV :=
  match arrT c.P T with
  | some (n, E) => if i < n then
      match ptrOf a with
      | some (r, off) => some (mkPtr r (off + i * sizeT c.P E))
      | none => match elOf a with
        | some (r, j, off) => some (mkEl r j (off + i * sizeT c.P E))
        | none => match a with
          | .d (.ipt cs) => some (.d (.ipt (cs.drop (i * sizeT c.P E))))
          | _ => none
    else none
  | none => match elemT c.P T with
    | some E => match a with
      | .d (.list xs) => (xs[i]?).bind fun x => if x.oneB = true ∧ x.cells.length = sizeT c.P E then some (.d (.ipt x.cells)) else none
      | a => match slOf a with
        | some (r, w) => match get σ r with
          | some (.row U xs) => if i < w.elim xs.length (·.2) ∧ w.elim 0 (·.1) + i < xs.length ∧ sameSz c.P U E = true then some (mkEl r (w.elim 0 (·.1) + i) 0) else none
          | _ => none
        | none => none
    | none => none

def fieldOp (a : AV) (off : Nat) : Option AV :=
  match ptrOf a with
  | some (r, o) => some (mkPtr r (o + off))
  | none => match elOf a with
    | some (r, j, o) => some (mkEl r j (o + off))
    | none => match a with
      | .d (.ipt cs) => some (.d (.ipt (cs.drop off)))
      | _ => none

def pureEff (v : Option AV) : Option Eff := v.map fun v => { v := v }

def opMove (c : Cfg) (f : FuncId) (σ : St) (o : Oper) (x : Operand) : Option Eff :=
  match opd σ.env x with
  | some v =>
    match accOf c f o, v with
    | some _, .d .nil0 => let b := σ.loc (o.dst.getD 0)
      some { v := .lsf (o.dst.getD 0) (b.g + 1), lw := [(o.dst.getD 0, ⟨b.g + 1, some .bare⟩)], fw := [(o.dst.getD 0, false)] }
    | _, v => if isFrz c f o then (resolveN σ.loc v).map fun p => { v := .d p.1, fw := p.2 } else some { v := v }
  | none => none

def opPick (σ : St) (x a b : Operand) : Option Eff :=
  match opd σ.env x with
  | some (.d (.bool t)) => pureEff (opd σ.env (if t then a else b))
  | _ => none

def opAlloc (c : Cfg) (f : FuncId) (σ : St) (o : Oper) (T : TypeId) : Option Eff :=
  match zeroCells c.P T with
  | some cs => match accOf c f o with
    | some k => match accCells σ.loc k cs with
      | some (vs, lw, fw) => match newBox (apply σ none { v := .d .undef, lw := lw, fw := fw }) false (o.dst.getD 0) T vs with
        | some e => some { e with lw := lw ++ e.lw, fw := fw ++ e.fw }
        | none => none
      | none => none
    | none => newBox σ (isHeap c f o) (o.dst.getD 0) T (cs.map .d)
  | none => none

def opBox (c : Cfg) (f : FuncId) (σ : St) (o : Oper) (T : TypeId) (x : Operand) : Option Eff :=
  match opd σ.env x with
  | some v => if v.oneB then newBox σ (isHeap c f o) (o.dst.getD 0) T v.cells else none
  | none => none

def opBuild (c : Cfg) (σ : St) (T : TypeId) (ps : Array (Nat × Operand)) : Option Eff :=
  match zeroCells c.P T, parts σ.env ps.toList with
  | some z, some vs =>
    match fillD (fun i => match field? c.P T i with
      | some fl => some (fl.offset, sizeT c.P fl.type)
      | none => (arrT c.P T).map fun p => (i * sizeT c.P p.2, sizeT c.P p.2)) (z.map .d) vs with
    | some cs => if isAggT c.P T then some { v := mkAgg cs } else none
    | none => none
  | _, _ => none

def opBuildSlice (c : Cfg) (f : FuncId) (σ : St) (o : Oper) (T : TypeId) (n : Nat) (ps : Array (Nat × Operand)) : Option Eff :=
  match elemT c.P T, (parts σ.env ps.toList).bind (partsD σ.loc) with
  | some E, some (ds, fw) => match zeroEl c.P E with
    | some z => match fillE (sizeT c.P E) (List.replicate n z) ds with
      | some xs => if n * sizeT c.P E ≤ 16777216 then newRowZ c σ (isFrz c f o) (isHeap c f o) (o.dst.getD 0) E xs fw else none
      | none => none
    | none => none
  | _, _ => none

def opLoad (c : Cfg) (σ : St) (T : TypeId) (a : Operand) : Option Eff :=
  match opd σ.env a with
  | some a => pureEff (load c σ T a)
  | none => none

def opStore (c : Cfg) (σ : St) (T : TypeId) (a x : Operand) : Option Eff :=
  match opd σ.env a, opd σ.env x with
  | some a, some v => store c σ T a v
  | _, _ => none

def opNilCheck (σ : St) (x : Operand) : Option Eff :=
  match opd σ.env x with
  | some (.d .nilp) | some (.d .nili) | some (.d .nilf) => none
  | v => pureEff v

def opBin (c : Cfg) (σ : St) (op : BinOp) (t : TypeId) (x y : Operand) : Option Eff :=
  match opd σ.env x, opd σ.env y with
  | some a, some b => pureEff (binop c σ op t x y a b)
  | _, _ => none

def opUn (c : Cfg) (σ : St) (op : UnOp) (x : Operand) : Option Eff :=
  match opd σ.env x with
  | some (.d a) => match toV a with
    | some u => ((pureRun c.P (Op.unary op u)).bind ofV).map fun d => { v := .d d }
    | none => none
  | _ => none

def opConvert (c : Cfg) (σ : St) (s t : TypeId) (x : Operand) : Option Eff :=
  match opd σ.env x with
  | some v => pureEff (convOp c σ s t v)
  | none => none

def opFieldAddr (c : Cfg) (σ : St) (T : TypeId) (x : Operand) (k : Nat) : Option Eff :=
  match opd σ.env x, field? c.P T k with
  | some a, some fl => if sizeT c.P fl.type = 0 then none else pureEff (fieldOp a fl.offset)
  | _, _ => none

/-- The cells of a struct's or an array's value. -/
def aggOf : AV → Option (List AV)
  | .agg cs => some cs
  | .d (.agg cs) => some (cs.map .d)
  | _ => none

def opField (c : Cfg) (σ : St) (T : TypeId) (x : Operand) (k : Nat) : Option Eff :=
  match (opd σ.env x).bind aggOf, field? c.P T k with
  | some cs, some fl => pureEff (valA (isAggT c.P fl.type) (sizeT c.P fl.type) (cs.drop fl.offset))
  | _, _ => none

def opIndexAddr (c : Cfg) (σ : St) (T : TypeId) (x ix : Operand) : Option Eff :=
  match opd σ.env x, (opd σ.env ix).bind natOf with
  | some a, some i => pureEff (indexOp c σ T a i)
  | _, _ => none

def opIndex (c : Cfg) (σ : St) (T : TypeId) (x ix : Operand) : Option Eff :=
  match opd σ.env x, (opd σ.env ix).bind natOf with
  | some (.d (.str s)), some i => if isStrT c.P T then (s[i]?).map fun b => { v := .d (.int .u8 b.toNat) } else none
  | some v, some i => match arrT c.P T, aggOf v with
    | some (n, E), some cs => if i < n then pureEff (valA (isAggT c.P E) (sizeT c.P E) (cs.drop (i * sizeT c.P E))) else none
    | _, _ => none
  | _, _ => none

def opExtract (σ : St) (x : Operand) (k : Nat) : Option Eff :=
  match opd σ.env x with
  | some (.d (.tup vs)) => (vs[k]?).map fun d => { v := .d d }
  | _ => none

def opMakeMap (σ : St) : Option Eff :=
  some { v := .d (.map σ.hp.objs.length), hw := some (pushHp σ.hp ⟨.map [], false⟩) }

def opMakeSlice (c : Cfg) (f : FuncId) (σ : St) (o : Oper) (T : TypeId) (l cp : Operand) : Option Eff :=
  match elemT c.P T, (opd σ.env l).bind natOf, (opd σ.env cp).bind natOf with
  | some E, some n, some m => if n = m ∧ n ≤ maxN then (zeroEl c.P E).bind fun z => newRow c σ (isHeap c f o) (o.dst.getD 0) E (List.replicate n z) [] else none
  | _, _, _ => none

def opMakeFunc (σ : St) (g : FuncId) (first caps : Array Operand) : Option Eff :=
  match (opds σ.env first.toList).bind (resolves true σ.loc), (opds σ.env caps.toList).bind (resolves true σ.loc) with
  | some (fs, f1), some (cs, f2) => some { v := .d (.fn g fs cs), fw := f1 ++ f2 }
  | _, _ => none

def entries (σ : St) : AV → Option (List (D × D))
  | .d .nilm => some []
  | .d (.map id) => mapOf σ.hp id
  | _ => none

def opLookup (c : Cfg) (σ : St) (T : TypeId) (m k : Operand) (ok : Bool) : Option Eff :=
  match (opd σ.env m).bind (entries σ), (opd σ.env k).bind (resolveN σ.loc), mapT c.P T with
  | some es, some (k, fw), some (K, E) =>
    match zeroEl c.P E, findK c.P K es.isEmpty k es with
    | some z, some r => some { v := .d (if ok then .tup [(r.bind fun i => (es[i]?).map (·.2)).getD z, .bool r.isSome] else (r.bind fun i => (es[i]?).map (·.2)).getD z), fw := fw }
    | _, _ => none
  | _, _, _ => none

def opMapUpdate (c : Cfg) (σ : St) (T : TypeId) (m k v : Operand) : Option Eff :=
  match opd σ.env m, (opd σ.env k).bind (resolveN σ.loc), (opd σ.env v).bind (resolveN σ.loc), mapT c.P T with
  | some (.d (.map id)), some (k, f1), some (v, f2), some (K, _) => (mapSet c.P K σ.hp id k v).map fun hp => { v := .d .undef, fw := f1 ++ f2, hw := some hp }
  | _, _, _, _ => none

def opCall (c : Cfg) (call : CallF) (f : FuncId) (σ : St) (o : Oper) (cl : Call) : Option Eff :=
  match opds σ.env cl.args.toList with
  | some args => match cl.callee with
    | .builtin b => builtinOp c σ (isHeap c f o) (o.dst.getD 0) b cl.argTypes args
    | .value g => match opd σ.env g with
      | some g => callOp c call σ (o.dst.getD 0) g args
      | none => none
    | _ => none
  | none => none

def opSlice (c : Cfg) (σ : St) (T : TypeId) (x : Operand) (lo hi mx : Option Operand) : Option Eff :=
  match mx with
  | some mx => match elemT c.P T, opd σ.env x, optNat σ.env lo, optNat σ.env hi, (opd σ.env mx).bind natOf with
    | some E, some v, some l, some (some h), some m => match elems c σ E v with
      | some ys => if l.getD 0 ≤ h ∧ h ≤ m ∧ m ≤ ys.length then some { v := if m = 0 then .d .nil0 else .d .undef } else none
      | none => none
    | _, _, _, _, _ => none
  | none => match opd σ.env x, optNat σ.env lo, optNat σ.env hi with
    | some (.d (.str s)), some l, some h =>
      if isStrT c.P T = true ∧ l.getD 0 ≤ h.getD s.size ∧ h.getD s.size ≤ s.size then some { v := .d (.str (s.extract (l.getD 0) (h.getD s.size))) } else none
    | some (.lp i g off), some l, some h => match arrT c.P T with
      | some (n, E) => if sizeT c.P E = 1 ∧ l.getD 0 < h.getD n ∧ h.getD n ≤ n then some { v := .lb i g (off + l.getD 0) (h.getD n - l.getD 0) } else none
      | none => none
    | some v, some l, some h => match elemT c.P T with
      | some E => pureEff (sliceOp c σ E v l h)
      | none => none
    | _, _, _ => none

/-- An operation. -/
def opStep (c : Cfg) (call : CallF) (f : FuncId) (σ : St) (o : Oper) : Option Eff :=
  match o.op with
  | .move x | .assign x => opMove c f σ o x
  | .pick x a b => opPick σ x a b
  | .alloc T => opAlloc c f σ o T
  | .box T x => opBox c f σ o T x
  | .build T ps => opBuild c σ T ps
  | .buildSlice T n ps => opBuildSlice c f σ o T n ps
  | .load T a => opLoad c σ T a
  | .store T a x => opStore c σ T a x
  | .nilCheck x => opNilCheck σ x
  | .binOp op t x y _ => opBin c σ op t x y
  | .unOp op _ x => opUn c σ op x
  | .convert s t x => opConvert c σ s t x
  | .fieldAddr T x k => opFieldAddr c σ T x k
  | .field T x k => opField c σ T x k
  | .indexAddr T x ix => opIndexAddr c σ T x ix
  | .index T x ix => opIndex c σ T x ix
  | .extract x k => opExtract σ x k
  | .makeMap _ none => opMakeMap σ 
  | .makeSlice T l cp => opMakeSlice c f σ o T l cp
  | .makeFunc (.func g) first caps => opMakeFunc σ g first caps
  | .lookup T m k ok => opLookup c σ T m k ok
  | .mapUpdate T m k v | .insert T m k v => opMapUpdate c σ T m k v
  | .call cl => opCall c call f σ o cl
  | .slice T x lo hi mx => opSlice c σ T x lo hi mx
  | _ => none

/-- Is an operation's guard met? -/
def wants (ops : Array Oper) (env : Nat → AV) (o : Oper) : Option Bool :=
  match o.guard with
  | none => some true
  | some (j, want) => match (ops[j]?).bind (·.dst) with
    | some t => match env t with
      | .d (.bool b) => some (b == want)
      | .d (.tup []) => some false
      | _ => none
    | none => none

/-- What an operation of a region does, if it is wanted. -/
def stepEff (c : Cfg) (call : CallF) (f : FuncId) (ops : Array Oper) (o : Oper) (σ : St) : Option Eff :=
  match wants ops σ.env o with
  | some true => opStep c call f σ o
  | some false => some { v := .d (.tup []) }
  | none => none

/-- One operation of a region. -/
def stepOp (c : Cfg) (call : CallF) (f : FuncId) (ops : Array Oper) (o : Oper) (σ : St) : Option St :=
  match stepEff c call f ops o σ with
  | some e => some (apply σ o.dst e)
  | none => none

def runOps (c : Cfg) (call : CallF) (f : FuncId) (ops : Array Oper) (l : List Oper) : St → Option St :=
  List.rec some (fun o _ ih σ => match stepOp c call f ops o σ with
    | some σ' => ih σ'
    | none => none) l

/-! ### regions whose order is drawn -/
mutual
def D.same : D → D → Bool
  | .bool a, .bool b => a == b
  | .int j a, .int k b => decide (j = k) && decide (a = b)
  | .str a, .str b => decide (a.data.toList = b.data.toList)
  | .agg as, .agg bs => D.sames as bs
  | .tup as, .tup bs => D.sames as bs
  | .list as, .list bs => D.sames as bs
  | .nilp, .nilp => true
  | .ptr i a, .ptr j b => Nat.beq i j && Nat.beq a b
  | .hr i a x, .hr j b y => Nat.beq i j && (Nat.beq a b && Nat.beq x y)
  | .ipt as, .ipt bs => D.sames as bs
  | .nilm, .nilm => true
  | .map i, .map j => Nat.beq i j
  | .nilf, .nilf => true
  | .nili, .nili => true
  | .hsf i, .hsf j => Nat.beq i j
  | .hs i a x, .hs j b y => Nat.beq i j && (Nat.beq a b && Nat.beq x y)
  | .nil0, .nil0 => true
  | _, _ => false
def D.sames : List D → List D → Bool
  | [], [] => true
  | a :: as, b :: bs => D.same a b && D.sames as bs
  | _, _ => false
end

def AV.same1 : AV → AV → Bool
  | .d a, .d b => D.same a b
  | .lp i g a, .lp j h b => Nat.beq i j && (Nat.beq g h && Nat.beq a b)
  | .lr i g a x, .lr j h b y => Nat.beq i j && (Nat.beq g h && (Nat.beq a b && Nat.beq x y))
  | .lsf i g, .lsf j h => Nat.beq i j && Nat.beq g h
  | .ls i g a x, .ls j h b y => Nat.beq i j && (Nat.beq g h && (Nat.beq a b && Nat.beq x y))
  | _, _ => false
def AV.sames : List AV → List AV → Bool
  | [], [] => true
  | a :: as, b :: bs => AV.same1 a b && AV.sames as bs
  | _, _ => false
def AV.same : AV → AV → Bool
  | .agg as, .agg bs => AV.sames as bs
  | a, b => AV.same1 a b

/-- Does an operation alone write its slot? -/
def Eff.quiet (e : Eff) : Bool := e.lw.isEmpty && (e.fw.isEmpty && e.hw.isNone)

/-- Would these operations, done already, do the same now? -/
def again (c : Cfg) (call : CallF) (f : FuncId) (ops : Array Oper) (σ : St) : List Nat → Bool
  | [] => true
  | q :: r => match nth ops.toList q with
    | some o => (match stepEff c call f ops o σ with
      | some e => e.quiet && (match o.dst with
        | some t => AV.same e.v (σ.env t)
        | none => true)
      | none => false) && again c call f ops σ r
    | none => false

/-- One operation, by its number: 0: it writes its slot alone; else what is asked behind it is asked. -/
def stepD (c : Cfg) (call : CallF) (f : FuncId) (ops : Array Oper) (p : Nat × Nat × List Nat) (σ : St) : Option St :=
  match nth ops.toList p.2.1 with
  | some o => match stepEff c call f ops o σ with
    | some e => if (Nat.beq p.1 0 && !e.quiet) || !again c call f ops (apply σ o.dst e) p.2.2 then none else some (apply σ o.dst e)
    | none => none
  | none => none

def runD (c : Cfg) (call : CallF) (f : FuncId) (ops : Array Oper) (l : List (Nat × Nat × List Nat)) : St → Option St :=
  List.rec some (fun p _ ih σ => match stepD c call f ops p σ with
    | some σ' => ih σ'
    | none => none) l

inductive Ex where
  | normal | ret | exit (id : Nat)
  deriving DecidableEq

/-! ### loops: at a loop's head what is dead is forgotten, and generations begin anew -/
def renew1 (loc : Nat → LOb) (i g : Nat) (mk : AV) : AV := cond (Nat.beq (loc i).g g) mk (.d .undef)

def renewA (loc : Nat → LOb) : AV → AV
  | .lp i g off => renew1 loc i g (.lp i 0 off)
  | .lr i g j off => renew1 loc i g (.lr i 0 j off)
  | .lsf i g => renew1 loc i g (.lsf i 0)
  | .ls i g off len => renew1 loc i g (.ls i 0 off len)
  | .lb i g off len => renew1 loc i g (.lb i 0 off len)
  | .agg _ => .d .undef
  | .d x => .d x

def renewO (loc : Nat → LOb) : Option Ob → Option Ob
  | some (.box T cs) => some (.box T (cs.map (renewA loc)))
  | o => o

/-- The slots that live on, and the objects of those keys. -/
def renew (ts ks : List Nat) (σ : St) : St :=
  { env := setMany (fun _ => .d .undef) (ts.map fun t => (t, renewA σ.loc (σ.env t)))
    loc := setMany (fun _ => ⟨0, none⟩) (ks.map fun k => (k, ⟨0, renewO σ.loc (σ.loc k).o⟩))
    fz := setMany (fun _ => true) (ks.map fun k => (k, σ.fz k))
    hp := σ.hp }

def iter {R : Type} (head : St → St) (body : St → (Ex → St → Option R) → Option R) (fuel : Nat) : St → (Ex → St → Option R) → Option R :=
  Nat.rec (fun _ _ => none) (fun _ ih σ k => body (head σ) fun e σ' => match e with
    | .normal => ih σ' k
    | e => k e σ') fuel

def firstRegion : Code → Nat
  | .region id _ _ => id
  | .seq a _ => firstRegion a
  | .block _ b => firstRegion b
  | _ => 0

abbrev K (R : Type) := Ex → St → Option R

def exRegion (c : Cfg) (call : CallF) (f : FuncId) {R : Type} (id : Nat) (ops : Array Oper) (draw : Bool) (σ : St) (k : K R) : Option R :=
  match (if draw then (match c.order f id with
      | [] => none
      | l => runD c call f ops l σ) else runOps c call f ops ops.toList σ) with
  | some σ' => k .normal σ'
  | none => none

def exCond {R : Type} (x : Operand) (a b : St → K R → Option R) (σ : St) (k : K R) : Option R :=
  match opd σ.env x with
  | some (.d (.bool t)) => if t then a σ k else b σ k
  | _ => none

def exSeq {R : Type} (a b : St → K R → Option R) (σ : St) (k : K R) : Option R :=
  a σ fun e σ' => match e with
    | .normal => b σ' k
    | e => k e σ'

def exBlock {R : Type} (id : Nat) (b : St → K R → Option R) (σ : St) (k : K R) : Option R :=
  b σ fun e σ' => match e with
    | .exit j => if j = id then k .normal σ' else k (.exit j) σ'
    | e => k e σ'

def exec (c : Cfg) (call : CallF) (f : FuncId) (fuel : Nat) {R : Type} (code : Code) : St → K R → Option R :=
  Code.rec (motive := fun _ => St → K R → Option R)
    (fun σ k => k .normal σ)
    (fun id ops draw σ k => exRegion c call f id ops draw σ k)
    (fun _ _ a b σ k => exSeq a b σ k)
    (fun x _ _ a b σ k => exCond x a b σ k)
    (fun id _ b σ k => exBlock id b σ k)
    (fun code b σ k => iter (renew (c.lives f (firstRegion code)) (c.keys f (firstRegion code))) b fuel σ k)
    (fun _ _ _ _ _ _ _ _ => none)
    (fun id σ k => k (.exit id) σ)
    (fun _ b σ k => b σ k)
    (fun _ σ k => k .normal σ)
    (fun _ _ _ => none)
    (fun σ k => k .ret σ)
    (fun _ _ _ => none)
    code

/-- What a function hands back. -/
def result1 (c : Cfg) (σ : St) : ResultVar → Option AV
  | .tmp t => match σ.env t with
    | .d .undef => none
    | v => some v
  | .cell t T => load c σ T (σ.env t)

def results (c : Cfg) (σ : St) : List ResultVar → Option (List AV)
  | [] => some []
  | r :: rs => match result1 c σ r, results c σ rs with
    | some v, some vs => some (v :: vs)
    | _, _ => none

def handBack (c : Cfg) (f : FuncId) (σ : St) (vs : List AV) : Option D :=
  match vs with
  | [v] =>
    match (if c.ownRet f then v else .d .undef) with
    | .lsf i g => match getL σ.loc i g with
      | some (.row T xs) => if σ.fz i then (resolveN σ.loc v).map (·.1) else if T = 0 then none else some (.own T xs)
      | some .bare => some (.own 0 [])
      | _ => none
    | .ls i g 0 len => match getL σ.loc i g with
      | some (.row T xs) => if σ.fz i = false ∧ T ≠ 0 ∧ len ≤ xs.length then some (.own T (xs.take len)) else none
      | _ => none
    | _ => (resolveN σ.loc v).map (·.1)
  | vs => (resolves false σ.loc vs).map fun p => .tup p.1

/-- The heap that a call leaves: what it made alone is dropped, where nothing leads to it. -/
def leave (c : Cfg) (f : FuncId) (hp h : Hp) (r : D) : Res :=
  if h.objs.length = hp.objs.length then ⟨r, if h.ch.isNone then { hp with ch := none, es := none } else h⟩
  else if c.drops f && (match r with | .own _ xs => D.flatDs xs | r => r.flatD) && (below hp.objs.length h.es).isNone then
    match below hp.objs.length h.ch with
    | none => ⟨r, { hp with ch := none, es := none }⟩
    | some i => ⟨r, { objs := h.objs.take hp.objs.length, ch := some i, es := none }⟩
  else ⟨r, { objs := h.objs, ch := below hp.objs.length h.ch, es := below hp.objs.length h.es }⟩

def argEnv (args : List D) : Nat → AV := List.rec (fun _ => .d .undef) (fun x _ ih n => Nat.rec (.d x) (fun m _ => ih m) n) args

def start (args : List D) (hp : Hp) : St :=
  { env := argEnv args
    loc := fun _ => ⟨0, none⟩
    fz := fun _ => true
    hp := { hp with ch := none, es := none } }

def finish (c : Cfg) (f : FuncId) (hp : Hp) (rs : List ResultVar) (e : Ex) (σ : St) : Option Res :=
  match e with
  | .exit _ => none
  | _ => match results c σ rs with
    | some vs => match handBack c f σ vs with
      | some r => some (leave c f hp σ.hp r)
      | none => none
    | none => none

def enter (c : Cfg) (loops : Nat) (call : CallF) (f : FuncId) (args : List D) (hp : Hp) : Option Res :=
  match (if c.prim f then c.primRun call f args hp else none) with
  | some R => some R
  | none => match c.P.funcs[f]? with
    | some fn => match fn.body with
      | some b => exec c call f loops b (start args hp) (finish c f hp fn.results.toList)
      | none => none
    | none => none

/-- A call, at most so deep. -/
def run (c : Cfg) (loops : Nat) (n : Nat) : CallF := Nat.rec (fun _ _ _ => none) (fun _ ih f args hp => enter c loops ih f args hp) n
end
end Go.AE

/- AE: what it means that a world and an abstract state belong together; what lasts when the world changes. -/
namespace Go.AE

/-- Where what is abstract lies: blocks; of rows the capacity, the cells of an element, the length. -/
structure Emb where
  blk : Ref → Nat
  cap : Ref → Nat
  esz : Ref → Nat
  len : Ref → Nat

/-- Places that never change again. -/
abbrev Fixed := Nat → Nat → Prop

def wcell (w : World) (b off : Nat) : Option Value := w.cell? ⟨b, off, none⟩

def Cells (w : World) (S : Fixed) (b off : Nat) (us : List Value) : Prop :=
  ∀ i u, us[i]? = some u → S b (off + i) ∧ wcell w b (off + i) = some u

/-- So many cells, as a value. -/
def Fits (d : D) (us : List Value) (v : Value) : Prop :=
  match d with
  | .agg _ => v = .agg us.toArray
  | _ => us = [v]

/-- A value of one cell. -/
def OneC : Value → Prop
  | .agg _ | .tuple _ => False
  | _ => True

mutual
/-- A value reads as a datum. -/
def RV (w : World) (S : Fixed) (β : Emb) : D → Value → Prop
  | .undef, _ => True
  | .bool b, v => v = .bool b
  | .int k n, v => v = .int k n
  | .str s, v => v = .string s
  | .agg cs, v => ∃ us : Array Value, v = .agg us ∧ (∀ u ∈ us.toList, OneC u) ∧ RVs w S β cs us.toList
  | .tup cs, v => ∃ us : Array Value, v = .tuple us ∧ RVs w S β cs us.toList
  | .list xs, v => ∃ a cap, v = .slice a xs.length cap ∧ xs.length ≤ cap ∧ (xs = [] ∨ ∃ b off es, a = some ⟨b, off, none⟩ ∧ REs w S β xs b off es)
  | .nilp, v => v = .pointer none
  | .ptr id off, v => v = .pointer (some ⟨β.blk (.h id), off, none⟩)
  | .hr id j off, v => v = .pointer (some ⟨β.blk (.h id), j * β.esz (.h id) + off, none⟩)
  | .ipt cs, v => ∃ b off us, v = .pointer (some ⟨b, off, none⟩) ∧ Cells w S b off us ∧ (∀ u ∈ us, OneC u) ∧ RVs w S β cs us
  | .nilm, v => v = .map none
  | .map id, v => v = .map (some (β.blk (.h id)))
  | .nilf, v => v = .nilFunc
  | .fn f first caps, v => ∃ fs cs : Array Value, v = .func (.func f) fs cs ∧ RVs w S β first fs.toList ∧ RVs w S β caps cs.toList
  | .nili, v => v = .nilIface
  | .iface t d, v => ∃ u, v = .iface t u ∧ RV w S β d u
  | .hsf id, v => ∃ a, v = .slice a (β.len (.h id)) (β.cap (.h id)) ∧ (0 < β.cap (.h id) → a = some ⟨β.blk (.h id), 0, none⟩)
  | .hs id off len, v => ∃ a cap, v = .slice a len cap ∧ off + cap = β.cap (.h id) ∧ (0 < β.cap (.h id) → a = some ⟨β.blk (.h id), off * β.esz (.h id), none⟩)
  | .own _ _, _ => False
  | .nil0, v => ∃ a, v = .slice a 0 0
def RVs (w : World) (S : Fixed) (β : Emb) : List D → List Value → Prop
  | [], vs => vs = []
  | d :: r, vs => ∃ u us, vs = u :: us ∧ RV w S β d u ∧ RVs w S β r us
def REs (w : World) (S : Fixed) (β : Emb) : List D → Nat → Nat → Nat → Prop
  | [], _, _, _ => True
  | d :: r, b, off, es => (∃ us v, us.length = es ∧ Cells w S b off us ∧ Fits d us v ∧ RV w S β d v) ∧ REs w S β r b (off + es) es
end

mutual
/-- All objects of the heap that a datum names are among the first n. -/
def D.lt (n : Nat) : D → Prop
  | .agg cs | .tup cs | .list cs | .ipt cs => D.lts n cs
  | .own _ cs => D.lts n cs
  | .fn _ a b => D.lts n a ∧ D.lts n b
  | .iface _ d => d.lt n
  | .ptr id _ | .hr id _ _ | .map id | .hsf id | .hs id _ _ => id < n
  | _ => True
def D.lts (n : Nat) : List D → Prop
  | [] => True
  | d :: r => d.lt n ∧ D.lts n r
end

/-- A value of a slot. -/
def RA1 (w : World) (S : Fixed) (β : Emb) : AV → Value → Prop
  | .d x, v => RV w S β x v
  | .lp i g off, v => v = .pointer (some ⟨β.blk (.l i g), off, none⟩)
  | .lr i g j off, v => v = .pointer (some ⟨β.blk (.l i g), j * β.esz (.l i g) + off, none⟩)
  | .lsf i g, v => ∃ a, v = .slice a (β.len (.l i g)) (β.cap (.l i g)) ∧ (0 < β.cap (.l i g) → a = some ⟨β.blk (.l i g), 0, none⟩)
  | .ls i g off len, v => ∃ a cap, v = .slice a len cap ∧ off + cap = β.cap (.l i g) ∧ (0 < β.cap (.l i g) → a = some ⟨β.blk (.l i g), off * β.esz (.l i g), none⟩)
  | .lb i g off len, v => ∃ cap, v = .slice (some ⟨β.blk (.l i g), off, none⟩) len cap
  | .agg _, _ => False

def RAs (w : World) (S : Fixed) (β : Emb) : List AV → List Value → Prop
  | [], vs => vs = []
  | d :: r, vs => ∃ u us, vs = u :: us ∧ RA1 w S β d u ∧ RAs w S β r us

def RA (w : World) (S : Fixed) (β : Emb) : AV → Value → Prop
  | .agg cs, v => ∃ us : Array Value, v = .agg us ∧ (∀ u ∈ us.toList, OneC u) ∧ RAs w S β cs us.toList
  | x, v => RA1 w S β x v

/-- What a value of a slot names is there: objects of the heap among the first n, generations up to gs. -/
def AV.lt1 (n : Nat) (gs : Nat → Nat) : AV → Prop
  | .d x => x.lt n
  | .lp i g _ | .lr i g _ _ | .lsf i g | .ls i g _ _ | .lb i g _ _ => g ≤ gs i
  | .agg _ => False
def AV.lts (n : Nat) (gs : Nat → Nat) : List AV → Prop
  | [] => True
  | x :: r => x.lt1 n gs ∧ AV.lts n gs r
def AV.lt (n : Nat) (gs : Nat → Nat) : AV → Prop
  | .agg cs => AV.lts n gs cs
  | x => x.lt1 n gs

/-! ### lists -/
theorem RVs_iff {w : World} {S : Fixed} {β : Emb} : ∀ {ds : List D} {vs : List Value}, RVs w S β ds vs ↔ ds.length = vs.length ∧ ∀ (i : Nat) d v, ds[i]? = some d → vs[i]? = some v → RV w S β d v
  | [], vs => by
    simp only [RVs]
    constructor
    · rintro rfl; simp
    · rintro ⟨h, _⟩; exact List.length_eq_zero_iff.1 (by simpa using h.symm)
  | d :: r, vs => by
    simp only [RVs]
    constructor
    · rintro ⟨u, us, rfl, h1, h2⟩
      have ⟨hl, h3⟩ := RVs_iff.1 h2
      refine ⟨by simp [hl], ?_⟩
      intro i x v hx hv
      cases i with
      | zero => simp at hx hv; subst hx; subst hv; exact h1
      | succ i => simp at hx hv; exact h3 i x v hx hv
    · rintro ⟨hl, h⟩
      cases vs with
      | nil => simp at hl
      | cons u us => exact ⟨u, us, rfl, h 0 d u rfl rfl, RVs_iff.2 ⟨by simpa using hl, fun i x v hx hv => h (i + 1) x v (by simpa using hx) (by simpa using hv)⟩⟩

theorem RAs_iff {w : World} {S : Fixed} {β : Emb} : ∀ {ds : List AV} {vs : List Value}, RAs w S β ds vs ↔ ds.length = vs.length ∧ ∀ (i : Nat) d v, ds[i]? = some d → vs[i]? = some v → RA1 w S β d v
  | [], vs => by
    simp only [RAs]
    constructor
    · rintro rfl; simp
    · rintro ⟨h, _⟩; exact List.length_eq_zero_iff.1 (by simpa using h.symm)
  | d :: r, vs => by
    simp only [RAs]
    constructor
    · rintro ⟨u, us, rfl, h1, h2⟩
      have ⟨hl, h3⟩ := RAs_iff.1 h2
      refine ⟨by simp [hl], ?_⟩
      intro i x v hx hv
      cases i with
      | zero => simp at hx hv; subst hx; subst hv; exact h1
      | succ i => simp at hx hv; exact h3 i x v hx hv
    · rintro ⟨hl, h⟩
      cases vs with
      | nil => simp at hl
      | cons u us => exact ⟨u, us, rfl, h 0 d u rfl rfl, RAs_iff.2 ⟨by simpa using hl, fun i x v hx hv => h (i + 1) x v (by simpa using hx) (by simpa using hv)⟩⟩

theorem lts_iff {n : Nat} : ∀ {ds : List D}, D.lts n ds ↔ ∀ d ∈ ds, d.lt n
  | [] => by simp [D.lts]
  | d :: r => by simp [D.lts, lts_iff (ds := r)]
theorem alts_iff {n : Nat} {gs : Nat → Nat} : ∀ {ds : List AV}, AV.lts n gs ds ↔ ∀ d ∈ ds, d.lt1 n gs
  | [] => by simp [AV.lts]
  | d :: r => by simp [AV.lts, alts_iff (ds := r)]

/-! ### what lasts -/
/-- The embeddings agree on the heap's first n objects. -/
def SameH (n : Nat) (β β' : Emb) : Prop := ∀ i, i < n → β'.blk (.h i) = β.blk (.h i) ∧ β'.cap (.h i) = β.cap (.h i) ∧ β'.esz (.h i) = β.esz (.h i) ∧ β'.len (.h i) = β.len (.h i)

/-- What is fixed stays. -/
def Keeps (w : World) (S : Fixed) (w' : World) (S' : Fixed) : Prop := ∀ b off, S b off → S' b off ∧ wcell w' b off = wcell w b off

theorem Cells.keep {w w' : World} {S S' : Fixed} (hk : Keeps w S w' S') {b off : Nat} {us : List Value} (h : Cells w S b off us) : Cells w' S' b off us :=
  fun i u hu => ⟨(hk _ _ (h i u hu).1).1, (hk _ _ (h i u hu).1).2.trans (h i u hu).2⟩

mutual
theorem RV.keep {w w' : World} {S S' : Fixed} {β β' : Emb} {n : Nat} (hk : Keeps w S w' S') (hb : SameH n β β') : ∀ (d : D) (v : Value), d.lt n → RV w S β d v → RV w' S' β' d v
  | .undef, _, _, _ => by simp [RV]
  | .bool _, v, _, h => by simpa [RV] using h
  | .int _ _, v, _, h => by simpa [RV] using h
  | .str _, v, _, h => by simpa [RV] using h
  | .agg cs, v, hl, h => by
    simp only [RV] at h ⊢
    obtain ⟨us, rfl, ho, h⟩ := h
    exact ⟨us, rfl, ho, RVs.keep hk hb cs _ (by simpa [D.lt] using hl) h⟩
  | .tup cs, v, hl, h => by
    simp only [RV] at h ⊢
    obtain ⟨us, rfl, h⟩ := h
    exact ⟨us, rfl, RVs.keep hk hb cs _ (by simpa [D.lt] using hl) h⟩
  | .list xs, v, hl, h => by
    simp only [RV] at h ⊢
    obtain ⟨a, cap, rfl, hc, h⟩ := h
    refine ⟨a, cap, rfl, hc, ?_⟩
    rcases h with h | ⟨b, off, es, ha, h⟩
    · exact .inl h
    · exact .inr ⟨b, off, es, ha, REs.keep hk hb xs b off es (by simpa [D.lt] using hl) h⟩
  | .nilp, v, _, h => by simpa [RV] using h
  | .ptr id off, v, hl, h => by
    have := hb id (by simpa [D.lt] using hl)
    simp only [RV] at h ⊢; rw [this.1]; exact h
  | .hr id j off, v, hl, h => by
    have := hb id (by simpa [D.lt] using hl)
    simp only [RV] at h ⊢; rw [this.1, this.2.2.1]; exact h
  | .ipt cs, v, hl, h => by
    simp only [RV] at h ⊢
    obtain ⟨b, off, us, rfl, hc, ho, h⟩ := h
    exact ⟨b, off, us, rfl, hc.keep hk, ho, RVs.keep hk hb cs _ (by simpa [D.lt] using hl) h⟩
  | .nilm, v, _, h => by simpa [RV] using h
  | .map id, v, hl, h => by
    have := hb id (by simpa [D.lt] using hl)
    simp only [RV] at h ⊢; rw [this.1]; exact h
  | .nilf, v, _, h => by simpa [RV] using h
  | .fn f a b, v, hl, h => by
    simp only [RV] at h ⊢
    simp only [D.lt] at hl
    obtain ⟨fs, cs, rfl, h1, h2⟩ := h
    exact ⟨fs, cs, rfl, RVs.keep hk hb a _ hl.1 h1, RVs.keep hk hb b _ hl.2 h2⟩
  | .nili, v, _, h => by simpa [RV] using h
  | .iface t d, v, hl, h => by
    simp only [RV] at h ⊢
    obtain ⟨u, rfl, h⟩ := h
    exact ⟨u, rfl, RV.keep hk hb d u (by simpa [D.lt] using hl) h⟩
  | .hsf id, v, hl, h => by
    have := hb id (by simpa [D.lt] using hl)
    simp only [RV] at h ⊢; rw [this.1, this.2.1, this.2.2.2]; exact h
  | .hs id off len, v, hl, h => by
    have := hb id (by simpa [D.lt] using hl)
    simp only [RV] at h ⊢; rw [this.1, this.2.1, this.2.2.1]; exact h
  | .own _ _, v, _, h => by simp [RV] at h
  | .nil0, v, _, h => by simpa [RV] using h
theorem RVs.keep {w w' : World} {S S' : Fixed} {β β' : Emb} {n : Nat} (hk : Keeps w S w' S') (hb : SameH n β β') : ∀ (ds : List D) (vs : List Value), D.lts n ds → RVs w S β ds vs → RVs w' S' β' ds vs
  | [], vs, _, h => by simpa [RVs] using h
  | d :: r, vs, hl, h => by
    simp only [RVs] at h ⊢
    simp only [D.lts] at hl
    obtain ⟨u, us, rfl, h1, h2⟩ := h
    exact ⟨u, us, rfl, RV.keep hk hb d u hl.1 h1, RVs.keep hk hb r us hl.2 h2⟩
theorem REs.keep {w w' : World} {S S' : Fixed} {β β' : Emb} {n : Nat} (hk : Keeps w S w' S') (hb : SameH n β β') : ∀ (ds : List D) (b off es : Nat), D.lts n ds → REs w S β ds b off es → REs w' S' β' ds b off es
  | [], _, _, _, _, _ => by simp [REs]
  | d :: r, b, off, es, hl, h => by
    simp only [REs] at h ⊢
    simp only [D.lts] at hl
    obtain ⟨⟨us, v, h1, h2, h3, h4⟩, h5⟩ := h
    exact ⟨⟨us, v, h1, h2.keep hk, h3, RV.keep hk hb d v hl.1 h4⟩, REs.keep hk hb r b _ es hl.2 h5⟩
end

/-- The embeddings agree on the local objects up to the generations gs, too. -/
def SameL (gs : Nat → Nat) (β β' : Emb) : Prop := ∀ i g, g ≤ gs i → β'.blk (.l i g) = β.blk (.l i g) ∧ β'.cap (.l i g) = β.cap (.l i g) ∧ β'.esz (.l i g) = β.esz (.l i g) ∧ β'.len (.l i g) = β.len (.l i g)

theorem RA1.keep {w w' : World} {S S' : Fixed} {β β' : Emb} {n : Nat} {gs : Nat → Nat} (hk : Keeps w S w' S') (hb : SameH n β β') (hg : SameL gs β β') {d : AV} {v : Value} (hl : d.lt1 n gs) (h : RA1 w S β d v) : RA1 w' S' β' d v := by
  cases d with
  | d x => exact RV.keep hk hb x v hl h
  | lp i g off => have := hg i g hl; simp only [RA1] at h ⊢; rw [this.1]; exact h
  | lr i g j off => have := hg i g hl; simp only [RA1] at h ⊢; rw [this.1, this.2.2.1]; exact h
  | lsf i g => have := hg i g hl; simp only [RA1] at h ⊢; rw [this.1, this.2.1, this.2.2.2]; exact h
  | ls i g off len => have := hg i g hl; simp only [RA1] at h ⊢; rw [this.1, this.2.1, this.2.2.1]; exact h
  | lb i g off len => have := hg i g hl; simp only [RA1] at h ⊢; rw [this.1]; exact h
  | agg cs => exact h

theorem RAs.keep {w w' : World} {S S' : Fixed} {β β' : Emb} {n : Nat} {gs : Nat → Nat} (hk : Keeps w S w' S') (hb : SameH n β β') (hg : SameL gs β β') {ds : List AV} {vs : List Value} (hl : AV.lts n gs ds) (h : RAs w S β ds vs) : RAs w' S' β' ds vs := by
  rw [RAs_iff] at h ⊢
  rw [alts_iff] at hl
  exact ⟨h.1, fun i d v hd hv => (h.2 i d v hd hv).keep hk hb hg (hl d (List.mem_of_getElem? hd))⟩

theorem RA.keep {w w' : World} {S S' : Fixed} {β β' : Emb} {n : Nat} {gs : Nat → Nat} (hk : Keeps w S w' S') (hb : SameH n β β') (hg : SameL gs β β') {d : AV} {v : Value} (hl : d.lt n gs) (h : RA w S β d v) : RA w' S' β' d v := by
  cases d with
  | agg cs =>
    simp only [RA] at h ⊢
    obtain ⟨us, rfl, ho, h⟩ := h
    exact ⟨us, rfl, ho, h.keep hk hb hg hl⟩
  | d x => exact RA1.keep hk hb hg (d := .d x) hl h
  | lp i g off => exact RA1.keep hk hb hg (d := .lp i g off) hl h
  | lr i g j off => exact RA1.keep hk hb hg (d := .lr i g j off) hl h
  | lsf i g => exact RA1.keep hk hb hg (d := .lsf i g) hl h
  | ls i g off len => exact RA1.keep hk hb hg (d := .ls i g off len) hl h
  | lb i g off len => exact RA1.keep hk hb hg (d := .lb i g off len) hl h

mutual
theorem D.lt.mono {n m : Nat} (h : n ≤ m) : ∀ d : D, d.lt n → d.lt m
  | .undef, _ => by simp [D.lt]
  | .bool _, _ => by simp [D.lt]
  | .int _ _, _ => by simp [D.lt]
  | .str _, _ => by simp [D.lt]
  | .agg cs, hl => by simp only [D.lt] at hl ⊢; exact D.lts.mono h cs hl
  | .tup cs, hl => by simp only [D.lt] at hl ⊢; exact D.lts.mono h cs hl
  | .list cs, hl => by simp only [D.lt] at hl ⊢; exact D.lts.mono h cs hl
  | .nilp, _ => by simp [D.lt]
  | .ptr _ _, hl => by simp only [D.lt] at hl ⊢; omega
  | .hr _ _ _, hl => by simp only [D.lt] at hl ⊢; omega
  | .ipt cs, hl => by simp only [D.lt] at hl ⊢; exact D.lts.mono h cs hl
  | .nilm, _ => by simp [D.lt]
  | .map _, hl => by simp only [D.lt] at hl ⊢; omega
  | .nilf, _ => by simp [D.lt]
  | .fn _ a b, hl => by simp only [D.lt] at hl ⊢; exact ⟨D.lts.mono h a hl.1, D.lts.mono h b hl.2⟩
  | .nili, _ => by simp [D.lt]
  | .iface _ d, hl => by simp only [D.lt] at hl ⊢; exact D.lt.mono h d hl
  | .hsf _, hl => by simp only [D.lt] at hl ⊢; omega
  | .hs _ _ _, hl => by simp only [D.lt] at hl ⊢; omega
  | .own _ cs, hl => by simp only [D.lt] at hl ⊢; exact D.lts.mono h cs hl
  | .nil0, _ => by simp [D.lt]
theorem D.lts.mono {n m : Nat} (h : n ≤ m) : ∀ ds : List D, D.lts n ds → D.lts m ds
  | [], _ => by simp [D.lts]
  | d :: r, hl => by simp only [D.lts] at hl ⊢; exact ⟨D.lt.mono h d hl.1, D.lts.mono h r hl.2⟩
end

mutual
theorem D.flat_lt {n : Nat} : ∀ d : D, d.flatD = true → d.lt n
  | .undef, _ => by simp [D.lt]
  | .bool _, _ => by simp [D.lt]
  | .int _ _, _ => by simp [D.lt]
  | .str _, _ => by simp [D.lt]
  | .agg cs, h => by simp only [D.lt]; exact D.flats_lts cs (by simpa [D.flatD] using h)
  | .tup cs, h => by simp only [D.lt]; exact D.flats_lts cs (by simpa [D.flatD] using h)
  | .list cs, h => by simp only [D.lt]; exact D.flats_lts cs (by simpa [D.flatD] using h)
  | .nilp, _ => by simp [D.lt]
  | .ptr _ _, h => by simp [D.flatD] at h
  | .hr _ _ _, h => by simp [D.flatD] at h
  | .ipt cs, h => by simp only [D.lt]; exact D.flats_lts cs (by simpa [D.flatD] using h)
  | .nilm, _ => by simp [D.lt]
  | .map _, h => by simp [D.flatD] at h
  | .nilf, _ => by simp [D.lt]
  | .fn _ a b, h => by
    simp only [D.flatD, Bool.and_eq_true] at h
    simp only [D.lt]; exact ⟨D.flats_lts a h.1, D.flats_lts b h.2⟩
  | .nili, _ => by simp [D.lt]
  | .iface _ d, h => by simp only [D.lt]; exact D.flat_lt d (by simpa [D.flatD] using h)
  | .hsf _, h => by simp [D.flatD] at h
  | .hs _ _ _, h => by simp [D.flatD] at h
  | .own _ _, h => by simp [D.flatD] at h
  | .nil0, _ => by simp [D.lt]
theorem D.flats_lts {n : Nat} : ∀ ds : List D, D.flatDs ds = true → D.lts n ds
  | [], _ => by simp [D.lts]
  | d :: r, h => by
    simp only [D.flatDs, Bool.and_eq_true] at h
    simp only [D.lts]; exact ⟨D.flat_lt d h.1, D.flats_lts r h.2⟩
end

theorem AV.lt1.mono {n m : Nat} {gs gs' : Nat → Nat} (h : n ≤ m) (hg : ∀ i, gs i ≤ gs' i) {v : AV} (hl : v.lt1 n gs) : v.lt1 m gs' := by
  cases v with
  | d x => exact D.lt.mono h x hl
  | agg _ => exact hl
  | _ => exact Nat.le_trans hl (hg _)
theorem AV.lts.mono {n m : Nat} {gs gs' : Nat → Nat} (h : n ≤ m) (hg : ∀ i, gs i ≤ gs' i) {vs : List AV} (hl : AV.lts n gs vs) : AV.lts m gs' vs := by
  rw [alts_iff] at hl ⊢
  exact fun d hd => (hl d hd).mono h hg
theorem AV.lt.mono {n m : Nat} {gs gs' : Nat → Nat} (h : n ≤ m) (hg : ∀ i, gs i ≤ gs' i) {v : AV} (hl : v.lt n gs) : v.lt m gs' := by
  cases v with
  | agg cs => exact AV.lts.mono h hg (vs := cs) hl
  | d x => exact AV.lt1.mono h hg (v := .d x) hl
  | lp i g off => exact AV.lt1.mono h hg (v := .lp i g off) hl
  | lr i g j off => exact AV.lt1.mono h hg (v := .lr i g j off) hl
  | lsf i g => exact AV.lt1.mono h hg (v := .lsf i g) hl
  | ls i g off len => exact AV.lt1.mono h hg (v := .ls i g off len) hl
  | lb i g off len => exact AV.lt1.mono h hg (v := .lb i g off len) hl
end Go.AE

/- AE: a state belongs to a frame and a world; steps that keep it so. -/
namespace Go.AE

def gen (σ : St) (i : Nat) : Nat := (σ.loc i).g
def size (σ : St) : Nat := σ.hp.objs.length

def NoFz (z : Nat × Nat) (lo hi : Nat) : Prop := ∀ off, lo ≤ off → off < hi → ¬ (z.1 ≤ off ∧ off < z.2)

/-- An element of a row. -/
def ElOk (w : World) (S : Fixed) (β : Emb) (C : Array Value) (es j : Nat) (x : D) : Prop :=
  ∃ us v, us.length = es ∧ (∀ i u, us[i]? = some u → C[j * es + i]? = some u) ∧ Fits x us v ∧ RV w S β x v

structure RowOk (P : Program) (w : World) (S : Fixed) (β : Emb) (r : Ref) (T : TypeId) (xs : List D) (fz : Bool) : Prop where
  cap : 0 < β.cap r
  esz : 0 < β.esz r
  ty : β.esz r = sizeT P T
  fits : xs.length ≤ β.cap r
  mem : ∃ C z, w.heap[β.blk r]? = some (.cells C T z) ∧ C.size = β.cap r * β.esz r ∧ NoFz z (if fz then xs.length * β.esz r else 0) C.size ∧
    ∀ j x, xs[j]? = some x → ElOk w S β C (β.esz r) j x
  free : ∀ off, S (β.blk r) off → fz = true ∧ off < xs.length * β.esz r
  fixed : fz = true → ∀ off, off < xs.length * β.esz r → S (β.blk r) off
  org : ∀ C T z, w.heap[β.blk r]? = some (.cells C T z) → z.1 = 0

def pairsOk (w : World) (S : Fixed) (β : Emb) : List (D × D) → List MapEntry → Prop
  | [], es => es = []
  | p :: r, es => ∃ e es', es = e :: es' ∧ RV w S β p.1 e.key ∧ RV w S β p.2 e.val ∧ pairsOk w S β r es'

/-- A map's entries: their stamps are below the clock, each another one. -/
def Births (es : List MapEntry) (clock : Nat) : Prop := (∀ x ∈ es, x.born < clock) ∧ es.Pairwise fun a b => a.born ≠ b.born

def ObOk (P : Program) (w : World) (S : Fixed) (β : Emb) (r : Ref) (o : Ob) (fz : Bool) : Prop :=
  match o with
  | .box T cs => (∃ C z, w.heap[β.blk r]? = some (.cells C T z) ∧ NoFz z 0 C.size ∧ (∀ u ∈ C.toList, OneC u) ∧ RAs w S β cs C.toList) ∧ ∀ off, ¬ S (β.blk r) off
  | .row T xs => β.len r = xs.length ∧ ((β.cap r = 0 ∧ xs = []) ∨ RowOk P w S β r T xs fz)
  | .bare => β.cap r = 0 ∧ β.len r = 0
  | .map es => (∃ E clock, w.heap[β.blk r]? = some (.map E clock) ∧ pairsOk w S β es E.toList ∧ Births E.toList clock) ∧ ∀ off, ¬ S (β.blk r) off

/-- Has an object memory? -/
def HasMem (β : Emb) (r : Ref) : Ob → Prop
  | .row _ _ => 0 < β.cap r
  | .bare => False
  | _ => True

def Ob.lt (n : Nat) (gs : Nat → Nat) : Ob → Prop
  | .box _ cs => AV.lts n gs cs
  | .row _ xs => D.lts n xs
  | .bare => True
  | .map es => ∀ p ∈ es, p.1.lt n ∧ p.2.lt n

def Ref.old (n : Nat) (gs : Nat → Nat) : Ref → Prop
  | .l i g => g ≤ gs i
  | .h i => i < n

structure SR (P : Program) (σ : St) (a : Act) (w : World) (S : Fixed) (β : Emb) : Prop where
  env : ∀ t, (σ.env t).lt (size σ) (gen σ) ∧ RA w S β (σ.env t) (a.tmps.getD t undef)
  bound : ∀ t, a.tmps.size ≤ t → σ.env t = .d .undef
  defers : a.defers = []
  obj : ∀ r o, get σ r = some o → ObOk P w S β r o (frozen σ r) ∧ o.lt (size σ) (gen σ)
  sep : ∀ r r' o o', get σ r = some o → get σ r' = some o' → r ≠ r' → HasMem β r o → HasMem β r' o' → β.blk r ≠ β.blk r'
  inw : ∀ b off, S b off → b < w.heap.size

/-- A block of one of the objects. -/
def Owned (σ : St) (β : Emb) (b : Nat) : Prop := ∃ r o, get σ r = some o ∧ HasMem β r o ∧ β.blk r = b

/-- What is fixed grows, by places of the objects alone. -/
def Fz (σ : St) (β : Emb) (S S' : Fixed) : Prop := (∀ b off, S b off → S' b off) ∧ ∀ b off, S' b off → S b off ∨ Owned σ β b
theorem Fz.refl (σ : St) (β : Emb) (S : Fixed) : Fz σ β S S := ⟨fun _ _ h => h, fun _ _ h => .inl h⟩
theorem Fz.trans {σ σ' : St} {β : Emb} {S S1 S2 : Fixed} (hg : ∀ r, get σ' r = get σ r) (h : Fz σ β S S1) (k : Fz σ' β S1 S2) : Fz σ β S S2 :=
  ⟨fun b off hb => k.1 b off (h.1 b off hb), fun b off hb => by
    rcases k.2 b off hb with h1 | ⟨r, o, hr, hm, e⟩
    · exact h.2 b off h1
    · exact .inr ⟨r, o, by rw [← hg r]; exact hr, hm, e⟩⟩

theorem get_old {σ : St} {r : Ref} {o : Ob} (h : get σ r = some o) : r.old (size σ) (gen σ) := by
  cases r with
  | l i g =>
    simp only [get, getL] at h
    cases hb : Nat.beq (σ.loc i).g g with
    | false => rw [hb] at h; simp at h
    | true => exact Nat.le_of_eq (Nat.eq_of_beq_eq_true hb).symm
  | h i =>
    simp only [Ref.old, size]
    have key : ∀ (l : List (Option HOb)) (i : Nat), (nth l i).isSome → i < l.length := by
      intro l
      induction l with
      | nil => intro i hi; simp [nth] at hi
      | cons x l ih =>
        intro i hi
        cases i with
        | zero => simp
        | succ i => have := ih i (by simpa [nth] using hi); simp; omega
    apply key
    simp only [get, getH] at h
    cases hn : nth σ.hp.objs i with
    | none => rw [hn] at h; simp at h
    | some x => simp

theorem ElOk.keep {w w' : World} {S S' : Fixed} {β β' : Emb} {n : Nat} (hk : Keeps w S w' S') (hb : SameH n β β') {C : Array Value} {es j : Nat} {x : D} (hl : x.lt n) (h : ElOk w S β C es j x) : ElOk w' S' β' C es j x := by
  obtain ⟨us, v, h1, h2, h3, h4⟩ := h
  exact ⟨us, v, h1, h2, h3, RV.keep hk hb x v hl h4⟩

theorem pairsOk.keep {w w' : World} {S S' : Fixed} {β β' : Emb} {n : Nat} (hk : Keeps w S w' S') (hb : SameH n β β') : ∀ {ps : List (D × D)} {es : List MapEntry}, (∀ p ∈ ps, p.1.lt n ∧ p.2.lt n) → pairsOk w S β ps es → pairsOk w' S' β' ps es
  | [], es, _, h => h
  | p :: r, es, hl, h => by
    obtain ⟨e, es', rfl, h1, h2, h3⟩ := h
    have hp := hl p (by simp)
    exact ⟨e, es', rfl, RV.keep hk hb _ _ hp.1 h1, RV.keep hk hb _ _ hp.2 h2, pairsOk.keep hk hb (fun q hq => hl q (by simp [hq])) h3⟩

/-- An object whose memory is as it was. -/
theorem ObOk.keep {P : Program} {w w' : World} {S S' : Fixed} {β β' : Emb} {n : Nat} {gs : Nat → Nat} (hk : Keeps w S w' S') (hH : SameH n β β') (hL : SameL gs β β')
    {r : Ref} {o : Ob} {fz : Bool} (hr : r.old n gs) (hl : o.lt n gs)
    (hw : HasMem β r o → ∀ x, w.heap[β.blk r]? = some x → w'.heap[β.blk r]? = some x) (hS : HasMem β r o → ∀ off, S' (β.blk r) off ↔ S (β.blk r) off)
    (h : ObOk P w S β r o fz) : ObOk P w' S' β' r o fz := by
  have hβ : β'.blk r = β.blk r ∧ β'.cap r = β.cap r ∧ β'.esz r = β.esz r ∧ β'.len r = β.len r := by
    cases r with
    | l i g => exact hL i g hr
    | h i => exact hH i hr
  obtain ⟨e1, e2, e3, e4⟩ := hβ
  cases o with
  | box T cs =>
    obtain ⟨⟨C, z, h1, h2, ho, h3⟩, h4⟩ := h
    refine ⟨⟨C, z, by rw [e1]; exact hw trivial _ h1, h2, ho, h3.keep hk hH hL hl⟩, fun off => ?_⟩
    rw [e1, hS trivial off]; exact h4 off
  | row T xs =>
    obtain ⟨h1, h2⟩ := h
    refine ⟨by rw [e4]; exact h1, ?_⟩
    rcases h2 with ⟨h2, h3⟩ | h2
    · exact .inl ⟨by rw [e2]; exact h2, h3⟩
    · refine .inr ⟨by rw [e2]; exact h2.cap, by rw [e3]; exact h2.esz, by rw [e3]; exact h2.ty, by rw [e2]; exact h2.fits, ?_, ?_, ?_, ?_⟩
      · obtain ⟨C, z, m1, m2, m3, m4⟩ := h2.mem
        refine ⟨C, z, by rw [e1]; exact hw h2.cap _ m1, by rw [e2, e3]; exact m2, by rw [e3]; exact m3, fun j x hx => ?_⟩
        rw [e3]
        exact (m4 j x hx).keep hk hH (lts_iff.1 hl x (List.mem_of_getElem? hx))
      · intro off; rw [e1, e3, hS h2.cap off]; exact h2.free off
      · intro hz off; rw [e1, e3, hS h2.cap off]; exact h2.fixed hz off
      · obtain ⟨C, z, m1, _⟩ := h2.mem
        intro C' T' z' hz'
        rw [e1, hw h2.cap _ m1] at hz'; cases hz'
        exact h2.org _ _ _ m1
  | bare => exact ⟨by rw [e2]; exact h.1, by rw [e4]; exact h.2⟩
  | map es =>
    obtain ⟨⟨E, clock, h1, h2, hB⟩, h4⟩ := h
    refine ⟨⟨E, clock, by rw [e1]; exact hw trivial _ h1, h2.keep hk hH hl, hB⟩, fun off => ?_⟩
    rw [e1, hS trivial off]; exact h4 off

theorem Ob.lt.mono {n m : Nat} {gs gs' : Nat → Nat} (h : n ≤ m) (hg : ∀ i, gs i ≤ gs' i) {o : Ob} (hl : o.lt n gs) : o.lt m gs' := by
  cases o with
  | box T cs => exact AV.lts.mono h hg (vs := cs) hl
  | row T xs => exact D.lts.mono h xs hl
  | bare => trivial
  | map es => exact fun p hp => ⟨D.lt.mono h _ (hl p hp).1, D.lt.mono h _ (hl p hp).2⟩

/-- The general step: what is neither new nor written is as it was. -/
theorem SR.change {P : Program} {σ σ' : St} {a a' : Act} {w w' : World} {S S' : Fixed} {β β' : Emb} (h : SR P σ a w S β)
    (hk : Keeps w S w' S') (hin : ∀ b off, S' b off → b < w'.heap.size) (hn : size σ ≤ size σ') (hg : ∀ i, gen σ i ≤ gen σ' i)
    (hH : SameH (size σ) β β') (hL : SameL (gen σ) β β') (N : Ref → Prop)
    (hob : ∀ r o, get σ' r = some o → ¬ N r → get σ r = some o ∧ frozen σ' r = frozen σ r ∧
      (HasMem β r o → (∀ x, w.heap[β.blk r]? = some x → w'.heap[β.blk r]? = some x) ∧ ∀ off, S' (β.blk r) off ↔ S (β.blk r) off))
    (hnew : ∀ r o, get σ' r = some o → N r → ObOk P w' S' β' r o (frozen σ' r) ∧ o.lt (size σ') (gen σ'))
    (hsep : ∀ r r' o o', get σ' r = some o → get σ' r' = some o' → r ≠ r' → N r → HasMem β' r o → HasMem β' r' o' → β'.blk r ≠ β'.blk r')
    (henv : ∀ t, (σ'.env t = σ.env t ∧ a'.tmps.getD t undef = a.tmps.getD t undef) ∨
      ((σ'.env t).lt (size σ') (gen σ') ∧ RA w' S' β' (σ'.env t) (a'.tmps.getD t undef)))
    (hb : ∀ t, a'.tmps.size ≤ t → σ'.env t = .d .undef) (hd : a'.defers = []) : SR P σ' a' w' S' β' where
  env t := by
    rcases henv t with ⟨h1, h2⟩ | h1
    · rw [h1, h2]; exact ⟨(h.env t).1.mono hn hg, (h.env t).2.keep hk hH hL (h.env t).1⟩
    · exact h1
  bound := hb
  defers := hd
  obj r o hr := by
    by_cases hN : N r
    · exact hnew r o hr hN
    · obtain ⟨h1, h2, h3⟩ := hob r o hr hN
      have ⟨k1, k2⟩ := h.obj r o h1
      rw [h2]
      exact ⟨k1.keep hk hH hL (get_old h1) k2 (fun m => (h3 m).1) (fun m => (h3 m).2), k2.mono hn hg⟩
  sep r r' o o' hr hr' hne hm hm' := by
    by_cases hN : N r
    · exact hsep r r' o o' hr hr' hne hN hm hm'
    · by_cases hN' : N r'
      · exact (hsep r' r o' o hr' hr (Ne.symm hne) hN' hm' hm).symm
      · obtain ⟨h1, _, _⟩ := hob r o hr hN
        obtain ⟨h1', _, _⟩ := hob r' o' hr' hN'
        have e : ∀ {r : Ref} {o : Ob}, get σ r = some o → β'.blk r = β.blk r ∧ β'.cap r = β.cap r := by
          intro r o hr
          have := get_old hr
          cases r with
          | l i g => exact ⟨(hL i g this).1, (hL i g this).2.1⟩
          | h i => exact ⟨(hH i this).1, (hH i this).2.1⟩
        have hm1 : ∀ {r : Ref} {o : Ob}, get σ r = some o → HasMem β' r o → HasMem β r o := by
          intro r o hr hm
          cases o with
          | row T xs => simp only [HasMem] at hm ⊢; rw [← (e hr).2]; exact hm
          | bare => exact hm
          | _ => trivial
        rw [(e h1).1, (e h1').1]
        exact h.sep r r' o o' h1 h1' hne (hm1 h1 hm) (hm1 h1' hm')
  inw := hin

theorem SameH.refl (n : Nat) (β : Emb) : SameH n β β := fun _ _ => ⟨rfl, rfl, rfl, rfl⟩
theorem SameL.refl (gs : Nat → Nat) (β : Emb) : SameL gs β β := fun _ _ _ => ⟨rfl, rfl, rfl, rfl⟩
theorem Keeps.refl (w : World) (S : Fixed) : Keeps w S w S := fun _ _ h => ⟨h, rfl⟩

/-! ### slots -/
theorem upd_same {α : Type} (f : Nat → α) (i : Nat) (v : α) : upd f i v i = v := by simp [upd]
theorem upd_other {α : Type} (f : Nat → α) {i k : Nat} (v : α) (h : k ≠ i) : upd f i v k = f k := by
  have : Nat.beq k i = false := by
    cases hb : Nat.beq k i with
    | false => rfl
    | true => exact absurd (Nat.eq_of_beq_eq_true hb) h
  simp [upd, this]

/-- A slot may be written. -/
def DstOk (a : Act) (dst : Option Nat) : Prop := ∀ t, dst = some t → t < a.tmps.size

theorem put_tmps_same {a : Act} {t : Nat} {v : Value} (h : t < a.tmps.size) : (a.put (some t) v).tmps.getD t undef = v := by
  simp [Act.put, Array.getD_eq_getD_getElem?, h]
theorem put_tmps_other {a : Act} {t k : Nat} {v : Value} (h : k ≠ t) : (a.put (some t) v).tmps.getD k undef = a.tmps.getD k undef := by
  simp [Act.put, Array.getD_eq_getD_getElem?, Array.getElem?_setIfInBounds_ne (Ne.symm h)]
theorem put_size {a : Act} {dst : Option Nat} {v : Value} : (a.put dst v).tmps.size = a.tmps.size := by cases dst <;> simp [Act.put]
theorem put_defers {a : Act} {dst : Option Nat} {v : Value} : (a.put dst v).defers = a.defers := by cases dst <;> simp [Act.put]

/-- The environment behind an operation. -/
def envOf (σ : St) (dst : Option Nat) (v : AV) : Nat → AV :=
  match dst with
  | some t => upd σ.env t v
  | none => σ.env

theorem env_put {a : Act} {σ : St} {dst : Option Nat} {v : AV} {u : Value} (hd : DstOk a dst) (Q : AV → Value → Prop) (hv : dst.isSome → Q v u) (t : Nat) :
    (envOf σ dst v t = σ.env t ∧ (a.put dst u).tmps.getD t undef = a.tmps.getD t undef) ∨ Q (envOf σ dst v t) ((a.put dst u).tmps.getD t undef) := by
  cases dst with
  | none => exact .inl ⟨rfl, rfl⟩
  | some k =>
    by_cases hk : t = k
    · subst hk
      refine .inr ?_
      rw [put_tmps_same (hd t rfl)]
      simp only [envOf, upd_same]
      exact hv rfl
    · exact .inl ⟨upd_other _ _ hk, put_tmps_other hk⟩

theorem env_bound {a : Act} {σ : St} {dst : Option Nat} {v : AV} {u : Value} (hb : ∀ t, a.tmps.size ≤ t → σ.env t = .d .undef) (hd : DstOk a dst) (t : Nat) (ht : (a.put dst u).tmps.size ≤ t) : envOf σ dst v t = .d .undef := by
  rw [put_size] at ht
  cases dst with
  | none => exact hb t ht
  | some k =>
    have := hd k rfl
    simp only [envOf]
    rw [upd_other _ _ (by omega)]
    exact hb t ht

/-- A value for a slot; nothing else. -/
theorem SR.value {P : Program} {σ : St} {a : Act} {w : World} {S : Fixed} {β : Emb} (h : SR P σ a w S β) {dst : Option Nat} (hd : DstOk a dst) {v : AV} {u : Value}
    (hl : v.lt (size σ) (gen σ)) (hv : RA w S β v u) : SR P { σ with env := envOf σ dst v } (a.put dst u) w S β := by
  refine h.change (Keeps.refl w S) h.inw (Nat.le_refl _) (fun _ => Nat.le_refl _) (SameH.refl _ _) (SameL.refl _ _) (fun _ => False) ?_ ?_ ?_ ?_ ?_ ?_
  · exact fun r o hr _ => ⟨hr, rfl, fun _ => ⟨fun _ hx => hx, fun _ => Iff.rfl⟩⟩
  · exact fun _ _ _ hN => hN.elim
  · exact fun _ _ _ _ _ _ _ hN => hN.elim
  · exact env_put hd (fun v u => v.lt (size σ) (gen σ) ∧ RA w S β v u) (fun _ => ⟨hl, hv⟩)
  · exact env_bound h.bound hd
  · rw [put_defers]; exact h.defers
end Go.AE

/- AE: operands; what is handed on as data. -/
namespace Go.AE

/-! ### constants and operands -/
theorem dOfVal_ok {w : World} {S : Fixed} {β : Emb} {n : Nat} {v : Value} {d : D} (h : dOfVal v = some d) : RV w S β d v ∧ d.lt n ∧ OneC v := by
  unfold dOfVal at h
  split at h <;> first | (simp at h; done) | (simp only [Option.some.injEq] at h; subst h; refine ⟨?_, ?_, ?_⟩ <;> simp [RV, D.lt, OneC])

theorem dsOfVals_ok {w : World} {S : Fixed} {β : Emb} {n : Nat} : ∀ {vs : List Value} {ds : List D}, dsOfVals vs = some ds → RVs w S β ds vs ∧ D.lts n ds ∧ ∀ v ∈ vs, OneC v
  | [], ds, h => by
    simp only [dsOfVals, Option.some.injEq] at h; subst h
    simp [RVs, D.lts]
  | v :: r, ds, h => by
    simp only [dsOfVals] at h
    split at h
    · rename_i d ds' h1 h2
      simp only [Option.some.injEq] at h; subst h
      obtain ⟨a1, a2, a3⟩ := dOfVal_ok (w := w) (S := S) (β := β) (n := n) h1
      obtain ⟨b1, b2, b3⟩ := dsOfVals_ok (w := w) (S := S) (β := β) (n := n) h2
      refine ⟨⟨v, r, rfl, a1, b1⟩, ⟨a2, b2⟩, ?_⟩
      intro x hx
      rcases List.mem_cons.1 hx with rfl | hx
      · exact a3
      · exact b3 x hx
    · simp at h

theorem constD_ok {w : World} {S : Fixed} {β : Emb} {n : Nat} {v : Value} {d : D} (h : constD v = some d) : RV w S β d v ∧ d.lt n := by
  unfold constD at h
  split at h
  · rename_i cs
    rw [Option.map_eq_some_iff] at h
    obtain ⟨ds, h1, rfl⟩ := h
    obtain ⟨a1, a2, a3⟩ := dsOfVals_ok (w := w) (S := S) (β := β) (n := n) h1
    refine ⟨?_, ?_⟩
    · simp only [RV]; exact ⟨cs, rfl, a3, a1⟩
    · simp only [D.lt]; exact a2
  · rename_i cs
    rw [Option.map_eq_some_iff] at h
    obtain ⟨ds, h1, rfl⟩ := h
    obtain ⟨a1, a2, a3⟩ := dsOfVals_ok (w := w) (S := S) (β := β) (n := n) h1
    refine ⟨?_, ?_⟩
    · simp only [RV]; exact ⟨cs, rfl, a1⟩
    · simp only [D.lt]; exact a2
  · obtain ⟨a1, a2, _⟩ := dOfVal_ok (w := w) (S := S) (β := β) (n := n) h
    exact ⟨a1, a2⟩

section
variable {P : Program} {σ : St} {a : Act} {w : World} {S : Fixed} {β : Emb}

theorem opd_ok (h : SR P σ a w S β) {x : Operand} {v : AV} (hx : opd σ.env x = some v) : RA w S β v (a.eval x) ∧ v.lt (size σ) (gen σ) := by
  cases x with
  | tmp t =>
    have := h.env t
    simp only [opd] at hx
    split at hx
    · simp at hx
    · simp only [Option.some.injEq] at hx; subst hx
      exact ⟨this.2, this.1⟩
  | const u =>
    simp only [opd, Option.map_eq_some_iff] at hx
    obtain ⟨d, hd, rfl⟩ := hx
    obtain ⟨h1, h2⟩ := constD_ok (w := w) (S := S) (β := β) (n := size σ) hd
    exact ⟨h1, h2⟩
  | func f =>
    simp only [opd, Option.some.injEq] at hx; subst hx
    refine ⟨?_, ?_⟩
    · simp only [RA, RA1, RV, Act.eval]; exact ⟨#[], #[], rfl, rfl, rfl⟩
    · simp [AV.lt, AV.lt1, D.lt, D.lts]
  | global g => simp [opd] at hx

theorem opd_ne {env : Nat → AV} {x : Operand} {v : AV} (hx : opd env x = some v) : v ≠ .d .undef ∨ ∃ u, x = .const u := by
  cases x with
  | tmp t =>
    simp only [opd] at hx
    split at hx
    · simp at hx
    · rename_i hne
      simp only [Option.some.injEq] at hx; subst hx
      exact .inl hne
  | const u => exact .inr ⟨u, rfl⟩
  | func f => simp only [opd, Option.some.injEq] at hx; subst hx; exact .inl (by simp)
  | global g => simp [opd] at hx

/-- Values in a row. -/
def RAv (w : World) (S : Fixed) (β : Emb) : List AV → List Value → Prop
  | [], vs => vs = []
  | x :: r, vs => ∃ u us, vs = u :: us ∧ RA w S β x u ∧ RAv w S β r us

theorem opds_ok (h : SR P σ a w S β) : ∀ {xs : List Operand} {vs : List AV}, opds σ.env xs = some vs → RAv w S β vs (xs.map a.eval) ∧ ∀ v ∈ vs, v.lt (size σ) (gen σ)
  | [], vs, hx => by
    simp only [opds, Option.some.injEq] at hx; subst hx
    simp [RAv]
  | x :: r, vs, hx => by
    simp only [opds] at hx
    split at hx
    · rename_i v vs' h1 h2
      simp only [Option.some.injEq] at hx; subst hx
      obtain ⟨a1, a2⟩ := opd_ok h h1
      obtain ⟨b1, b2⟩ := opds_ok h h2
      refine ⟨⟨_, _, rfl, a1, b1⟩, ?_⟩
      intro y hy
      rcases List.mem_cons.1 hy with rfl | hy
      · exact a2
      · exact b2 y hy
    · simp at hx
end

/-! ### a slice without memory, as data -/
theorem norm1_ok {w : World} {S : Fixed} {β : Emb} {n : Nat} {d : D} {v : Value} (h : RV w S β d v) (hl : d.lt n) : RV w S β d.norm1 v ∧ d.norm1.lt n := by
  cases d <;> first
    | exact ⟨h, hl⟩
    | (simp only [RV] at h
       obtain ⟨a, rfl⟩ := h
       refine ⟨?_, ?_⟩
       · unfold D.norm1; unfold RV; exact ⟨a, 0, rfl, Nat.le_refl _, .inl rfl⟩
       · simp [D.norm1, D.lt, D.lts])

theorem norm1s_ok {w : World} {S : Fixed} {β : Emb} {n : Nat} : ∀ {ds : List D} {vs : List Value}, RVs w S β ds vs → D.lts n ds → RVs w S β (ds.map D.norm1) vs ∧ D.lts n (ds.map D.norm1)
  | [], vs, h, _ => ⟨h, by simp [D.lts]⟩
  | d :: r, vs, h, hl => by
    simp only [RVs] at h
    simp only [D.lts] at hl
    obtain ⟨u, us, rfl, h1, h2⟩ := h
    obtain ⟨a1, a2⟩ := norm1_ok h1 hl.1
    obtain ⟨b1, b2⟩ := norm1s_ok h2 hl.2
    exact ⟨⟨u, us, rfl, a1, b1⟩, ⟨a2, b2⟩⟩

theorem norm_ok {w : World} {S : Fixed} {β : Emb} {n : Nat} {d : D} {v : Value} (h : RV w S β d v) (hl : d.lt n) : RV w S β d.norm v ∧ d.norm.lt n := by
  cases d with
  | agg cs =>
    simp only [RV] at h
    simp only [D.lt] at hl
    obtain ⟨us, rfl, ho, h⟩ := h
    obtain ⟨a1, a2⟩ := norm1s_ok h hl
    refine ⟨?_, ?_⟩
    · simp only [D.norm, RV]; exact ⟨us, rfl, ho, a1⟩
    · simp only [D.norm, D.lt]; exact a2
  | _ => exact norm1_ok h hl

/-! ### rows that are data from now on -/
/-- The places of a row's elements. -/
def rowPlaces (β : Emb) (r : Ref) (xs : List D) (b off : Nat) : Prop := 0 < β.cap r ∧ b = β.blk r ∧ off < xs.length * β.esz r

theorem REs_of_row {P : Program} {w : World} {S S' : Fixed} {β : Emb} {r : Ref} {T : TypeId} {ys : List D} {fz : Bool} {n : Nat} (h : RowOk P w S β r T ys fz) (hl : D.lts n ys) (hS : ∀ b off, S b off → S' b off)
    (hp : ∀ off, off < ys.length * β.esz r → S' (β.blk r) off) : ∀ (xs : List D) (j : Nat), (∀ i x, xs[i]? = some x → ys[j + i]? = some x) → REs w S' β xs (β.blk r) (j * β.esz r) (β.esz r)
  | [], _, _ => by simp [REs]
  | x :: r', j, hx => by
    have h0 : ys[j]? = some x := by simpa using hx 0 x rfl
    obtain ⟨C, z, m1, m2, m3, m4⟩ := h.mem
    obtain ⟨us, v, e1, e2, e3, e4⟩ := m4 j x h0
    have hk : Keeps w S w S' := fun b off hb => ⟨hS b off hb, rfl⟩
    have hj : j < ys.length := (List.getElem?_eq_some_iff.1 h0).1
    simp only [REs]
    refine ⟨⟨us, v, e1, ?_, e3, RV.keep hk (SameH.refl n β) x v (lts_iff.1 hl x (List.mem_of_getElem? h0)) e4⟩, ?_⟩
    · intro i u hi
      have hi' : i < us.length := (List.getElem?_eq_some_iff.1 hi).1
      refine ⟨hp _ ?_, ?_⟩
      · have : (j + 1) * β.esz r ≤ ys.length * β.esz r := Nat.mul_le_mul_right _ hj
        have e : (j + 1) * β.esz r = j * β.esz r + β.esz r := by rw [Nat.add_mul, Nat.one_mul]
        omega
      · simp only [wcell, World.cell?, m1]
        simpa using e2 i u hi
    · have := REs_of_row h hl hS hp r' (j + 1) (fun i y hy => by have := hx (i + 1) y (by simpa using hy); rwa [show j + 1 + i = j + (i + 1) by omega])
      rwa [show (j + 1) * β.esz r = j * β.esz r + β.esz r by rw [Nat.add_mul, Nat.one_mul]] at this

/-- The state with some rows handed on. -/
def withFz (σ : St) (f : List (Nat × Bool)) : St := { σ with fz := setMany σ.fz f }

theorem get_fz {σ : St} {fz : Nat → Bool} (r : Ref) : get { σ with fz := fz } r = get σ r := by cases r <;> rfl

theorem getL_gen {σ : St} {i g : Nat} {o : Ob} (h : getL σ.loc i g = some o) : g = gen σ i := by
  simp only [getL] at h
  cases hb : Nat.beq (σ.loc i).g g with
  | false => rw [hb] at h; simp at h
  | true => exact (Nat.eq_of_beq_eq_true hb).symm

/-- One row is handed on: what is fixed grows by its elements. -/
theorem SR.freeze {P : Program} {σ : St} {a : Act} {w : World} {S : Fixed} {β : Emb} (h : SR P σ a w S β) (i g : Nat) {xs : List D} (hr : rowL σ.loc i g = some xs) :
    ∃ S' : Fixed, SR P { σ with fz := upd σ.fz i true } a w S' β ∧ Fz σ β S S' ∧
      ∀ off, 0 < β.cap (.l i g) → off < xs.length * β.esz (.l i g) → S' (β.blk (.l i g)) off := by
  simp only [rowL] at hr
  cases ho : getL σ.loc i g with
  | none => rw [ho] at hr; simp at hr
  | some o =>
    rw [ho] at hr
    have hget : get σ (.l i g) = some o := ho
    have hg := getL_gen ho
    obtain ⟨hok, hlt⟩ := h.obj _ _ hget
    -- an object without memory: nothing is fixed
    have triv : (HasMem β (.l i g) o → False) → (o = .bare ∨ ∃ T, o = .row T xs) → ∃ S' : Fixed, SR P { σ with fz := upd σ.fz i true } a w S' β ∧ Fz σ β S S' ∧
        ∀ off, 0 < β.cap (.l i g) → off < xs.length * β.esz (.l i g) → S' (β.blk (.l i g)) off := by
      intro hm hrow
      refine ⟨S, ?_, Fz.refl _ _ _, ?_⟩
      · refine h.change (Keeps.refl w S) h.inw (Nat.le_refl _) (fun _ => Nat.le_refl _) (SameH.refl _ _) (SameL.refl _ _) (fun r => r = .l i g) ?_ ?_ ?_ (fun t => .inl ⟨rfl, rfl⟩) h.bound h.defers
        · intro r o' hr' hne
          rw [get_fz] at hr'
          refine ⟨hr', ?_, fun _ => ⟨fun _ hx => hx, fun _ => Iff.rfl⟩⟩
          cases r with
          | l i' g' =>
            by_cases hi : i' = i
            · subst hi
              have := getL_gen hr'
              exact absurd (by rw [this, hg]) hne
            · exact upd_other _ _ hi
          | h id => rfl
        · rintro r o' hr' rfl
          rw [get_fz, hget] at hr'
          cases hr'
          refine ⟨?_, hlt⟩
          rcases hrow with rfl | ⟨T, rfl⟩
          · exact hok
          · refine ⟨hok.1, ?_⟩
            rcases hok.2 with h1 | h1
            · exact .inl h1
            · exact (hm h1.cap).elim
        · rintro r r' o' o'' hr' hr'' hne rfl hm' hm''
          rw [get_fz, hget] at hr'
          cases hr'
          exact (hm hm').elim
      · intro off hc _
        rcases hrow with rfl | ⟨T, rfl⟩
        · have := hok.1; omega
        · exact (hm hc).elim
    cases o with
    | box T cs => simp at hr
    | map es => simp at hr
    | bare =>
      simp only [Option.some.injEq] at hr; subst hr
      exact triv (fun h => h) (.inl rfl)
    | row T ys =>
      simp only [Option.some.injEq] at hr; subst hr
      rcases hok.2 with h0 | hrow
      · exact triv (fun hm => by simp only [HasMem] at hm; omega) (.inr ⟨T, rfl⟩)
      · refine ⟨fun b off => S b off ∨ rowPlaces β (.l i g) ys b off, ?_, ⟨fun _ _ hb => .inl hb, ?_⟩, ?_⟩
        · obtain ⟨C, z, m1, m2, m3, m4⟩ := hrow.mem
          have hk : Keeps w S w (fun b off => S b off ∨ rowPlaces β (.l i g) ys b off) := fun b off hb => ⟨.inl hb, rfl⟩
          have hblk : β.blk (.l i g) < w.heap.size := (Array.getElem?_eq_some_iff.1 m1).1
          refine h.change hk ?_ (Nat.le_refl _) (fun _ => Nat.le_refl _) (SameH.refl _ _) (SameL.refl _ _) (fun r => r = .l i g) ?_ ?_ ?_ (fun t => .inl ⟨rfl, rfl⟩) h.bound h.defers
          · rintro b off (hb | ⟨_, rfl, _⟩)
            · exact h.inw b off hb
            · exact hblk
          · intro r o' hr' hne
            rw [get_fz] at hr'
            refine ⟨hr', ?_, fun hm => ⟨fun _ hx => hx, fun off => ?_⟩⟩
            · cases r with
              | l i' g' =>
                by_cases hi : i' = i
                · subst hi
                  have := getL_gen hr'
                  exact absurd (by rw [this, hg]) hne
                · exact upd_other _ _ hi
              | h id => rfl
            · constructor
              · rintro (hb | ⟨_, hb, _⟩)
                · exact hb
                · exact (h.sep r (.l i g) o' _ hr' hget hne hm hrow.cap hb).elim
              · exact .inl
          · rintro r o' hr' rfl
            rw [get_fz, hget] at hr'
            cases hr'
            refine ⟨⟨hok.1, .inr ⟨hrow.cap, hrow.esz, hrow.ty, hrow.fits, ⟨C, z, m1, m2, ?_, ?_⟩, ?_, ?_, hrow.org⟩⟩, hlt⟩
            · have e : frozen { σ with fz := upd σ.fz i true } (.l i g) = true := upd_same _ _ _
              rw [e]
              intro off h1 h2 h3
              refine m3 off ?_ h2 h3
              split
              · exact h1
              · exact Nat.zero_le _
            · exact fun j x hx => (m4 j x hx).keep hk (SameH.refl (size σ) β) (lts_iff.1 hlt x (List.mem_of_getElem? hx))
            · intro off hb
              refine ⟨upd_same _ _ _, ?_⟩
              rcases hb with hb | ⟨_, _, hb⟩
              · exact (hrow.free off hb).2
              · exact hb
            · exact fun _ off ho => .inr ⟨hrow.cap, rfl, ho⟩
          · rintro r r' o' o'' hr' hr'' hne rfl hm' hm''
            rw [get_fz] at hr' hr''
            exact h.sep _ _ _ _ hr' hr'' hne hm' hm''
        · rintro b off (hb | ⟨_, rfl, _⟩)
          · exact .inl hb
          · exact .inr ⟨.l i g, .row T ys, hget, hrow.cap, rfl⟩
        · exact fun off hc ho => .inr ⟨hc, rfl, ho⟩
end Go.AE

/- AE: values handed on as data. -/
namespace Go.AE

theorem setMany_append {α : Type} (l : Nat → α) (a b : List (Nat × α)) : setMany l (a ++ b) = setMany (setMany l a) b := by simp [setMany, List.foldl_append]
theorem setMany_nil {α : Type} (l : Nat → α) : setMany l [] = l := rfl

theorem withFz_append (σ : St) (a b : List (Nat × Bool)) : withFz σ (a ++ b) = withFz (withFz σ a) b := by simp [withFz, setMany_append]
theorem withFz_nil (σ : St) : withFz σ [] = σ := rfl

theorem Keeps.mono {w : World} {S S' : Fixed} (h : ∀ b off, S b off → S' b off) : Keeps w S w S' := fun b off hb => ⟨h b off hb, rfl⟩

theorem rowL_get {loc : Nat → LOb} {i g : Nat} {xs : List D} (h : rowL loc i g = some xs) : (∃ T, getL loc i g = some (.row T xs)) ∨ (getL loc i g = some .bare ∧ xs = []) := by
  simp only [rowL] at h
  split at h
  · simp only [Option.some.injEq] at h; subst h; rename_i T _ ho; exact .inl ⟨T, ho⟩
  · simp only [Option.some.injEq] at h; subst h; rename_i ho; exact .inr ⟨ho, rfl⟩
  · simp at h

section
variable {P : Program} {σ : St} {a : Act} {w : World} {S : Fixed} {β : Emb}

/-- What is known of a row that is read: its length, and its elements where they are fixed. -/
theorem row_reads (h : SR P σ a w S β) {r : Ref} {T : TypeId} {xs : List D} (ho : get σ r = some (.row T xs)) {S' : Fixed} (hS : ∀ b off, S b off → S' b off)
    (hp : ∀ off, 0 < β.cap r → off < xs.length * β.esz r → S' (β.blk r) off) (off len : Nat) (hl : off + len ≤ xs.length) (p : Option Addr) (cap : Nat) (hcap : off + cap = β.cap r)
    (ha : 0 < β.cap r → p = some ⟨β.blk r, off * β.esz r, none⟩) : RV w S' β (.list ((xs.drop off).take len)) (.slice p len cap) := by
  obtain ⟨hok, hlt⟩ := h.obj _ _ ho
  have hlen : ((xs.drop off).take len).length = len := by simp; omega
  simp only [RV]
  rcases hok.2 with ⟨_, h0⟩ | hrow
  · exact ⟨p, cap, by rw [hlen], by subst h0; simp, .inl (by subst h0; simp)⟩
  · refine ⟨p, cap, by rw [hlen], by rw [hlen]; have := hrow.fits; omega, ?_⟩
    refine .inr ⟨β.blk r, off * β.esz r, β.esz r, ha hrow.cap, ?_⟩
    refine REs_of_row hrow hlt hS (fun o ho => hp o hrow.cap ho) _ off ?_
    intro i x hx
    rw [List.getElem?_take] at hx
    split at hx
    · rwa [List.getElem?_drop] at hx
    · simp at hx

theorem lts_sub {n : Nat} {xs : List D} (h : D.lts n xs) (off len : Nat) : D.lts n ((xs.drop off).take len) := by
  rw [lts_iff] at h ⊢
  exact fun d hd => h d (List.mem_of_mem_drop (List.mem_of_mem_take hd))

theorem resolve1_ok (h : SR P σ a w S β) {x : AV} {u : Value} {d : D} {f : List (Nat × Bool)} (hx : resolve1 σ.loc x = some (d, f)) (hu : RA1 w S β x u) (hl : x.lt1 (size σ) (gen σ)) :
    ∃ S' : Fixed, SR P (withFz σ f) a w S' β ∧ Fz σ β S S' ∧ RV w S' β d u ∧ d.lt (size σ) := by
  have whole : ∀ (i g : Nat) (xs : List D), rowL σ.loc i g = some xs → ∀ off len p cap, off + len ≤ xs.length → off + cap = β.cap (.l i g) → (0 < β.cap (.l i g) → p = some ⟨β.blk (.l i g), off * β.esz (.l i g), none⟩) →
      ∃ S' : Fixed, SR P (withFz σ [(i, true)]) a w S' β ∧ Fz σ β S S' ∧ RV w S' β (.list ((xs.drop off).take len)) (.slice p len cap) ∧ (D.list ((xs.drop off).take len)).lt (size σ) := by
    intro i g xs hr off len p cap hol hcp hp
    obtain ⟨S', s1, s2, s4⟩ := h.freeze i g hr
    refine ⟨S', s1, s2, ?_⟩
    rcases rowL_get hr with ⟨T, ho⟩ | ⟨ho, rfl⟩
    · have ho' : get σ (.l i g) = some (.row T xs) := ho
      refine ⟨row_reads h ho' s2.1 (fun o h1 h2 => s4 o h1 h2) off len hol p cap hcp hp, ?_⟩
      simp only [D.lt]
      exact lts_sub (h.obj _ _ ho').2 off len
    · refine ⟨?_, by simp [D.lt, D.lts]⟩
      have : len = 0 := by simp at hol; omega
      subst this
      simp only [RV]
      exact ⟨p, cap, by simp, by simp, .inl (by simp)⟩
  cases x with
  | d x =>
    simp only [resolve1] at hx
    split at hx
    · simp at hx
    · rename_i heq
      simp only [Option.some.injEq, Prod.mk.injEq] at hx
      obtain ⟨rfl, rfl⟩ := hx
      rename_i hne x'
      cases heq
      exact ⟨S, h, Fz.refl _ _ _, hu, hl⟩
    all_goals simp_all
  | lsf i g =>
    simp only [resolve1, Option.map_eq_some_iff] at hx
    obtain ⟨xs, hr, he⟩ := hx
    simp only [Prod.mk.injEq] at he
    obtain ⟨rfl, rfl⟩ := he
    simp only [RA1] at hu
    obtain ⟨p, rfl, hp⟩ := hu
    have hlen : β.len (.l i g) = xs.length := by
      rcases rowL_get hr with ⟨T, ho⟩ | ⟨ho, rfl⟩
      · exact (h.obj (.l i g) _ ho).1.1
      · exact (h.obj (.l i g) _ ho).1.2
    have := whole i g xs hr 0 xs.length p (β.cap (.l i g)) (by omega) (by omega) (by simpa using hp)
    rw [hlen]
    simpa using this
  | ls i g off len =>
    simp only [resolve1, Option.bind_eq_some_iff] at hx
    obtain ⟨xs, hr, he⟩ := hx
    split at he
    · rename_i hol
      simp only [Option.some.injEq, Prod.mk.injEq] at he
      obtain ⟨rfl, rfl⟩ := he
      simp only [RA1] at hu
      obtain ⟨p, cap, rfl, hcp, hp⟩ := hu
      exact whole i g xs hr off len p cap hol hcp hp
    · simp at he
  | lp i g off => simp [resolve1] at hx
  | lr i g j off => simp [resolve1] at hx
  | lb i g off len => simp [resolve1] at hx
  | agg cs => simp [resolve1] at hx

theorem resolveL_ok : ∀ {xs : List AV} {σ : St} {S : Fixed} {us : List Value} {ds : List D} {f : List (Nat × Bool)}, SR P σ a w S β → resolveL σ.loc xs = some (ds, f) → RAs w S β xs us → AV.lts (size σ) (gen σ) xs →
    ∃ S' : Fixed, SR P (withFz σ f) a w S' β ∧ Fz σ β S S' ∧ RVs w S' β ds us ∧ D.lts (size σ) ds
  | [], σ, S, us, ds, f, h, hx, hu, _ => by
    simp only [resolveL, Option.some.injEq, Prod.mk.injEq] at hx
    obtain ⟨rfl, rfl⟩ := hx
    simp only [RAs] at hu
    subst hu
    exact ⟨S, h, Fz.refl _ _ _, rfl, trivial⟩
  | x :: r, σ, S, us, ds, f, h, hx, hu, hl => by
    simp only [resolveL] at hx
    split at hx
    · rename_i d f1 ds' f2 h1 h2
      simp only [Option.some.injEq, Prod.mk.injEq] at hx
      obtain ⟨rfl, rfl⟩ := hx
      simp only [RAs] at hu
      obtain ⟨u, us', rfl, u1, u2⟩ := hu
      simp only [AV.lts] at hl
      obtain ⟨S1, s1, s2, s3, s4⟩ := resolve1_ok h h1 u1 hl.1
      have hk := Keeps.mono (w := w) s2.1
      obtain ⟨S2, t1, t2, t3, t4⟩ := resolveL_ok (xs := r) (σ := withFz σ f1) s1 h2 (u2.keep hk (SameH.refl (size σ) β) (SameL.refl (gen σ) β) hl.2) hl.2
      refine ⟨S2, by rw [withFz_append]; exact t1, s2.trans (fun r => get_fz r) t2, ?_, ⟨s4, t4⟩⟩
      exact ⟨u, us', rfl, RV.keep (Keeps.mono (w := w) t2.1) (SameH.refl (size σ) β) d u s4 s3, t3⟩
    · simp at hx

theorem resolve_ok (h : SR P σ a w S β) {x : AV} {u : Value} {d : D} {f : List (Nat × Bool)} (hx : resolve σ.loc x = some (d, f)) (hu : RA w S β x u) (hl : x.lt (size σ) (gen σ)) :
    ∃ S' : Fixed, SR P (withFz σ f) a w S' β ∧ Fz σ β S S' ∧ RV w S' β d u ∧ d.lt (size σ) := by
  cases x with
  | agg cs =>
    simp only [resolve, Option.map_eq_some_iff] at hx
    obtain ⟨p, hp, he⟩ := hx
    simp only [Prod.mk.injEq] at he
    obtain ⟨rfl, rfl⟩ := he
    simp only [RA] at hu
    obtain ⟨us, rfl, ho, hu⟩ := hu
    obtain ⟨S', s1, s2, s3, s4⟩ := resolveL_ok h hp hu hl
    refine ⟨S', s1, s2, ?_, ?_⟩
    · simp only [RV]; exact ⟨us, rfl, ho, s3⟩
    · simp only [D.lt]; exact s4
  | d x => exact resolve1_ok (x := .d x) h hx hu hl
  | lp i g off => exact resolve1_ok (x := .lp i g off) h hx hu hl
  | lr i g j off => exact resolve1_ok (x := .lr i g j off) h hx hu hl
  | lsf i g => exact resolve1_ok (x := .lsf i g) h hx hu hl
  | ls i g off len => exact resolve1_ok (x := .ls i g off len) h hx hu hl
  | lb i g off len => exact resolve1_ok (x := .lb i g off len) h hx hu hl

theorem resolveN_ok (h : SR P σ a w S β) {x : AV} {u : Value} {d : D} {f : List (Nat × Bool)} (hx : resolveN σ.loc x = some (d, f)) (hu : RA w S β x u) (hl : x.lt (size σ) (gen σ)) :
    ∃ S' : Fixed, SR P (withFz σ f) a w S' β ∧ Fz σ β S S' ∧ RV w S' β d u ∧ d.lt (size σ) := by
  simp only [resolveN, Option.map_eq_some_iff] at hx
  obtain ⟨p, hp, he⟩ := hx
  simp only [Prod.mk.injEq] at he
  obtain ⟨rfl, rfl⟩ := he
  obtain ⟨S', s1, s2, s3, s4⟩ := resolve_ok h hp hu hl
  obtain ⟨n1, n2⟩ := norm_ok s3 s4
  exact ⟨S', s1, s2, n1, n2⟩

theorem resolves_ok {raw : Bool} : ∀ {xs : List AV} {σ : St} {S : Fixed} {us : List Value} {ds : List D} {f : List (Nat × Bool)}, SR P σ a w S β → resolves raw σ.loc xs = some (ds, f) → RAv w S β xs us → (∀ x ∈ xs, x.lt (size σ) (gen σ)) →
    ∃ S' : Fixed, SR P (withFz σ f) a w S' β ∧ Fz σ β S S' ∧ RVs w S' β ds us ∧ D.lts (size σ) ds
  | [], σ, S, us, ds, f, h, hx, hu, _ => by
    simp only [resolves, Option.some.injEq, Prod.mk.injEq] at hx
    obtain ⟨rfl, rfl⟩ := hx
    simp only [RAv] at hu
    subst hu
    exact ⟨S, h, Fz.refl _ _ _, rfl, trivial⟩
  | x :: r, σ, S, us, ds, f, h, hx, hu, hl => by
    simp only [resolves] at hx
    split at hx
    · rename_i d f1 ds' f2 h1 h2
      simp only [Option.some.injEq, Prod.mk.injEq] at hx
      obtain ⟨rfl, rfl⟩ := hx
      simp only [RAv] at hu
      obtain ⟨u, us', rfl, u1, u2⟩ := hu
      have one : ∃ S' : Fixed, SR P (withFz σ f1) a w S' β ∧ Fz σ β S S' ∧ RV w S' β d u ∧ d.lt (size σ) := by
        cases raw with
        | true => exact resolve_ok h h1 u1 (hl x (by simp))
        | false => exact resolveN_ok h h1 u1 (hl x (by simp))
      obtain ⟨S1, s1, s2, s3, s4⟩ := one
      have hk := Keeps.mono (w := w) s2.1
      have keepAv : ∀ {ys : List AV} {vs : List Value}, (∀ y ∈ ys, y.lt (size σ) (gen σ)) → RAv w S β ys vs → RAv w S1 β ys vs := by
        intro ys
        induction ys with
        | nil => intro vs _ hv; exact hv
        | cons y ys ih =>
          intro vs hy hv
          obtain ⟨v, vs', rfl, v1, v2⟩ := hv
          exact ⟨v, vs', rfl, v1.keep hk (SameH.refl (size σ) β) (SameL.refl (gen σ) β) (hy y (by simp)), ih (fun z hz => hy z (by simp [hz])) v2⟩
      obtain ⟨S2, t1, t2, t3, t4⟩ := resolves_ok (raw := raw) (xs := r) (σ := withFz σ f1) s1 h2 (keepAv (fun y hy => hl y (by simp [hy])) u2) (fun y hy => hl y (by simp [hy]))
      refine ⟨S2, by rw [withFz_append]; exact t1, s2.trans (fun r => get_fz r) t2, ?_, ⟨s4, t4⟩⟩
      exact ⟨u, us', rfl, RV.keep (Keeps.mono (w := w) t2.1) (SameH.refl (size σ) β) d u s4 s3, t3⟩
    · simp at hx
end
end Go.AE

/- AE: reading memory. -/
namespace Go.AE

theorem isAggT_row {P : Program} {t : TypeId} (h : isAggT P t = true) : ∃ d, P.underlying t = some d ∧ d.isRow = true := by
  unfold isAggT at h
  split at h
  · rename_i d hd; exact ⟨_, hd, rfl⟩
  · rename_i d e hd; exact ⟨_, hd, rfl⟩
  · simp at h

theorem info_some {P : Program} {t : TypeId} (h : (P.underlying t).isSome) : ∃ i, P.info? t = some i := by
  cases hi : P.info? t with
  | none => simp [Program.underlying, hi] at h
  | some i => exact ⟨i, rfl⟩

theorem sizeT_map {P : Program} {t : TypeId} (h : (P.underlying t).isSome) : (P.info? t).map (·.size) = some (sizeT P t) := by
  obtain ⟨i, hi⟩ := info_some h
  simp [sizeT, hi]

theorem isAgg_run {P : Program} {t : TypeId} (h : (P.underlying t).isSome) (w : World) : (isAgg t).run P w = .ok (isAggT P t) w := by
  obtain ⟨d, hd⟩ := Option.isSome_iff_exists.1 h
  unfold isAgg isAggT
  rw [Sem.run_bind, run_underlying hd w, hd]
  cases d <;> rfl

/-- A variable of so many cells, wherever it lies. -/
theorem loadVar_ok {P : Program} {t : TypeId} (hu : (P.underlying t).isSome) (w : World) (b off : Nat) {us : List Value} {v : Value}
    (hc : ∀ i u, us[i]? = some u → wcell w b (off + i) = some u) (hs : isAggT P t = true → us.length = sizeT P t ∧ v = .agg us.toArray) (h1 : isAggT P t = false → us = [v]) :
    (Instr.loadAt t (.pointer (some ⟨b, off, none⟩))).run P w = .ok v w := by
  cases ha : isAggT P t with
  | true =>
    obtain ⟨d, hd, hr⟩ := isAggT_row ha
    obtain ⟨e1, rfl⟩ := hs ha
    exact run_loadAt_mid w b off t us d (fun j u hj => hc j u hj) hd hr (by rw [sizeT_map hu, e1])
  | false =>
    have := h1 ha
    subst this
    have h0 := hc 0 v rfl
    simp only [Nat.add_zero, wcell] at h0
    simp only [Instr.loadAt, Instr.sureAddr, Sem.run_bind, Sem.run_pure, Result.andThen_ok, loadVar, isAgg_run hu w, ha, Bool.false_eq_true, if_false]
    rw [run_load, h0]

theorem allD_map : ∀ {cs : List AV} {ds : List D}, allD cs = some ds → cs = ds.map .d
  | [], ds, h => by simp only [allD, Option.some.injEq] at h; subst h; rfl
  | x :: r, ds, h => by
    cases x with
    | d y =>
      simp only [allD, Option.map_eq_some_iff] at h
      obtain ⟨ds', h1, rfl⟩ := h
      rw [allD_map h1]; rfl
    | _ => simp [allD] at h

theorem RAs_map {w : World} {S : Fixed} {β : Emb} : ∀ {ds : List D} {us : List Value}, RAs w S β (ds.map .d) us ↔ RVs w S β ds us
  | [], us => by simp [RAs, RVs]
  | d :: r, us => by
    simp only [List.map_cons, RAs, RVs, RA1]
    constructor
    · rintro ⟨u, us', rfl, h1, h2⟩; exact ⟨u, us', rfl, h1, RAs_map.1 h2⟩
    · rintro ⟨u, us', rfl, h1, h2⟩; exact ⟨u, us', rfl, h1, RAs_map.2 h2⟩

theorem alts_map {n : Nat} {gs : Nat → Nat} {ds : List D} : AV.lts n gs (ds.map .d) ↔ D.lts n ds := by
  rw [alts_iff, lts_iff]
  simp [AV.lt1]

theorem mkAgg_ok {w : World} {S : Fixed} {β : Emb} {n : Nat} {gs : Nat → Nat} {cs : List AV} {us : List Value} (h : RAs w S β cs us) (ho : ∀ u ∈ us, OneC u) (hl : AV.lts n gs cs) :
    RA w S β (mkAgg cs) (.agg us.toArray) ∧ (mkAgg cs).lt n gs := by
  unfold mkAgg
  split
  · rename_i ds hd
    have := allD_map hd
    subst this
    refine ⟨?_, ?_⟩
    · simp only [RA, RA1, RV]; exact ⟨us.toArray, rfl, by simpa using ho, by simpa using RAs_map.1 h⟩
    · simp only [AV.lt, AV.lt1, D.lt]; exact alts_map.1 hl
  · exact ⟨⟨us.toArray, rfl, by simpa using ho, by simpa using h⟩, hl⟩

theorem RVs_drop {w : World} {S : Fixed} {β : Emb} {ds : List D} {us : List Value} (h : RVs w S β ds us) (k : Nat) : RVs w S β (ds.drop k) (us.drop k) := by
  rw [RVs_iff] at h ⊢
  refine ⟨by simp [h.1], fun i d v hd hv => ?_⟩
  rw [List.getElem?_drop] at hd hv
  exact h.2 _ d v hd hv
theorem RVs_take {w : World} {S : Fixed} {β : Emb} {ds : List D} {us : List Value} (h : RVs w S β ds us) (k : Nat) : RVs w S β (ds.take k) (us.take k) := by
  rw [RVs_iff] at h ⊢
  refine ⟨by simp [h.1], fun i d v hd hv => ?_⟩
  rw [List.getElem?_take] at hd hv
  split at hd <;> split at hv <;> first | exact h.2 _ d v hd hv | simp at hd hv
theorem RAs_drop {w : World} {S : Fixed} {β : Emb} {ds : List AV} {us : List Value} (h : RAs w S β ds us) (k : Nat) : RAs w S β (ds.drop k) (us.drop k) := by
  rw [RAs_iff] at h ⊢
  refine ⟨by simp [h.1], fun i d v hd hv => ?_⟩
  rw [List.getElem?_drop] at hd hv
  exact h.2 _ d v hd hv
theorem RAs_take {w : World} {S : Fixed} {β : Emb} {ds : List AV} {us : List Value} (h : RAs w S β ds us) (k : Nat) : RAs w S β (ds.take k) (us.take k) := by
  rw [RAs_iff] at h ⊢
  refine ⟨by simp [h.1], fun i d v hd hv => ?_⟩
  rw [List.getElem?_take] at hd hv
  split at hd <;> split at hv <;> first | exact h.2 _ d v hd hv | simp at hd hv

theorem RAs_length {w : World} {S : Fixed} {β : Emb} {ds : List AV} {us : List Value} (h : RAs w S β ds us) : ds.length = us.length := (RAs_iff.1 h).1
theorem RVs_length {w : World} {S : Fixed} {β : Emb} {ds : List D} {us : List Value} (h : RVs w S β ds us) : ds.length = us.length := (RVs_iff.1 h).1

/-- So many cells, as a value: of a variable. -/
theorem valA_ok {P : Program} {t : TypeId} {w : World} {S : Fixed} {β : Emb} {n : Nat} {gs : Nat → Nat} {cs : List AV} {us : List Value} {v : AV} (h : RAs w S β cs us) (ho : ∀ u ∈ us, OneC u) (hl : AV.lts n gs cs)
    (hv : valA (isAggT P t) (sizeT P t) cs = some v) :
    ∃ u us', (∀ (i : Nat) x, us'[i]? = some x → us[i]? = some x) ∧ (isAggT P t = true → us'.length = sizeT P t ∧ u = .agg us'.toArray) ∧ (isAggT P t = false → us' = [u]) ∧ RA w S β v u ∧ v.lt n gs ∧ (isAggT P t = false → OneC u) := by
  unfold valA at hv
  split at hv
  · rename_i ha
    split at hv
    · rename_i hn
      simp only [Option.some.injEq] at hv; subst hv
      have hlen := RAs_length h
      obtain ⟨m1, m2⟩ := mkAgg_ok (RAs_take h (sizeT P t)) (fun u hu => ho u (List.mem_of_mem_take hu)) (n := n) (gs := gs) (by rw [alts_iff] at hl ⊢; exact fun d hd => hl d (List.mem_of_mem_take hd))
      refine ⟨.agg (us.take (sizeT P t)).toArray, us.take (sizeT P t), ?_, fun _ => ⟨by simp; omega, rfl⟩, fun hf => by simp [ha] at hf, m1, m2, fun hf => by simp [ha] at hf⟩
      intro i x hx
      rw [List.getElem?_take] at hx
      split at hx
      · exact hx
      · simp at hx
    · simp at hv
  · rename_i ha
    cases cs with
    | nil => simp at hv
    | cons x r =>
      simp only [List.head?_cons, Option.some.injEq] at hv; subst hv
      obtain ⟨u, us', rfl, h1, h2⟩ := h
      refine ⟨u, [u], ?_, fun hf => absurd hf ha, fun _ => rfl, ?_, ?_, fun _ => ho u (by simp)⟩
      · intro i y hy
        cases i with
        | zero => simpa using hy
        | succ i => simp at hy
      · cases x with
        | agg _ => exact h1.elim
        | d _ => exact h1
        | lp _ _ _ => exact h1
        | lr _ _ _ _ => exact h1
        | lsf _ _ => exact h1
        | ls _ _ _ _ => exact h1
        | lb _ _ _ _ => exact h1
      · have := hl.1
        cases x with
        | agg _ => exact this.elim
        | d _ => exact this
        | lp _ _ _ => exact this
        | lr _ _ _ _ => exact this
        | lsf _ _ => exact this
        | ls _ _ _ _ => exact this
        | lb _ _ _ _ => exact this

/-- The same of data. -/
theorem valD_ok {P : Program} {t : TypeId} {w : World} {S : Fixed} {β : Emb} {n : Nat} {cs : List D} {us : List Value} {v : D} (h : RVs w S β cs us) (ho : isAggT P t = true → ∀ u ∈ us, OneC u) (hl : D.lts n cs)
    (hv : valD (isAggT P t) (sizeT P t) cs = some v) :
    ∃ u us', (∀ (i : Nat) x, us'[i]? = some x → us[i]? = some x) ∧ (isAggT P t = true → us'.length = sizeT P t ∧ u = .agg us'.toArray) ∧ (isAggT P t = false → us' = [u]) ∧ RV w S β v u ∧ v.lt n := by
  unfold valD at hv
  split at hv
  · rename_i ha
    split at hv
    · rename_i hn
      simp only [Option.some.injEq] at hv; subst hv
      have hlen := RVs_length h
      refine ⟨.agg (us.take (sizeT P t)).toArray, us.take (sizeT P t), ?_, fun _ => ⟨by simp; omega, rfl⟩, fun hf => by simp [ha] at hf, ?_, ?_⟩
      · intro i x hx
        rw [List.getElem?_take] at hx
        split at hx
        · exact hx
        · simp at hx
      · simp only [RV]; exact ⟨_, rfl, fun u hu => ho ha u (List.mem_of_mem_take (by simpa using hu)), by simpa using RVs_take h _⟩
      · simp only [D.lt]; rw [lts_iff] at hl ⊢; exact fun d hd => hl d (List.mem_of_mem_take hd)
    · simp at hv
  · rename_i ha
    cases cs with
    | nil => simp at hv
    | cons x r =>
      simp only [List.head?_cons, Option.some.injEq] at hv; subst hv
      simp only [RVs] at h
      obtain ⟨u, us', rfl, h1, h2⟩ := h
      refine ⟨u, [u], ?_, fun hf => absurd hf ha, fun _ => rfl, h1, hl.1⟩
      intro i y hy
      cases i with
      | zero => simpa using hy
      | succ i => simp at hy

section
variable {P : Program} {σ : St} {a : Act} {w : World} {S : Fixed} {β : Emb}

theorem ptrOf_RA {x : AV} {r : Ref} {off : Nat} {u : Value} (hp : ptrOf x = some (r, off)) (hu : RA w S β x u) : u = .pointer (some ⟨β.blk r, off, none⟩) := by
  unfold ptrOf at hp
  split at hp
  · simp only [Option.some.injEq, Prod.mk.injEq] at hp; obtain ⟨rfl, rfl⟩ := hp; exact hu
  · simp only [Option.some.injEq, Prod.mk.injEq] at hp; obtain ⟨rfl, rfl⟩ := hp; simpa only [RA, RA1, RV] using hu
  · simp at hp

theorem elOf_RA {x : AV} {r : Ref} {j off : Nat} {u : Value} (hp : elOf x = some (r, j, off)) (hu : RA w S β x u) : u = .pointer (some ⟨β.blk r, j * β.esz r + off, none⟩) := by
  unfold elOf at hp
  split at hp
  · simp only [Option.some.injEq, Prod.mk.injEq] at hp; obtain ⟨rfl, rfl, rfl⟩ := hp; exact hu
  · simp only [Option.some.injEq, Prod.mk.injEq] at hp; obtain ⟨rfl, rfl, rfl⟩ := hp; simpa only [RA, RA1, RV] using hu
  · simp at hp

/-- A row's element lies where it should. -/
theorem row_el (h : SR P σ a w S β) {r : Ref} {T : TypeId} {xs : List D} (ho : get σ r = some (.row T xs)) {j : Nat} {x : D} (hx : xs[j]? = some x) :
    RowOk P w S β r T xs (frozen σ r) ∧ ∃ us v, us.length = β.esz r ∧ (∀ i u, us[i]? = some u → wcell w (β.blk r) (j * β.esz r + i) = some u) ∧ Fits x us v ∧ RV w S β x v ∧ x.lt (size σ) := by
  obtain ⟨hok, hlt⟩ := h.obj _ _ ho
  rcases hok.2 with ⟨_, h0⟩ | hrow
  · subst h0; simp at hx
  · refine ⟨hrow, ?_⟩
    obtain ⟨C, z, m1, m2, m3, m4⟩ := hrow.mem
    obtain ⟨us, v, e1, e2, e3, e4⟩ := m4 j x hx
    refine ⟨us, v, e1, fun i u hi => ?_, e3, e4, lts_iff.1 hlt x (List.mem_of_getElem? hx)⟩
    simp only [wcell, World.cell?, m1]
    simpa using e2 i u hi

theorem load_ok {c : Cfg} (h : SR c.P σ a w S β) {T : TypeId} {x : AV} {ux : Value} {v : AV} (hx : RA w S β x ux) (hlx : x.lt (size σ) (gen σ)) (hv : load c σ T x = some v) :
    ∃ u, (Instr.loadAt T ux).run c.P w = .ok u w ∧ RA w S β v u ∧ v.lt (size σ) (gen σ) := by
  unfold load at hv
  split at hv
  case isFalse => simp at hv
  rename_i hun
  unfold loadAt at hv
  split at hv
  · -- a variable
    rename_i r off hp
    rw [ptrOf_RA hp hx]
    split at hv
    · rename_i T' cs ho
      obtain ⟨⟨⟨C, z, m1, m2, m3, m4⟩, _⟩, hlt⟩ := h.obj _ _ ho
      have hlt' : AV.lts (size σ) (gen σ) (cs.drop off) := by
        have : AV.lts (size σ) (gen σ) cs := hlt
        rw [alts_iff] at this ⊢; exact fun d hd => this d (List.mem_of_mem_drop hd)
      obtain ⟨u, us', e1, e2, e3, e4, e5, _⟩ := valA_ok (RAs_drop m4 off) (fun u hu => m3 u (List.mem_of_mem_drop hu)) hlt' hv
      refine ⟨u, loadVar_ok hun w _ _ (us := us') (fun i y hy => ?_) e2 e3, e4, e5⟩
      have := e1 i y hy
      rw [List.getElem?_drop] at this
      simp only [wcell, World.cell?, m1]
      simpa using this
    · simp at hv
  · split at hv
    · -- an element of a row
      rename_i r j off hp
      rw [elOf_RA hp hx]
      split at hv
      · rename_i T' xs ho
        simp only [Option.bind_eq_some_iff, Option.map_eq_some_iff] at hv
        obtain ⟨y, hy, d, hd, rfl⟩ := hv
        obtain ⟨hrow, us, v0, k1, k2, k3, k4, k5⟩ := row_el h ho hy
        cases y with
        | agg cs =>
          simp only [partD] at hd
          simp only [RV] at k4
          obtain ⟨us0, rfl, o1, k4⟩ := k4
          simp only [Fits, Value.agg.injEq] at k3
          subst k3
          simp only [D.lt] at k5
          obtain ⟨u, us', e1, e2, e3, e4, e5⟩ := valD_ok (RVs_drop (by simpa using k4) off) (fun _ u hu => o1 u (by simpa using List.mem_of_mem_drop hu)) (by rw [lts_iff] at k5 ⊢; exact fun d hd => k5 d (List.mem_of_mem_drop hd)) hd
          refine ⟨u, loadVar_ok hun w _ _ (us := us') (fun i z hz => ?_) e2 e3, e4, e5⟩
          have := e1 i z hz
          rw [List.getElem?_drop] at this
          have := k2 _ _ this
          rwa [← Nat.add_assoc] at this
        | _ =>
          simp only [partD] at hd
          split at hd
          · rename_i hc
            obtain ⟨rfl, hag⟩ := hc
            simp only [Option.some.injEq] at hd; subst hd
            simp only [Fits] at k3
            subst k3
            refine ⟨v0, loadVar_ok hun w _ _ (us := [v0]) (fun i z hz => ?_) (fun ht => by simp [hag] at ht) (fun _ => rfl), k4, k5⟩
            rw [Nat.add_zero]; exact k2 i z hz
          · simp at hd
      · simp at hv
    · -- what never changes
      split at hv
      · rename_i cs
        simp only [Option.map_eq_some_iff] at hv
        obtain ⟨d, hd, rfl⟩ := hv
        simp only [RA, RA1, RV] at hx
        obtain ⟨b, off, us, rfl, hc, ho, hr⟩ := hx
        simp only [AV.lt, AV.lt1, D.lt] at hlx
        obtain ⟨u, us', e1, e2, e3, e4, e5⟩ := valD_ok hr (fun _ => ho) hlx hd
        refine ⟨u, loadVar_ok hun w _ _ (us := us') (fun i z hz => (hc i z (e1 i z hz)).2) e2 e3, e4, e5⟩
      · simp at hv
end
end Go.AE

/- AE: what a step leaves alone. -/
namespace Go.AE

structure Fr (σ : St) (w : World) (S : Fixed) (β : Emb) (σ' : St) (w' : World) (S' : Fixed) (β' : Emb) : Prop where
  size : w.heap.size ≤ w'.heap.size
  keep : Keeps w S w' S'
  newS : ∀ b off, S' b off → S b off ∨ Owned σ β b ∨ w.heap.size ≤ b
  frame : ∀ b, b < w.heap.size → ¬ Owned σ β b → w'.heap[b]? = w.heap[b]?
  next : AE.size σ ≤ AE.size σ'
  sameH : SameH (AE.size σ) β β'
  own : ∀ b, Owned σ' β' b → Owned σ β b ∨ w.heap.size ≤ b
  os : w'.os = w.os
  tape : w'.tape = w.tape
  output : w'.output = w.output

theorem Keeps.trans {w w1 w2 : World} {S S1 S2 : Fixed} (h : Keeps w S w1 S1) (k : Keeps w1 S1 w2 S2) : Keeps w S w2 S2 :=
  fun b off hb => ⟨(k b off (h b off hb).1).1, (k b off (h b off hb).1).2.trans (h b off hb).2⟩

theorem SameH.trans {n m : Nat} {β β1 β2 : Emb} (hn : n ≤ m) (h : SameH n β β1) (k : SameH m β1 β2) : SameH n β β2 := fun i hi =>
  ⟨(k i (by omega)).1.trans (h i hi).1, (k i (by omega)).2.1.trans (h i hi).2.1, (k i (by omega)).2.2.1.trans (h i hi).2.2.1, (k i (by omega)).2.2.2.trans (h i hi).2.2.2⟩

theorem Fr.refl (σ : St) (w : World) (S : Fixed) (β : Emb) : Fr σ w S β σ w S β :=
  ⟨Nat.le_refl _, Keeps.refl w S, fun _ _ h => .inl h, fun _ _ _ => rfl, Nat.le_refl _, SameH.refl _ _, fun _ h => .inl h, rfl, rfl, rfl⟩

theorem Fr.trans {σ σ1 σ2 : St} {w w1 w2 : World} {S S1 S2 : Fixed} {β β1 β2 : Emb} (h : Fr σ w S β σ1 w1 S1 β1) (k : Fr σ1 w1 S1 β1 σ2 w2 S2 β2) : Fr σ w S β σ2 w2 S2 β2 where
  size := Nat.le_trans h.size k.size
  keep := h.keep.trans k.keep
  newS b off hb := by
    rcases k.newS b off hb with h1 | h1 | h1
    · exact h.newS b off h1
    · rcases h.own b h1 with h2 | h2
      · exact .inr (.inl h2)
      · exact .inr (.inr h2)
    · exact .inr (.inr (Nat.le_trans h.size h1))
  frame b hb ho := by
    rw [k.frame b (Nat.lt_of_lt_of_le hb h.size) (fun h1 => by
      rcases h.own b h1 with h2 | h2
      · exact ho h2
      · omega), h.frame b hb ho]
  next := Nat.le_trans h.next k.next
  sameH := h.sameH.trans h.next k.sameH
  own b hb := by
    rcases k.own b hb with h1 | h1
    · exact h.own b h1
    · exact .inr (Nat.le_trans h.size h1)
  os := k.os.trans h.os
  tape := k.tape.trans h.tape
  output := k.output.trans h.output

/-- Nothing but slots, and what is handed on: the objects are as they were. -/
theorem Fr.slots {σ σ' : St} {w : World} {S S' : Fixed} {β : Emb} (hg : ∀ r, get σ' r = get σ r) (hs : AE.size σ' = AE.size σ) (hS : ∀ b off, S b off → S' b off) (hn : ∀ b off, S' b off → S b off ∨ Owned σ β b) : Fr σ w S β σ' w S' β :=
  ⟨Nat.le_refl _, Keeps.mono hS, fun b off hb => (hn b off hb).elim .inl fun h => .inr (.inl h), fun _ _ _ => rfl, Nat.le_of_eq hs.symm, SameH.refl _ _,
    fun b ⟨r, o, hr, hm, hb⟩ => .inl ⟨r, o, by rw [← hg r]; exact hr, hm, hb⟩, rfl, rfl, rfl⟩

/-! ### worlds -/
theorem heap_setCell (w : World) (b off : Nat) (v : Value) {C : Array Value} {T : TypeId} {z : Nat × Nat} (h : w.heap[b]? = some (.cells C T z)) :
    (w.setCell ⟨b, off, none⟩ v).heap[b]? = some (.cells (C.setIfInBounds off v) T z) := by
  simp [World.setCell, Array.getElem?_modify, h]

theorem heap_setCell_other (w : World) (b off : Nat) (v : Value) {b' : Nat} (h : b' ≠ b) : (w.setCell ⟨b, off, none⟩ v).heap[b']? = w.heap[b']? := by
  simp [World.setCell, Array.getElem?_modify, Ne.symm h]

/-- Cells, from a place on. -/
def putCells (C : Array Value) (off : Nat) : List Value → Array Value
  | [] => C
  | v :: r => putCells (C.setIfInBounds off v) (off + 1) r

theorem putCells_size : ∀ (vs : List Value) (C : Array Value) (off : Nat), (putCells C off vs).size = C.size
  | [], _, _ => rfl
  | v :: r, C, off => by simp [putCells, putCells_size r]

theorem putCells_at : ∀ (vs : List Value) (C : Array Value) (off i : Nat), off + vs.length ≤ C.size →
    (putCells C off vs)[i]? = if off ≤ i ∧ i < off + vs.length then vs[i - off]? else C[i]?
  | [], C, off, i, _ => by
    simp only [putCells, List.length_nil, Nat.add_zero]
    rw [if_neg (by omega)]
  | v :: r, C, off, i, h => by
    simp only [List.length_cons] at h
    simp only [putCells, List.length_cons]
    rw [putCells_at r _ _ i (by simp; omega)]
    by_cases h1 : off + 1 ≤ i ∧ i < off + 1 + r.length
    · rw [if_pos h1, if_pos (by omega)]
      rw [show i - off = (i - (off + 1)) + 1 by omega]
      simp
    · rw [if_neg h1]
      by_cases h2 : i = off
      · subst h2
        rw [if_pos (by omega)]
        simp [show i < C.size by omega]
      · rw [if_neg (by omega), Array.getElem?_setIfInBounds_ne (Ne.symm h2)]

theorem heap_setCells : ∀ (vs : List Value) (w : World) (b off : Nat) {C : Array Value} {T : TypeId} {z : Nat × Nat}, w.heap[b]? = some (.cells C T z) →
    (w.setCells b off vs).heap[b]? = some (.cells (putCells C off vs) T z)
  | [], _, _, _, _, _, _, h => h
  | v :: r, w, b, off, C, T, z, h => by
    simp only [World.setCells, putCells]
    exact heap_setCells r _ b (off + 1) (heap_setCell w b off v h)

theorem heap_setCells_other : ∀ (vs : List Value) (w : World) (b off : Nat) {b' : Nat}, b' ≠ b → (w.setCells b off vs).heap[b']? = w.heap[b']?
  | [], _, _, _, _, _ => rfl
  | v :: r, w, b, off, b', h => by
    simp only [World.setCells]
    rw [heap_setCells_other r _ b (off + 1) h, heap_setCell_other w b off v h]

theorem setCells_rest : ∀ (vs : List Value) (w : World) (b off : Nat), (w.setCells b off vs).heap.size = w.heap.size ∧ (w.setCells b off vs).os = w.os ∧ (w.setCells b off vs).tape = w.tape ∧ (w.setCells b off vs).output = w.output
  | [], _, _, _ => ⟨rfl, rfl, rfl, rfl⟩
  | v :: r, w, b, off => by
    simp only [World.setCells]
    obtain ⟨h1, h2, h3, h4⟩ := setCells_rest r (w.setCell ⟨b, off, none⟩ v) b (off + 1)
    exact ⟨by rw [h1]; simp, by rw [h2]; rfl, by rw [h3]; rfl, by rw [h4]; rfl⟩

theorem oneC' {v : Value} (h : OneC v) : v.oneCell' = true := by
  cases v <;> first | rfl | exact h.elim

theorem wcell_block {w w' : World} {b : Nat} (h : w'.heap[b]? = w.heap[b]?) (off : Nat) : wcell w' b off = wcell w b off := by
  simp [wcell, World.cell?, h]
end Go.AE

/- AE: writing memory. -/
namespace Go.AE

/-- A state that differs from another one in one object alone. -/
structure Turned (σ σ' : St) (r : Ref) (o : Ob) : Prop where
  here : get σ' r = some o
  other : ∀ r', r' ≠ r → get σ' r' = get σ r'
  fz : ∀ r', frozen σ' r' = frozen σ r'
  size : AE.size σ' = AE.size σ
  gen : ∀ i, gen σ' i = gen σ i
  env : σ'.env = σ.env

theorem nth_nil {α : Type} (n : Nat) : nth ([] : List α) n = none := rfl
theorem nth_zero {α : Type} (x : α) (r : List α) : nth (x :: r) 0 = some x := rfl
theorem nth_succ {α : Type} (x : α) (r : List α) (n : Nat) : nth (x :: r) (n + 1) = nth r n := rfl
theorem setNth_nil {α : Type} (n : Nat) (v : α) : setNth ([] : List α) n v = [] := rfl
theorem setNth_zero {α : Type} (x : α) (r : List α) (v : α) : setNth (x :: r) 0 v = v :: r := rfl
theorem setNth_succ {α : Type} (x : α) (r : List α) (n : Nat) (v : α) : setNth (x :: r) (n + 1) v = x :: setNth r n v := rfl

theorem nth_eq {α : Type} : ∀ (l : List α) (n : Nat), nth l n = l[n]?
  | [], n => by rw [nth_nil]; simp
  | x :: r, 0 => rfl
  | x :: r, n + 1 => by rw [nth_succ, nth_eq r n]; simp

theorem nth_setNth {α : Type} : ∀ (l : List α) (i j : Nat) (v : α), nth (setNth l i v) j = if j = i then (nth l i).map fun _ => v else nth l j
  | [], i, j, v => by simp [nth_nil, setNth_nil]
  | x :: r, 0, 0, v => by simp [nth_zero, setNth_zero]
  | x :: r, 0, j + 1, v => by simp [nth_succ, setNth_zero]
  | x :: r, i + 1, 0, v => by simp [nth_zero, setNth_succ]
  | x :: r, i + 1, j + 1, v => by
    rw [setNth_succ, nth_succ, nth_setNth r i j v, nth_succ, nth_succ]
    simp

theorem setNth_length {α : Type} : ∀ (l : List α) (i : Nat) (v : α), (setNth l i v).length = l.length
  | [], _, _ => rfl
  | x :: r, 0, v => rfl
  | x :: r, i + 1, v => by rw [setNth_succ]; simp [setNth_length r i v]

theorem getH_set (hp : Hp) (id j : Nat) (o : Option HOb) (flat : Bool) (h : (getH hp id).isSome) : getH (setHp hp id o flat) j = if j = id then o else getH hp j := by
  simp only [getH, setHp, nth_setNth]
  by_cases hj : j = id
  · subst hj
    simp only [if_true]
    simp only [getH] at h
    cases hn : nth hp.objs j with
    | none => rw [hn] at h; simp at h
    | some x => simp
  · simp [hj]

section
variable {P : Program} {σ σ' : St} {a : Act} {w : World} {S : Fixed} {β : Emb}

/-- Cells of an object that may be written are written. -/
theorem SR.write (h : SR P σ a w S β) {r : Ref} {o o' : Ob} (hr : get σ r = some o) (hm : HasMem β r o) (hm' : HasMem β r o') (ht : Turned σ σ' r o') {C : Array Value} {T : TypeId} {z : Nat × Nat} (hC : w.heap[β.blk r]? = some (.cells C T z))
    (off : Nat) (vs : List Value) (hS : ∀ o, ¬ S (β.blk r) o)
    (hok : Keeps w S (w.setCells (β.blk r) off vs) S → ObOk P (w.setCells (β.blk r) off vs) S β r o' (frozen σ r) ∧ o'.lt (size σ) (gen σ)) :
    SR P σ' a (w.setCells (β.blk r) off vs) S β ∧ Fr σ w S β σ' (w.setCells (β.blk r) off vs) S β := by
  obtain ⟨q1, q2, q3, q4⟩ := setCells_rest vs w (β.blk r) off
  have hk : Keeps w S (w.setCells (β.blk r) off vs) S := fun b o' hb => ⟨hb, wcell_block (heap_setCells_other vs w _ _ (fun e => hS o' (by rw [← e]; exact hb))) _⟩
  obtain ⟨k1, k2⟩ := hok hk
  refine ⟨?_, ?_⟩
  · refine h.change hk (fun b o hb => by rw [q1]; exact h.inw b o hb) (Nat.le_of_eq ht.size.symm) (fun i => Nat.le_of_eq (ht.gen i).symm) (SameH.refl _ _) (SameL.refl _ _) (fun x => x = r) ?_ ?_ ?_ (fun t => .inl ⟨by rw [ht.env], rfl⟩) (by rw [ht.env]; exact h.bound) h.defers
    · intro x ox hx hne
      have hx' := hx
      rw [ht.other x hne] at hx'
      refine ⟨hx', ht.fz x, fun m => ⟨fun y hy => ?_, fun _ => Iff.rfl⟩⟩
      rw [heap_setCells_other vs w _ _ (h.sep x r ox o hx' hr hne m hm)]; exact hy
    · rintro x ox hx rfl
      rw [ht.here] at hx; cases hx
      rw [ht.fz]
      exact ⟨k1, by rw [ht.size]; exact k2.mono (Nat.le_refl _) (fun i => Nat.le_of_eq (ht.gen i).symm)⟩
    · rintro x y ox oy hx hy hne rfl m1 m2
      rw [ht.other y (Ne.symm hne)] at hy
      exact h.sep _ _ _ _ hr hy hne hm m2
  · refine ⟨Nat.le_of_eq q1.symm, hk, fun _ _ hb => .inl hb, fun b _ ho => ?_, Nat.le_of_eq ht.size.symm, SameH.refl _ _, ?_, q2, q3, q4⟩
    · exact heap_setCells_other vs w _ _ (fun e => ho ⟨r, o, hr, hm, e.symm⟩)
    · rintro b ⟨x, ox, hx, m, rfl⟩
      by_cases hne : x = r
      · subst hne; exact .inl ⟨_, o, hr, hm, rfl⟩
      · rw [ht.other x hne] at hx; exact .inl ⟨x, ox, hx, m, rfl⟩

theorem there_of {b : Nat} {C : Array Value} {T : TypeId} {z : Nat × Nat} (hC : w.heap[b]? = some (.cells C T z)) {off n : Nat} (hn : off + n ≤ C.size) (hz : NoFz z off (off + n)) : w.there b off n := fun j hj => by
  refine ⟨?_, ?_⟩
  · simp only [World.cell?, hC]
    simp [show off + j < C.size by omega]
  · simp only [World.frozen?, hC]
    have := hz (off + j) (by omega) (by omega)
    simp only [Bool.and_eq_false_iff, decide_eq_false_iff_not]
    by_cases h1 : z.1 ≤ off + j
    · right; intro h2; exact this ⟨h1, h2⟩
    · left; exact h1

theorem storeAt_run {T : TypeId} {b off : Nat} {u : Value} (hs : u.cells.size = sizeT P T) (hp : 0 < sizeT P T) (ht : w.there b off u.cells.size) (ho : ∀ x ∈ u.cells.toList, OneC x) :
    (Instr.storeAt T (.pointer (some ⟨b, off, none⟩)) u).run P w = .ok () (w.setCells b off u.cells.toList) := by
  have hi : (P.info? T).map (·.size) = some u.cells.size := by
    cases hq : P.info? T with
    | none => simp [sizeT, hq] at hp
    | some i => simp [sizeT, hq] at hs; simp [hs]
  cases hq : P.info? T with
  | none => simp [hq] at hi
  | some i =>
    have hsz : u.cells.size = i.size := by simp [hq] at hi; omega
    have := run_storeCells_cells (P := P) b off u.cells.toList 0 w (fun j hj => by simpa using (ht j (by simpa using hj)).1) (fun j hj => by simpa using (ht j (by simpa using hj)).2) (fun v hv => oneC' (ho v hv))
    simp only [Nat.add_zero] at this
    simp [Instr.storeAt, Instr.sureAddr, storeVar, sizeOf, typeInfo, hq, hsz, this]
end

/-- Cells, spliced. -/
theorem putCells_toList (C : Array Value) (off : Nat) (vs : List Value) (h : off + vs.length ≤ C.size) : (putCells C off vs).toList = splice C.toList off vs := by
  apply List.ext_getElem?
  intro i
  rw [Array.getElem?_toList, putCells_at vs C off i h]
  simp only [splice]
  have hl : C.toList.length = C.size := by simp
  by_cases h1 : i < off
  · rw [if_neg (by omega), List.append_assoc, List.getElem?_append_left (by simp; omega), List.getElem?_take, if_pos h1, Array.getElem?_toList]
  · by_cases h2 : i < off + vs.length
    · rw [if_pos ⟨by omega, h2⟩, List.append_assoc, List.getElem?_append_right (by simp; omega), List.getElem?_append_left (by simp; omega)]
      congr 1
      simp; omega
    · rw [if_neg (by omega), List.getElem?_append_right (by simp; omega), List.getElem?_drop, Array.getElem?_toList]
      congr 1
      simp; omega

theorem RAs_splice {w : World} {S : Fixed} {β : Emb} {cs new : List AV} {us vs : List Value} (h : RAs w S β cs us) (k : RAs w S β new vs) (off : Nat) : RAs w S β (splice cs off new) (splice us off vs) := by
  have app : ∀ {a b : List AV} {x y : List Value}, RAs w S β a x → RAs w S β b y → RAs w S β (a ++ b) (x ++ y) := by
    intro a
    induction a with
    | nil => intro b x y h1 h2; simp only [RAs] at h1; subst h1; exact h2
    | cons c a ih =>
      intro b x y h1 h2
      obtain ⟨u, us, rfl, p1, p2⟩ := h1
      exact ⟨u, us ++ y, rfl, p1, ih p2 h2⟩
  have hl := RAs_length k
  unfold splice
  rw [hl]
  exact app (app (RAs_take h off) k) (RAs_drop h _)

theorem alts_splice {n : Nat} {gs : Nat → Nat} {cs new : List AV} (h : AV.lts n gs cs) (k : AV.lts n gs new) (off : Nat) : AV.lts n gs (splice cs off new) := by
  rw [alts_iff] at h k ⊢
  intro d hd
  simp only [splice, List.mem_append] at hd
  rcases hd with (hd | hd) | hd
  · exact h d (List.mem_of_mem_take hd)
  · exact k d hd
  · exact h d (List.mem_of_mem_drop hd)

theorem mem_splice {α : Type} {cs new : List α} {off : Nat} {x : α} (h : x ∈ splice cs off new) : x ∈ cs ∨ x ∈ new := by
  simp only [splice, List.mem_append] at h
  rcases h with (h | h) | h
  · exact .inl (List.mem_of_mem_take h)
  · exact .inr h
  · exact .inl (List.mem_of_mem_drop h)

/-- A value's cells. -/
theorem RA_cells {w : World} {S : Fixed} {β : Emb} {n : Nat} {gs : Nat → Nat} {v : AV} {u : Value} (h : RA w S β v u) (hl : v.lt n gs) (hne : ∀ d, v = .d d → d.oneB = true) :
    RAs w S β v.cells u.cells.toList ∧ (∀ x ∈ u.cells.toList, OneC x) ∧ AV.lts n gs v.cells := by
  have one : ∀ (u : Value), OneC u → u.cells = #[u] := by intro u hu; cases u <;> first | rfl | exact hu.elim
  have sc : ∀ (v : AV) (u : Value), v.cells = [v] → RA1 w S β v u → OneC u → v.lt1 n gs → RAs w S β v.cells u.cells.toList ∧ (∀ x ∈ u.cells.toList, OneC x) ∧ AV.lts n gs v.cells := by
    intro v u hv h1 h2 h3
    rw [hv, one u h2]
    exact ⟨⟨u, [], rfl, h1, rfl⟩, by simpa using h2, ⟨h3, trivial⟩⟩
  cases v with
  | agg cs =>
    obtain ⟨us, rfl, ho, h⟩ := h
    exact ⟨by simpa [AV.cells, Value.cells] using h, by simpa [Value.cells] using ho, hl⟩
  | lp i g off => exact sc _ _ rfl h (by have : u = _ := h; rw [this]; trivial) hl
  | lr i g j off => exact sc _ _ rfl h (by have : u = _ := h; rw [this]; trivial) hl
  | lsf i g => exact sc _ _ rfl h (by obtain ⟨p, rfl, _⟩ := h; trivial) hl
  | ls i g off len => exact sc _ _ rfl h (by obtain ⟨p, c, rfl, _⟩ := h; trivial) hl
  | lb i g off len => exact sc _ _ rfl h (by obtain ⟨p, rfl⟩ := h; trivial) hl
  | d x =>
    have hx := hne x rfl
    have hr : RV w S β x u := h
    cases x with
    | agg cs =>
      simp only [RV] at hr
      obtain ⟨us, rfl, ho, hr⟩ := hr
      refine ⟨by simpa [AV.cells, D.cells, Value.cells] using RAs_map.2 hr, by simpa [Value.cells] using ho, ?_⟩
      have : D.lts n cs := by simpa [AV.lt, AV.lt1, D.lt] using hl
      simpa [AV.cells, D.cells] using alts_map.2 this
    | undef => simp [D.oneB] at hx
    | tup _ => simp [D.oneB] at hx
    | own _ _ => simp [D.oneB] at hx
    | bool _ => exact sc _ _ rfl h (by simp only [RV] at hr; subst hr; trivial) hl
    | int _ _ => exact sc _ _ rfl h (by simp only [RV] at hr; subst hr; trivial) hl
    | str _ => exact sc _ _ rfl h (by simp only [RV] at hr; subst hr; trivial) hl
    | list _ => exact sc _ _ rfl h (by simp only [RV] at hr; obtain ⟨_, _, rfl, _⟩ := hr; trivial) hl
    | nilp => exact sc _ _ rfl h (by simp only [RV] at hr; subst hr; trivial) hl
    | ptr _ _ => exact sc _ _ rfl h (by simp only [RV] at hr; subst hr; trivial) hl
    | hr _ _ _ => exact sc _ _ rfl h (by simp only [RV] at hr; subst hr; trivial) hl
    | ipt _ => exact sc _ _ rfl h (by simp only [RV] at hr; obtain ⟨_, _, _, rfl, _⟩ := hr; trivial) hl
    | nilm => exact sc _ _ rfl h (by simp only [RV] at hr; subst hr; trivial) hl
    | map _ => exact sc _ _ rfl h (by simp only [RV] at hr; subst hr; trivial) hl
    | nilf => exact sc _ _ rfl h (by simp only [RV] at hr; subst hr; trivial) hl
    | fn _ _ _ => exact sc _ _ rfl h (by simp only [RV] at hr; obtain ⟨_, _, rfl, _⟩ := hr; trivial) hl
    | nili => exact sc _ _ rfl h (by simp only [RV] at hr; subst hr; trivial) hl
    | iface _ _ => exact sc _ _ rfl h (by simp only [RV] at hr; obtain ⟨_, rfl, _⟩ := hr; trivial) hl
    | hsf _ => exact sc _ _ rfl h (by simp only [RV] at hr; obtain ⟨_, rfl, _⟩ := hr; trivial) hl
    | hs _ _ _ => exact sc _ _ rfl h (by simp only [RV] at hr; obtain ⟨_, _, rfl, _⟩ := hr; trivial) hl
    | nil0 => exact sc _ _ rfl h (by simp only [RV] at hr; obtain ⟨_, rfl⟩ := hr; trivial) hl
end Go.AE

/- AE: stores. -/
namespace Go.AE

theorem gen_of_get {σ : St} {i g : Nat} {o : Ob} (h : get σ (.l i g) = some o) : g = gen σ i := getL_gen h

theorem getL_upd (loc : Nat → LOb) (i : Nat) (b : LOb) (j k : Nat) : getL (upd loc i b) j k = if j = i then (if b.g = k then b.o else none) else getL loc j k := by
  by_cases hj : j = i
  · subst hj
    simp only [getL, upd_same, if_true]
    by_cases hg : b.g = k
    · subst hg; simp [Nat.beq_refl]
    · have : Nat.beq b.g k = false := by
        cases hb : Nat.beq b.g k with
        | false => rfl
        | true => exact absurd (Nat.eq_of_beq_eq_true hb) hg
      simp [this, hg]
  · simp only [getL, upd_other _ _ hj, hj, if_false]

theorem turned_local {σ : St} {i g : Nat} {o0 : Ob} (h : get σ (.l i g) = some o0) (o : Ob) : Turned σ { σ with loc := upd σ.loc i ⟨g, some o⟩ } (.l i g) o where
  here := by
    have := getL_upd σ.loc i ⟨g, some o⟩ i g
    simpa [get] using this
  other r' hr := by
    cases r' with
    | h id => rfl
    | l j k =>
      show getL (upd σ.loc i ⟨g, some o⟩) j k = getL σ.loc j k
      rw [getL_upd σ.loc i ⟨g, some o⟩ j k]
      by_cases hj : j = i
      · subst hj
        simp only [if_true]
        by_cases hk : g = k
        · subst hk; exact (hr rfl).elim
        · rw [if_neg hk]
          cases hg : getL σ.loc j k with
          | none => rfl
          | some x => exact absurd ((gen_of_get h).trans (getL_gen hg).symm) hk
      · rw [if_neg hj]
  fz r' := by cases r' <;> rfl
  size := rfl
  gen j := by
    simp only [gen]
    by_cases hj : j = i
    · subst hj; rw [upd_same]; exact gen_of_get h
    · rw [upd_other _ _ hj]
  env := rfl

theorem getH_some {σ : St} {id : Nat} {o : Ob} (h : get σ (.h id) = some o) : ∃ z, getH σ.hp id = some ⟨o, z⟩ := by
  simp only [get, Option.map_eq_some_iff] at h
  obtain ⟨x, h1, rfl⟩ := h
  exact ⟨x.fz, h1⟩

theorem turned_heap {σ : St} {id : Nat} {o0 : Ob} (h : get σ (.h id) = some o0) (o : Ob) (flat : Bool) : Turned σ { σ with hp := setHp σ.hp id (some ⟨o, (getH σ.hp id).elim true (·.fz)⟩) flat } (.h id) o := by
  obtain ⟨z, hz⟩ := getH_some h
  have hs : (getH σ.hp id).isSome := by rw [hz]; rfl
  refine ⟨?_, ?_, ?_, ?_, fun _ => rfl, rfl⟩
  · simp [get, getH_set _ _ _ _ _ hs]
  · intro r' hr
    cases r' with
    | l j k => rfl
    | h j =>
      simp only [get, getH_set _ _ _ _ _ hs]
      rw [if_neg (fun e => hr (by rw [e]))]
  · intro r'
    cases r' with
    | l j k => rfl
    | h j =>
      simp only [frozen, getH_set _ _ _ _ _ hs]
      by_cases hj : j = id
      · subst hj; simp [hz]
      · rw [if_neg hj]
  · simp [AE.size, setHp, setNth_length]

/-- What is handed on changes no object. -/
theorem get_withFz {σ : St} {f : List (Nat × Bool)} (r : Ref) : get (withFz σ f) r = get σ r := get_fz r

theorem Fr.fz {σ : St} {w : World} {S S' : Fixed} {β : Emb} {f : List (Nat × Bool)} (hS : Fz σ β S S') : Fr σ w S β (withFz σ f) w S' β :=
  Fr.slots get_withFz rfl hS.1 hS.2
end Go.AE

/- AE: a store is what the model does. -/
namespace Go.AE

theorem RVs_append {w : World} {S : Fixed} {β : Emb} : ∀ {a b : List D} {x y : List Value}, RVs w S β a x → RVs w S β b y → RVs w S β (a ++ b) (x ++ y)
  | [], b, x, y, h1, h2 => by simp only [RVs] at h1; subst h1; exact h2
  | c :: a, b, x, y, h1, h2 => by
    simp only [RVs] at h1
    obtain ⟨u, us, rfl, p1, p2⟩ := h1
    exact ⟨u, us ++ y, rfl, p1, RVs_append p2 h2⟩

theorem RVs_splice {w : World} {S : Fixed} {β : Emb} {cs new : List D} {us vs : List Value} (h : RVs w S β cs us) (k : RVs w S β new vs) (off : Nat) : RVs w S β (splice cs off new) (splice us off vs) := by
  have hl := RVs_length k
  unfold splice
  rw [hl]
  exact RVs_append (RVs_append (RVs_take h off) k) (RVs_drop h _)

theorem lts_splice {n : Nat} {cs new : List D} (h : D.lts n cs) (k : D.lts n new) (off : Nat) : D.lts n (splice cs off new) := by
  rw [lts_iff] at h k ⊢
  intro d hd
  rcases mem_splice hd with hd | hd
  · exact h d hd
  · exact k d hd

theorem splice_length {α : Type} {cs new : List α} {off : Nat} (h : off + new.length ≤ cs.length) : (splice cs off new).length = cs.length := by
  simp only [splice, List.length_append, List.length_take, List.length_drop]; omega

theorem cells_lts {n : Nat} {x : D} (h : x.lt n) : D.lts n x.cells := by
  cases x with
  | agg cs => simpa [D.cells, D.lt] using h
  | _ => exact ⟨h, trivial⟩

/-- Another row's index lies elsewhere. -/
theorem el_apart {k j es off len i : Nat} (hne : k ≠ j) (hi : i < es) (ho : off + len ≤ es) : ¬ (j * es + off ≤ k * es + i ∧ k * es + i < j * es + off + len) := by
  rcases Nat.lt_or_gt_of_ne hne with h | h
  · have : (k + 1) * es ≤ j * es := Nat.mul_le_mul_right _ h
    rw [Nat.add_mul, Nat.one_mul] at this
    omega
  · have : (j + 1) * es ≤ k * es := Nat.mul_le_mul_right _ h
    rw [Nat.add_mul, Nat.one_mul] at this
    omega

section
variable {P : Program} {σ σ' : St} {a : Act} {w : World} {S : Fixed} {β : Emb}

/-- An element of a row that may be written is written, or a part of it. -/
theorem row_write (h : SR P σ a w S β) {r : Ref} {T : TypeId} {xs : List D} (ho : get σ r = some (.row T xs)) (hz : frozen σ r = false) {j : Nat} {y y' x : D} (hy : xs[j]? = some y) {off : Nat} {ux : Value}
    (hs : spliceEl y off x.cells = some y') (hx : RV w S β x ux) (hxl : x.lt (size σ)) (hone : x.oneB = true) (ht : Turned σ σ' r (.row T (xs.set j y'))) :
    w.there (β.blk r) (j * β.esz r + off) ux.cells.size ∧ (∀ u ∈ ux.cells.toList, OneC u) ∧ ux.cells.size = x.cells.length ∧
    SR P σ' a (w.setCells (β.blk r) (j * β.esz r + off) ux.cells.toList) S β ∧ Fr σ w S β σ' (w.setCells (β.blk r) (j * β.esz r + off) ux.cells.toList) S β := by
  obtain ⟨hrow, us, v0, k1, k2, k3, k4, k5⟩ := row_el h ho hy
  obtain ⟨C, z, m1, m2, m3, m4⟩ := hrow.mem
  have hcell : RAs w S β (x.cells.map .d) ux.cells.toList ∧ (∀ x ∈ ux.cells.toList, OneC x) ∧ AV.lts (size σ) (gen σ) (x.cells.map .d) := by
    have := RA_cells (gs := gen σ) (show RA w S β (.d x) ux from hx) (show (AV.d x).lt (size σ) (gen σ) from hxl) (fun d hd => by cases hd; exact hone)
    simpa [AV.cells] using this
  obtain ⟨c1, c2, c3⟩ := hcell
  have c1' := RAs_map.1 c1
  have hsz : ux.cells.size = x.cells.length := by have := RVs_length c1'; simpa using this.symm
  have hlen : off + x.cells.length ≤ β.esz r := by
    cases y with
    | agg cs =>
      simp only [spliceEl] at hs
      split at hs
      · rename_i hle
        simp only [RV] at k4
        obtain ⟨us0, rfl, o1, k4⟩ := k4
        simp only [Fits, Value.agg.injEq] at k3
        subst k3
        have := RVs_length k4
        simp at this
        omega
      · simp at hs
    | _ =>
      simp only [spliceEl] at hs
      split at hs
      · rename_i y1 hcs
        simp only [Fits] at k3
        subst k3
        have : x.cells.length = 1 := by rw [hcs]; rfl
        simp at k1
        omega
      · simp at hs
  have hj : j < xs.length := (List.getElem?_eq_some_iff.1 hy).1
  have hCs : j * β.esz r + β.esz r ≤ C.size := by
    rw [m2]
    have : (j + 1) * β.esz r ≤ β.cap r * β.esz r := Nat.mul_le_mul_right _ (by have := hrow.fits; omega)
    rw [Nat.add_mul, Nat.one_mul] at this
    exact this
  rw [hz] at m3
  have hth : w.there (β.blk r) (j * β.esz r + off) ux.cells.size := there_of m1 (by rw [hsz]; omega) (fun o h1 h2 => m3 o (by simp) (by rw [hsz] at h2; omega))
  refine ⟨hth, c2, hsz, ?_⟩
  have hvl : j * β.esz r + off + ux.cells.toList.length ≤ C.size := by simp [hsz]; omega
  refine h.write ho (by exact hrow.cap) (by exact hrow.cap) ht m1 _ _ (fun o hb => by have := (hrow.free o hb).1; rw [hz] at this; simp at this) ?_
  intro hk
  have hlt : D.lts (size σ) xs := (h.obj _ _ ho).2
  have hpc := putCells_at ux.cells.toList C (j * β.esz r + off)
  -- the new element
  have hnew : ElOk (w.setCells (β.blk r) (j * β.esz r + off) ux.cells.toList) S β (putCells C (j * β.esz r + off) ux.cells.toList) (β.esz r) j y' ∧ y'.lt (size σ) := by
    have key : ∀ us', us'.length = β.esz r → (∀ i u, us'[i]? = some u → (if off ≤ i ∧ i < off + ux.cells.toList.length then ux.cells.toList[i - off]? else us[i]?) = some u) → ∀ v', Fits y' us' v' → RV w S β y' v' → y'.lt (size σ) →
        ElOk (w.setCells (β.blk r) (j * β.esz r + off) ux.cells.toList) S β (putCells C (j * β.esz r + off) ux.cells.toList) (β.esz r) j y' ∧ y'.lt (size σ) := by
      intro us' e1 e2 v' e3 e4 e5
      refine ⟨⟨us', v', e1, fun i u hi => ?_, e3, RV.keep hk (SameH.refl (size σ) β) y' v' e5 e4⟩, e5⟩
      rw [hpc _ hvl]
      have := e2 i u hi
      by_cases hc : off ≤ i ∧ i < off + ux.cells.toList.length
      · rw [if_pos hc] at this
        rw [if_pos (by omega), show j * β.esz r + i - (j * β.esz r + off) = i - off by omega]
        exact this
      · rw [if_neg hc] at this
        rw [if_neg (by omega)]
        have := k2 i u this
        simp only [wcell, World.cell?, m1] at this
        simpa using this
    cases y with
    | agg cs =>
      simp only [spliceEl] at hs
      split at hs
      · rename_i hle
        simp only [Option.some.injEq] at hs; subst hs
        simp only [RV] at k4
        obtain ⟨us0, rfl, o1, k4⟩ := k4
        simp only [Fits, Value.agg.injEq] at k3
        subst k3
        have hul : us.length = cs.length := by have := RVs_length k4; simpa using this.symm
        have hvl' : off + ux.cells.toList.length ≤ us.length := by simp [hsz]; omega
        refine key (splice us off ux.cells.toList) (by rw [splice_length hvl']; exact k1) ?_ (.agg (splice us off ux.cells.toList).toArray) rfl ?_ ?_
        · intro i u hi
          simp only [splice] at hi
          by_cases h1 : i < off
          · rw [if_neg (by omega)]
            rw [List.append_assoc, List.getElem?_append_left (by simp; omega), List.getElem?_take, if_pos h1] at hi
            exact hi
          · by_cases h2 : i < off + ux.cells.toList.length
            · rw [if_pos ⟨by omega, h2⟩]
              rw [List.append_assoc, List.getElem?_append_right (by simp; omega), List.getElem?_append_left (by simp at h2 ⊢; omega)] at hi
              rw [← hi]; congr 1; simp; omega
            · rw [if_neg (by omega)]
              rw [List.getElem?_append_right (by simp at h2 ⊢; omega), List.getElem?_drop] at hi
              rw [← hi]; congr 1; simp at h2 ⊢; omega
        · simp only [RV]
          refine ⟨_, rfl, ?_, by simpa using RVs_splice (by simpa using k4) c1' off⟩
          intro u hu
          rcases mem_splice (by simpa using hu) with hu | hu
          · exact o1 u (by simpa using hu)
          · exact c2 u (by simpa using hu)
        · simp only [D.lt] at k5 ⊢
          exact lts_splice k5 (cells_lts hxl) off
      · simp at hs
    | _ =>
      simp only [spliceEl] at hs
      split at hs
      · rename_i y1 hcs
        simp only [Option.some.injEq] at hs; subst hs
        simp only [Fits] at k3
        subst k3
        rw [hcs] at c1'
        simp only [RVs] at c1'
        obtain ⟨u1, us1, hu1, r1, rfl⟩ := c1'
        have o1 : OneC u1 := c2 u1 (by rw [hu1]; simp)
        have hl1 : y1.lt (size σ) := by have := cells_lts hxl; rw [hcs] at this; exact this.1
        refine key [u1] (by simpa using k1) ?_ u1 ?_ r1 hl1
        · intro i u hi
          cases i with
          | zero => simp at hi; subst hi; simp [hu1]
          | succ i => simp at hi
        · cases y1 with
          | agg cs => simp only [RV] at r1; obtain ⟨_, rfl, _⟩ := r1; exact o1.elim
          | _ => rfl
      · simp at hs
  refine ⟨⟨?_, .inr ⟨hrow.cap, hrow.esz, hrow.ty, by simpa using hrow.fits, ⟨_, z, heap_setCells _ w _ _ m1, by rw [putCells_size]; exact m2, by rw [putCells_size, hz]; exact m3, ?_⟩, ?_, ?_, fun C' T' z' h' => by rw [heap_setCells _ w _ _ m1] at h'; cases h'; exact hrow.org _ _ _ m1⟩⟩, ?_⟩
  · have := (h.obj _ _ ho).1.1; simpa using this
  · intro k q hq
    rw [List.getElem?_set] at hq
    split at hq
    · rename_i hkj
      subst hkj
      simp only [hj, if_true, Option.some.injEq] at hq; subst hq; exact hnew.1
    · rename_i hkj
      obtain ⟨us', v', e1, e2, e3, e4⟩ := m4 k q hq
      refine ⟨us', v', e1, fun i u hi => ?_, e3, RV.keep hk (SameH.refl (size σ) β) q v' (lts_iff.1 hlt q (List.mem_of_getElem? hq)) e4⟩
      have hi' : i < β.esz r := by have := (List.getElem?_eq_some_iff.1 hi).1; omega
      rw [hpc _ hvl, if_neg (el_apart (Ne.symm hkj) hi' (by simp [hsz]; omega))]
      exact e2 i u hi
  · intro o hb
    have := hrow.free o hb
    simpa using this
  · intro hf; rw [hz] at hf; simp at hf
  · simp only [Ob.lt]
    rw [lts_iff] at hlt ⊢
    intro d hd
    rcases List.mem_or_eq_of_mem_set hd with hd | rfl
    · exact hlt d hd
    · exact hnew.2

theorem store_ok {c : Cfg} (h : SR c.P σ a w S β) {T : TypeId} {x v : AV} {ux uv : Value} (hx : RA w S β x ux) (hv : RA w S β v uv) (hlv : v.lt (size σ) (gen σ)) {e : Eff} (he : store c σ T x v = some e) :
    ∃ w' S', (Instr.storeAt T ux uv).run c.P w = .ok () w' ∧ SR c.P (apply σ none e) a w' S' β ∧ Fr σ w S β (apply σ none e) w' S' β := by
  unfold store at he
  split at he
  case isFalse => simp at he
  rename_i hpos
  unfold storeAt at he
  split at he
  · rename_i r off hp
    rw [ptrOf_RA hp hx]
    split at he
    · rename_i U cs ho
      obtain ⟨⟨⟨C, z, m1, m2, m3, m4⟩, hnS⟩, hlt⟩ := h.obj _ _ ho
      have hC : cs.length = C.size := by have := RAs_length m4; simpa using this
      split at he
      · -- a local variable
        rename_i i g
        split at he
        · rename_i hc
          obtain ⟨hone, hsz, hle⟩ := hc
          simp only [Option.some.injEq] at he; subst he
          obtain ⟨c1, c2, c3⟩ := RA_cells hv hlv (fun d hd => by subst hd; exact hone)
          have hl := RAs_length c1
          have hs' : uv.cells.size = sizeT c.P T := by simp at hl; omega
          have hth := there_of m1 (off := off) (n := uv.cells.size) (by simp at hl; omega) (fun o h1 h2 => m2 o (by omega) (by simp at hl; omega))
          refine ⟨_, S, storeAt_run hs' hpos hth c2, ?_⟩
          have ht := turned_local ho (.box U (splice cs off v.cells))
          refine h.write ho (by trivial) (by trivial) ht m1 off uv.cells.toList hnS (fun hk => ⟨⟨⟨_, z, heap_setCells _ w _ _ m1, by rw [putCells_size]; exact m2, ?_, ?_⟩, hnS⟩, ?_⟩)
          · rw [putCells_toList _ _ _ (by simp at hl ⊢; omega)]
            intro u hu
            rcases mem_splice hu with hu | hu
            · exact m3 u hu
            · exact c2 u hu
          · rw [putCells_toList _ _ _ (by simp at hl ⊢; omega)]
            exact (RAs_splice m4 c1 off).keep hk (SameH.refl (size σ) β) (SameL.refl (gen σ) β) (alts_splice hlt c3 off)
          · exact alts_splice hlt c3 off
        · simp at he
      · -- a variable on the heap
        rename_i id
        split at he
        · rename_i y f hy
          split at he
          · rename_i hc
            obtain ⟨hone, hsz, hle⟩ := hc
            simp only [Option.some.injEq] at he; subst he
            obtain ⟨S1, s1, s2, s3, s4⟩ := resolve_ok h hy hv hlv
            have hcell := RA_cells (gs := gen σ) (show RA w S1 β (.d y) uv from s3) (show (AV.d y).lt (size σ) (gen σ) from s4) (fun d hd => by cases hd; exact hone)
            obtain ⟨c1, c2, c3⟩ := hcell
            have c1 : RAs w S1 β (y.cells.map .d) uv.cells.toList := c1
            have c3 : AV.lts (size σ) (gen σ) (y.cells.map .d) := c3
            have hl := RAs_length c1
            simp only [List.length_map, Array.length_toList] at hl
            have hs' : uv.cells.size = sizeT c.P T := by omega
            have ho1 : get (withFz σ f) (.h id) = some (.box U cs) := ho
            obtain ⟨⟨⟨C1, z1, n1, n2, n3, n4⟩, hnS1⟩, hlt1⟩ := s1.obj _ _ ho1
            rw [m1] at n1; cases n1
            have hth := there_of m1 (off := off) (n := uv.cells.size) (by omega) (fun o h1 h2 => n2 o (by omega) (by omega))
            refine ⟨_, S1, storeAt_run hs' hpos hth c2, ?_⟩
            have ht := turned_heap ho1 (.box U (splice cs off (y.cells.map .d))) y.flatD
            have := s1.write ho1 (by trivial) (by trivial) ht m1 off uv.cells.toList hnS1 (fun hk => ⟨⟨⟨_, z, heap_setCells _ w _ _ m1, by rw [putCells_size]; exact n2, ?_, ?_⟩, hnS1⟩, ?_⟩)
            · exact ⟨this.1, (Fr.fz s2).trans this.2⟩
            · rw [putCells_toList _ _ _ (by simp; omega)]
              intro u hu
              rcases mem_splice hu with hu | hu
              · exact n3 u hu
              · exact c2 u hu
            · rw [putCells_toList _ _ _ (by simp; omega)]
              exact (RAs_splice n4 c1 off).keep hk (SameH.refl (size σ) β) (SameL.refl (gen σ) β) (alts_splice hlt1 c3 off)
            · exact alts_splice hlt1 c3 off
          · simp at he
        · simp at he
    · simp at he
  · split at he
    · -- an element
      rename_i r j off hp
      rw [elOf_RA hp hx]
      split at he
      · rename_i U xs y f ho hy
        split at he
        · simp at he
        · rename_i hz
          split at he
          · rename_i y' hy'
            simp only [Option.bind_eq_some_iff] at hy'
            obtain ⟨q, hq, hs⟩ := hy'
            split at he
            · rename_i hc
              obtain ⟨hone, hsz⟩ := hc
              simp only [Option.some.injEq] at he; subst he
              obtain ⟨S1, s1, s2, s3, s4⟩ := resolveN_ok h hy hv hlv
              have ho1 : get (withFz σ f) r = some (.row U xs) := by rw [get_withFz]; exact ho
              have hz1 : frozen (withFz σ f) r = false := by
                cases r with
                | l i g => simpa [frozenF, frozen, withFz] using hz
                | h id => simpa [frozenF, frozen, withFz] using hz
              have fin : ∀ σ', Turned (withFz σ f) σ' r (.row U (xs.set j y')) → ∃ w', (Instr.storeAt T (.pointer (some ⟨β.blk r, j * β.esz r + off, none⟩)) uv).run c.P w = .ok () w' ∧ SR c.P σ' a w' S1 β ∧ Fr σ w S β σ' w' S1 β := by
                intro σ' ht
                obtain ⟨q1, q2, q3, q4, q5⟩ := row_write s1 ho1 hz1 hq hs s3 s4 hone ht
                exact ⟨_, storeAt_run (by omega) hpos q1 q2, q4, (Fr.fz s2).trans q5⟩
              cases r with
              | l i g =>
                obtain ⟨w', r1, r2, r3⟩ := fin _ (turned_local ho1 (.row U (xs.set j y')))
                exact ⟨w', S1, r1, r2, r3⟩
              | h id =>
                obtain ⟨w', r1, r2, r3⟩ := fin _ (turned_heap ho1 (.row U (xs.set j y')) y.flatD)
                exact ⟨w', S1, r1, r2, r3⟩
            · simp at he
          · simp at he
      · simp at he
    · simp at he
end
end Go.AE

/- AE: new memory. -/
namespace Go.AE

/-- The embedding with one place more. -/
def Emb.add (β : Emb) (r : Ref) (b c e l : Nat) : Emb where
  blk x := if x = r then b else β.blk x
  cap x := if x = r then c else β.cap x
  esz x := if x = r then e else β.esz x
  len x := if x = r then l else β.len x

theorem add_here (β : Emb) (r : Ref) (b c e l : Nat) : (β.add r b c e l).blk r = b ∧ (β.add r b c e l).cap r = c ∧ (β.add r b c e l).esz r = e ∧ (β.add r b c e l).len r = l := by simp [Emb.add]
theorem add_other (β : Emb) {r x : Ref} (b c e l : Nat) (h : x ≠ r) : (β.add r b c e l).blk x = β.blk x ∧ (β.add r b c e l).cap x = β.cap x ∧ (β.add r b c e l).esz x = β.esz x ∧ (β.add r b c e l).len x = β.len x := by simp [Emb.add, h]

/-- Is a place new to a state? -/
def Ref.fresh (σ : St) : Ref → Prop
  | .l i g => gen σ i < g
  | .h i => size σ ≤ i

theorem sameH_add {σ : St} {β : Emb} {r : Ref} (h : r.fresh σ) (b c e l : Nat) : SameH (size σ) β (β.add r b c e l) := fun i hi => by
  refine add_other β b c e l ?_
  rintro rfl
  simp only [Ref.fresh] at h; omega
theorem sameL_add {σ : St} {β : Emb} {r : Ref} (h : r.fresh σ) (b c e l : Nat) : SameL (gen σ) β (β.add r b c e l) := fun i g hg => by
  refine add_other β b c e l ?_
  rintro rfl
  simp only [Ref.fresh] at h; omega

/-- A state with one new object. -/
structure Grown1 (σ σ' : St) (r : Ref) (o : Ob) : Prop where
  fresh : r.fresh σ
  here : get σ' r = some o
  other : ∀ r' o', r' ≠ r → get σ' r' = some o' → get σ r' = some o' ∧ frozen σ' r' = frozen σ r'
  fz : frozen σ' r = false
  size : AE.size σ ≤ AE.size σ'
  gen : ∀ i, AE.gen σ i ≤ AE.gen σ' i
  env : σ'.env = σ.env

theorem grown_local (σ : St) (t : Nat) (o : Ob) : Grown1 σ { σ with loc := upd σ.loc t ⟨(σ.loc t).g + 1, some o⟩, fz := upd σ.fz t false } (.l t ((σ.loc t).g + 1)) o where
  fresh := by simp [Ref.fresh, AE.gen]
  here := by
    have := getL_upd σ.loc t ⟨(σ.loc t).g + 1, some o⟩ t ((σ.loc t).g + 1)
    simpa [get] using this
  other r' o' hne hr := by
    cases r' with
    | h id => exact ⟨hr, rfl⟩
    | l j k =>
      have hr' : getL (upd σ.loc t ⟨(σ.loc t).g + 1, some o⟩) j k = some o' := hr
      rw [getL_upd σ.loc t ⟨(σ.loc t).g + 1, some o⟩ j k] at hr'
      by_cases hj : j = t
      · subst hj
        simp only [if_true] at hr'
        split at hr'
        · rename_i hk; exact (hne (by rw [← hk])).elim
        · simp at hr'
      · rw [if_neg hj] at hr'
        exact ⟨hr', upd_other _ _ hj⟩
  fz := upd_same _ _ _
  size := Nat.le_refl _
  gen i := by
    simp only [AE.gen]
    by_cases hi : i = t
    · subst hi; rw [upd_same]; simp
    · rw [upd_other _ _ hi]; exact Nat.le_refl _
  env := rfl

theorem nth_append_last {α : Type} (l : List α) (x : α) : nth (l ++ [x]) l.length = some x := by rw [nth_eq]; simp

theorem getH_push (hp : Hp) (o : HOb) (j : Nat) : getH (pushHp hp o) j = if j = hp.objs.length then some o else getH hp j := by
  simp only [getH, pushHp, nth_eq]
  by_cases hj : j = hp.objs.length
  · subst hj; simp
  · rw [if_neg hj]
    rcases Nat.lt_or_gt_of_ne hj with h | h
    · rw [List.getElem?_append_left h]
    · rw [List.getElem?_append_right (by omega), List.getElem?_eq_none (by simp; omega), List.getElem?_eq_none (by omega)]

theorem grown_heap (σ : St) (o : Ob) : Grown1 σ { σ with hp := pushHp σ.hp ⟨o, false⟩ } (.h (size σ)) o where
  fresh := by simp [Ref.fresh]
  here := by simp [get, getH_push, size]
  other r' o' hne hr := by
    cases r' with
    | l j k => exact ⟨hr, rfl⟩
    | h j =>
      have hj : ¬ j = σ.hp.objs.length := fun e => hne (by rw [e]; rfl)
      simp only [get, getH_push, if_neg hj] at hr
      exact ⟨hr, by simp only [frozen, getH_push, if_neg hj]⟩
  fz := by simp [frozen, getH_push, size]
  size := by simp [size, pushHp]
  gen _ := Nat.le_refl _
  env := rfl

theorem heap_alloc (w : World) (o : Obj) : (w.alloc o).heap[w.heap.size]? = some o := by
  show (w.heap.push o)[w.heap.size]? = some o
  simp
theorem heap_alloc_lt (w : World) (o : Obj) {b : Nat} (h : b < w.heap.size) : (w.alloc o).heap[b]? = w.heap[b]? := by
  show (w.heap.push o)[b]? = w.heap[b]?
  rw [Array.getElem?_push, if_neg (Nat.ne_of_lt h)]

section
variable {P : Program} {σ σ' : St} {a : Act} {w : World} {S : Fixed} {β : Emb}

theorem keeps_alloc (h : SR P σ a w S β) (o : Obj) : Keeps w S (w.alloc o) S := fun b off hb => ⟨hb, wcell_block (heap_alloc_lt w o (h.inw b off hb)) off⟩

theorem mem_lt (h : SR P σ a w S β) {r : Ref} {o : Ob} (hr : get σ r = some o) (hm : HasMem β r o) : β.blk r < w.heap.size := by
  obtain ⟨hok, _⟩ := h.obj r o hr
  cases o with
  | box T cs => obtain ⟨⟨C, z, m1, _⟩, _⟩ := hok; exact (Array.getElem?_eq_some_iff.1 m1).1
  | row T xs =>
    rcases hok.2 with ⟨h0, _⟩ | hrow
    · simp only [HasMem] at hm; omega
    · obtain ⟨C, z, m1, _⟩ := hrow.mem; exact (Array.getElem?_eq_some_iff.1 m1).1
  | bare => exact hm.elim
  | map es => obtain ⟨⟨E, c, m1, _⟩, _⟩ := hok; exact (Array.getElem?_eq_some_iff.1 m1).1

theorem owned_lt (h : SR P σ a w S β) {b : Nat} (ho : Owned σ β b) : b < w.heap.size := by
  obtain ⟨r, o, hr, hm, rfl⟩ := ho; exact mem_lt h hr hm

/-- A new object, in a new block. -/
theorem SR.alloc (h : SR P σ a w S β) {r : Ref} {o : Ob} (hg : Grown1 σ σ' r o) (obj : Obj) (c e l : Nat)
    (hok : ObOk P (w.alloc obj) S (β.add r w.heap.size c e l) r o false) (hlt : o.lt (size σ') (gen σ')) :
    SR P σ' a (w.alloc obj) S (β.add r w.heap.size c e l) ∧ Fr σ w S β σ' (w.alloc obj) S (β.add r w.heap.size c e l) := by
  have hk := keeps_alloc h obj
  have hsz : w.heap.size ≤ (w.alloc obj).heap.size := by
    show w.heap.size ≤ (w.heap.push obj).size
    simp
  have mem_other : ∀ {x : Ref} {ox : Ob}, x ≠ r → HasMem (β.add r w.heap.size c e l) x ox → HasMem β x ox := by
    intro x ox hne hm
    cases ox with
    | row T xs => simp only [HasMem] at hm ⊢; rw [(add_other β _ _ _ _ hne).2.1] at hm; exact hm
    | bare => exact hm
    | _ => trivial
  refine ⟨?_, ?_⟩
  · refine h.change hk (fun b off hb => Nat.lt_of_lt_of_le (h.inw b off hb) hsz) hg.size hg.gen (sameH_add hg.fresh _ _ _ _) (sameL_add hg.fresh _ _ _ _) (fun x => x = r) ?_ ?_ ?_ (fun t => .inl ⟨by rw [hg.env], rfl⟩) (by rw [hg.env]; exact h.bound) h.defers
    · intro x ox hx hne
      obtain ⟨g1, g2⟩ := hg.other x ox hne hx
      exact ⟨g1, g2, fun m => ⟨fun y hy => by rw [heap_alloc_lt w obj (mem_lt h g1 m)]; exact hy, fun _ => Iff.rfl⟩⟩
    · rintro x ox hx rfl
      rw [hg.here] at hx; cases hx
      rw [hg.fz]; exact ⟨hok, hlt⟩
    · rintro x y ox oy hx hy hne rfl m1 m2
      obtain ⟨g1, _⟩ := hg.other y oy (Ne.symm hne) hy
      rw [(add_here β x _ _ _ _).1, (add_other β _ _ _ _ (Ne.symm hne)).1]
      have := mem_lt h g1 (mem_other (Ne.symm hne) m2)
      omega
  · refine ⟨hsz, hk, fun _ _ hb => .inl hb, fun b hb _ => heap_alloc_lt w obj hb, hg.size, sameH_add hg.fresh _ _ _ _, ?_, rfl, rfl, rfl⟩
    rintro b ⟨x, ox, hx, m, rfl⟩
    by_cases hne : x = r
    · subst hne; right; rw [(add_here β x _ _ _ _).1]; exact Nat.le_refl _
    · obtain ⟨g1, _⟩ := hg.other x ox hne hx
      left; exact ⟨x, ox, g1, mem_other hne m, ((add_other β _ _ _ _ hne).1).symm⟩

/-- A value for the slot behind what an operation did. -/
theorem SR.slot {dst : Option Nat} (hd : DstOk a dst) {e : Eff} {w' : World} {S' : Fixed} {β' : Emb} (h : SR P (apply σ none e) a w' S' β') {u : Value} (hl : e.v.lt (size (apply σ none e)) (gen (apply σ none e))) (hv : RA w' S' β' e.v u) :
    SR P (apply σ dst e) (a.put dst u) w' S' β' := by
  have := h.value hd hl hv
  cases dst with
  | none => exact this
  | some t => exact this

theorem Fr.slot {dst : Option Nat} {e : Eff} {w' : World} {S' : Fixed} {β' : Emb} (h : Fr σ w S β (apply σ none e) w' S' β') : Fr σ w S β (apply σ dst e) w' S' β' := by
  have hg : ∀ r, get (apply σ dst e) r = get (apply σ none e) r := by intro r; cases dst <;> cases r <;> rfl
  refine ⟨h.size, h.keep, h.newS, h.frame, ?_, h.sameH, ?_, h.os, h.tape, h.output⟩
  · have := h.next; cases dst <;> exact this
  · rintro b ⟨r, o, hr, hm, rfl⟩
    rw [hg r] at hr
    exact h.own _ ⟨r, o, hr, hm, rfl⟩

theorem noFz00 (n : Nat) : NoFz (0, 0) 0 n := fun off _ _ h => by omega

/-- A new variable. -/
theorem newBox_ok (h : SR P σ a w S β) {heap : Bool} {t : Nat} {T : TypeId} {cs : List AV} {e : Eff} (he : newBox σ heap t T cs = some e) {C : Array Value} (hc : RAs w S β cs C.toList) (ho : ∀ u ∈ C.toList, OneC u) (hl : AV.lts (size σ) (gen σ) cs) :
    ∃ S' β', SR P (apply σ none e) a (w.alloc (.cells C T)) S' β' ∧ Fr σ w S β (apply σ none e) (w.alloc (.cells C T)) S' β' ∧
      RA (w.alloc (.cells C T)) S' β' e.v (.pointer (some ⟨w.heap.size, 0, none⟩)) ∧ e.v.lt (size (apply σ none e)) (gen (apply σ none e)) := by
  unfold newBox at he
  split at he
  · -- on the heap
    split at he
    · rename_i ds f hr
      simp only [Option.some.injEq] at he; subst he
      obtain ⟨S1, s1, s2, s3, s4⟩ := resolveL_ok h hr hc hl
      have hg := grown_heap (withFz σ f) (.box T (ds.map .d))
      have hfr : (Ref.h (size (withFz σ f))).fresh (withFz σ f) := hg.fresh
      have hk := keeps_alloc s1 (.cells C T)
      have := s1.alloc hg (.cells C T) 0 0 0 ?_ ?_
      · refine ⟨S1, _, this.1, (Fr.fz s2).trans this.2, ?_, ?_⟩
        · simp only [RA, RA1, RV]
          have := (add_here β (.h (size (withFz σ f))) w.heap.size 0 0 0).1
          exact congrArg (fun b => Value.pointer (some ⟨b, 0, none⟩)) this.symm
        · simp [AV.lt, AV.lt1, D.lt, size, apply, pushHp]
      · refine ⟨⟨C, (0, 0), by rw [(add_here β _ _ _ _ _).1]; exact heap_alloc w _, noFz00 _, ho, ?_⟩, ?_⟩
        · rw [RAs_map]
          exact RVs.keep hk (sameH_add hfr _ _ _ _) _ _ s4 s3
        · rw [(add_here β _ _ _ _ _).1]
          exact fun off hb => by have := s1.inw _ _ hb; omega
      · exact alts_map.2 (D.lts.mono hg.size _ s4)
    · simp at he
  · -- here
    simp only [Option.some.injEq] at he; subst he
    have hg := grown_local σ t (.box T cs)
    have hk := keeps_alloc h (.cells C T)
    have := h.alloc hg (.cells C T) 0 0 0 ?_ ?_
    · refine ⟨S, _, this.1, this.2, ?_, ?_⟩
      · simp only [RA, RA1]; rw [(add_here β _ _ _ _ _).1]
      · simp [AV.lt, AV.lt1, gen, apply, setMany, upd_same]
    · refine ⟨⟨C, (0, 0), by rw [(add_here β _ _ _ _ _).1]; exact heap_alloc w _, noFz00 _, ho, ?_⟩, ?_⟩
      · exact hc.keep hk (sameH_add hg.fresh _ _ _ _) (sameL_add hg.fresh _ _ _ _) hl
      · rw [(add_here β _ _ _ _ _).1]
        exact fun off hb => by have := h.inw _ _ hb; omega
    · exact AV.lts.mono hg.size hg.gen (vs := cs) hl
end
end Go.AE

/- AE: operations, one by one: values, new variables. -/
namespace Go.AE

/-- What is asked of a program's types. -/
structure WFP (P : Program) : Prop where
  field : ∀ t fs (k : Nat) (f : Field), t < P.types.size → P.underlying t = some (.struct fs) → fs[k]? = some f → (P.underlying f.type).isSome
  arr : ∀ t n e, t < P.types.size → P.underlying t = some (.array n e) → (P.underlying e).isSome
  slice : ∀ t e, t < P.types.size → P.underlying t = some (.slice e) → (P.underlying e).isSome
  map : ∀ t k e, t < P.types.size → P.underlying t = some (.map k e) → (P.underlying k).isSome ∧ (P.underlying e).isSome
  zero : ∀ t i v, t < P.types.size → P.info? t = some i → i.zero = some v → v.cells.size = i.size ∧ (isAggT P t = true ↔ ∃ cs, v = .agg cs)

theorem inT_lt {P : Program} {t : TypeId} (h : inT P t = true) : t < P.types.size := by
  unfold inT Nat.blt at h
  exact Nat.le_of_ble_eq_true h

theorem zeroCells_in {P : Program} {t : TypeId} {ds : List D} (h : zeroCells P t = some ds) : inT P t = true := by
  unfold zeroCells at h
  split at h
  · rename_i hi; exact hi
  · simp at h

/-- An operation is what the model does. -/
def Ran (c : Cfg) (o : Oper) (σ : St) (a : Act) (w : World) (S : Fixed) (β : Emb) (e : Eff) : Prop :=
  ∃ w' S' β' u, ((execOp a.eval o).run c.P w = .ok (.value u) w' ∨ (u = undef ∧ (execOp a.eval o).run c.P w = .ok .skip w')) ∧
    SR c.P (apply σ none e) a w' S' β' ∧ Fr σ w S β (apply σ none e) w' S' β' ∧ RA w' S' β' e.v u ∧ e.v.lt (size (apply σ none e)) (gen (apply σ none e))

theorem run_value {P : Program} {w w' : World} {s : Sem Value} {u : Value} (h : s.run P w = .ok u w') : (do let x ← s; pure (Next.value x) : Sem Next).run P w = .ok (.value u) w' := by
  rw [Sem.run_bind, h]; rfl
theorem run_skip {P : Program} {w w' : World} {s : Sem Unit} (h : s.run P w = .ok () w') : (do s; pure Next.skip : Sem Next).run P w = .ok .skip w' := by
  rw [Sem.run_bind, h]; rfl

section
variable {c : Cfg} {o : Oper} {σ : St} {a : Act} {w : World} {S : Fixed} {β : Emb}

theorem Ran.pure {v : AV} {u : Value} (h : SR c.P σ a w S β) (hr : (execOp a.eval o).run c.P w = .ok (.value u) w) (hv : RA w S β v u) (hl : v.lt (size σ) (gen σ)) : Ran c o σ a w S β { v := v } :=
  ⟨w, S, β, u, .inl hr, h, Fr.refl σ w S β, hv, hl⟩

theorem Ran.fz {v : AV} {u : Value} {f : List (Nat × Bool)} {S' : Fixed} (h1 : SR c.P (withFz σ f) a w S' β) (h2 : Fz σ β S S') (hr : (execOp a.eval o).run c.P w = .ok (.value u) w)
    (hv : RA w S' β v u) (hl : v.lt (size σ) (gen σ)) : Ran c o σ a w S β { v := v, fw := f } :=
  ⟨w, S', β, u, .inl hr, h1, Fr.fz h2, hv, hl⟩

/-- Nothing is new but objects without memory. -/
theorem SR.bare {P : Program} {σ' : St} {r : Ref} {o : Ob} (h : SR P σ a w S β) (hg : Grown1 σ σ' r o) (e : Nat) (ho : o = .bare ∨ ∃ T, o = .row T []) :
    SR P σ' a w S (β.add r 0 0 e 0) ∧ Fr σ w S β σ' w S (β.add r 0 0 e 0) := by
  have nomem : ¬ HasMem (β.add r 0 0 e 0) r o := by
    rcases ho with rfl | ⟨T, rfl⟩
    · exact fun h => h
    · simp only [HasMem, (add_here β r 0 0 e 0).2.1]; omega
  have mem_other : ∀ {x : Ref} {ox : Ob}, x ≠ r → HasMem (β.add r 0 0 e 0) x ox → HasMem β x ox := by
    intro x ox hne hm
    cases ox with
    | row T xs => simp only [HasMem] at hm ⊢; rw [(add_other β _ _ _ _ hne).2.1] at hm; exact hm
    | bare => exact hm
    | _ => trivial
  refine ⟨?_, ?_⟩
  · refine h.change (Keeps.refl w S) h.inw hg.size hg.gen (sameH_add hg.fresh _ _ _ _) (sameL_add hg.fresh _ _ _ _) (fun x => x = r) ?_ ?_ ?_ (fun t => .inl ⟨by rw [hg.env], rfl⟩) (by rw [hg.env]; exact h.bound) h.defers
    · intro x ox hx hne
      obtain ⟨g1, g2⟩ := hg.other x ox hne hx
      exact ⟨g1, g2, fun m => ⟨fun y hy => hy, fun _ => Iff.rfl⟩⟩
    · rintro x ox hx rfl
      rw [hg.here] at hx; cases hx
      rcases ho with rfl | ⟨T, rfl⟩
      · exact ⟨⟨(add_here β _ _ _ _ _).2.1, (add_here β _ _ _ _ _).2.2.2⟩, trivial⟩
      · exact ⟨⟨by rw [(add_here β _ _ _ _ _).2.2.2]; rfl, .inl ⟨(add_here β _ _ _ _ _).2.1, rfl⟩⟩, trivial⟩
    · rintro x y ox oy hx hy hne rfl m1 m2
      rw [hg.here] at hx; cases hx
      exact (nomem m1).elim
  · refine ⟨Nat.le_refl _, Keeps.refl w S, fun _ _ hb => .inl hb, fun b hb _ => rfl, hg.size, sameH_add hg.fresh _ _ _ _, ?_, rfl, rfl, rfl⟩
    rintro b ⟨x, ox, hx, m, rfl⟩
    by_cases hne : x = r
    · subst hne
      rw [hg.here] at hx; cases hx
      exact (nomem m).elim
    · obtain ⟨g1, _⟩ := hg.other x ox hne hx
      left; exact ⟨x, ox, g1, mem_other hne m, ((add_other β _ _ _ _ hne).1).symm⟩

theorem nil0_slice {w : World} {S : Fixed} {β : Emb} {u : Value} (h : RV w S β .nil0 u) : ∃ p, u = .slice p 0 0 := by simpa only [RV] using h

theorem opMove_ok (h : SR c.P σ a w S β) {f : FuncId} {x : Operand} (hop : o.op = .move x ∨ o.op = .assign x) {e : Eff} (he : opMove c f σ o x = some e) : Ran c o σ a w S β e := by
  have hrun : (execOp a.eval o).run c.P w = .ok (.value (a.eval x)) w := by
    rcases hop with hop | hop <;> simp only [execOp, hop] <;> rfl
  unfold opMove at he
  split at he
  case h_2 => simp at he
  rename_i v hv
  obtain ⟨r1, r2⟩ := opd_ok h hv
  split at he
  · obtain rfl := Option.some.inj he
    obtain ⟨p, hp⟩ := nil0_slice (show RV w S β .nil0 (a.eval x) from r1)
    have hg := grown_local σ (o.dst.getD 0) .bare
    obtain ⟨k1, k2⟩ := h.bare hg 0 (.inl rfl)
    refine ⟨w, S, _, a.eval x, .inl hrun, k1, k2, ?_, ?_⟩
    · simp only [RA, RA1]
      rw [(add_here β _ _ _ _ _).2.2.2, (add_here β _ _ _ _ _).2.1]
      exact ⟨p, hp, fun h0 => by omega⟩
    · simp [AV.lt, AV.lt1, gen, apply, setMany, upd_same]
  · split at he
    · simp only [Option.map_eq_some_iff] at he
      obtain ⟨p, hp, rfl⟩ := he
      obtain ⟨S1, s1, s2, s3, s4⟩ := resolveN_ok h hp r1 r2
      exact Ran.fz (v := .d p.1) s1 s2 hrun s3 s4
    · simp only [Option.some.injEq] at he; subst he
      exact Ran.pure h hrun r1 r2

theorem asBool_run {P : Program} {w : World} {b : Bool} : (asBool (.bool b)).run P w = .ok b w := rfl

theorem opPick_ok (h : SR c.P σ a w S β) {x y z : Operand} (hop : o.op = .pick x y z) {e : Eff} (he : opPick σ x y z = some e) : Ran c o σ a w S β e := by
  unfold opPick at he
  split at he
  case h_2 => simp at he
  rename_i t hx
  obtain ⟨r1, r2⟩ := opd_ok h hx
  have hb : a.eval x = .bool t := by simpa only [RA, RA1, RV] using r1
  simp only [pureEff, Option.map_eq_some_iff] at he
  obtain ⟨v, hv, rfl⟩ := he
  obtain ⟨q1, q2⟩ := opd_ok h hv
  refine Ran.pure h (u := a.eval (if t then y else z)) ?_ q1 q2
  simp only [execOp, hop, hb, Sem.run_bind, asBool_run, Result.andThen_ok]
  cases t <;> rfl

theorem opNilCheck_ok (h : SR c.P σ a w S β) {x : Operand} (hop : o.op = .nilCheck x) {e : Eff} (he : opNilCheck σ x = some e) : Ran c o σ a w S β e := by
  unfold opNilCheck at he
  split at he
  · simp at he
  · simp at he
  · simp at he
  · rename_i n1 n2 n3
    simp only [pureEff, Option.map_eq_some_iff] at he
    obtain ⟨v, hv, rfl⟩ := he
    obtain ⟨q1, q2⟩ := opd_ok h hv
    refine Ran.pure h (u := a.eval x) ?_ q1 q2
    have hne := opd_ne hv
    have key : ∀ u, a.eval x = u → (u ≠ .pointer none ∧ u ≠ .nilIface ∧ u ≠ .nilFunc ∧ ∀ n f k, u ≠ .func (.method n) f k) → (execOp a.eval o).run c.P w = .ok (.value u) w := by
      intro u hu ⟨h1, h2, h3, h4⟩
      simp only [execOp, hop, hu]
      cases u with
      | pointer p => cases p with
        | none => exact (h1 rfl).elim
        | some _ => rfl
      | nilIface => exact (h2 rfl).elim
      | nilFunc => exact (h3 rfl).elim
      | func fn f k => cases fn with
        | method n => exact (h4 n f k rfl).elim
        | _ => rfl
      | _ => rfl
    refine key _ rfl ?_
    generalize a.eval x = u at q1
    cases v with
    | agg cs => obtain ⟨us, rfl, _⟩ := q1; simp
    | lp i g off => have : u = _ := q1; subst this; simp
    | lr i g j off => have : u = _ := q1; subst this; simp
    | lsf i g => obtain ⟨p, rfl, _⟩ := q1; simp
    | ls i g off len => obtain ⟨p, cc, rfl, _⟩ := q1; simp
    | lb i g off len => obtain ⟨cc, rfl⟩ := q1; simp
    | d x' =>
      have hr : RV w S β x' u := q1
      cases x' with
      | undef =>
        rcases hne with hne | ⟨k, hk⟩
        · exact (hne rfl).elim
        · subst hk
          simp only [opd, Option.map_eq_some_iff] at hv
          obtain ⟨d, hd, hd'⟩ := hv
          cases hd'
          exfalso
          unfold constD at hd
          split at hd
          · simp at hd
          · simp at hd
          · unfold dOfVal at hd; split at hd <;> simp at hd
      | nilp => exact (n1 (by rw [hv])).elim
      | nili => exact (n2 (by rw [hv])).elim
      | nilf => exact (n3 (by rw [hv])).elim
      | bool _ => simp only [RV] at hr; subst hr; simp
      | int _ _ => simp only [RV] at hr; subst hr; simp
      | str _ => simp only [RV] at hr; subst hr; simp
      | agg _ => simp only [RV] at hr; obtain ⟨_, rfl, _⟩ := hr; simp
      | tup _ => simp only [RV] at hr; obtain ⟨_, rfl, _⟩ := hr; simp
      | list _ => simp only [RV] at hr; obtain ⟨_, _, rfl, _⟩ := hr; simp
      | ptr _ _ => simp only [RV] at hr; subst hr; simp
      | hr _ _ _ => simp only [RV] at hr; subst hr; simp
      | ipt _ => simp only [RV] at hr; obtain ⟨_, _, _, rfl, _⟩ := hr; simp
      | nilm => simp only [RV] at hr; subst hr; simp
      | map _ => simp only [RV] at hr; subst hr; simp
      | fn _ _ _ => simp only [RV] at hr; obtain ⟨_, _, rfl, _⟩ := hr; simp
      | iface _ _ => simp only [RV] at hr; obtain ⟨_, rfl, _⟩ := hr; simp
      | hsf _ => simp only [RV] at hr; obtain ⟨_, rfl, _⟩ := hr; simp
      | hs _ _ _ => simp only [RV] at hr; obtain ⟨_, _, rfl, _⟩ := hr; simp
      | own _ _ => simp only [RV] at hr
      | nil0 => simp only [RV] at hr; obtain ⟨_, rfl⟩ := hr; simp

/-! ### zero values -/
theorem zeroCells_ok {P : Program} {t : TypeId} {ds : List D} (hz : zeroCells P t = some ds) : ∃ v, (P.info? t).bind (·.zero) = some v ∧ (∀ w, (zeroValue t).run P w = .ok v w) ∧
    (∀ u ∈ v.cells.toList, OneC u) ∧ ∀ (w : World) (S : Fixed) (β : Emb) (n : Nat), RVs w S β ds v.cells.toList ∧ D.lts n ds := by
  have hin := zeroCells_in hz
  unfold zeroCells at hz
  rw [if_pos hin] at hz
  cases hi : P.info? t with
  | none => simp [hi] at hz
  | some i =>
    cases hzv : i.zero with
    | none => simp [hi, hzv] at hz
    | some v =>
      simp only [hi, Option.bind_some, hzv] at hz
      refine ⟨v, by simp [hzv], fun w => ?_, ?_⟩
      · simp [zeroValue, typeInfo, hi, hzv]
      · split at hz
        · rename_i cs heq
          cases heq
          refine ⟨?_, fun w S β n => ?_⟩
          · simpa [Value.cells] using (dsOfVals_ok (w := default) (S := fun _ _ => False) (β := ⟨fun _ => 0, fun _ => 0, fun _ => 0, fun _ => 0⟩) (n := 0) hz).2.2
          · obtain ⟨b1, b2, _⟩ := dsOfVals_ok (w := w) (S := S) (β := β) (n := n) hz
            exact ⟨by simpa [Value.cells] using b1, b2⟩
        · rename_i v' hna heq
          cases heq
          simp only [Option.map_eq_some_iff] at hz
          obtain ⟨d, hd, rfl⟩ := hz
          have one : OneC v := (dOfVal_ok (w := default) (S := fun _ _ => False) (β := ⟨fun _ => 0, fun _ => 0, fun _ => 0, fun _ => 0⟩) (n := 0) hd).2.2
          have hc : v.cells = #[v] := by cases v <;> first | rfl | exact one.elim
          refine ⟨by simpa [hc] using one, fun w S β n => ?_⟩
          obtain ⟨b1, b2, _⟩ := dOfVal_ok (w := w) (S := S) (β := β) (n := n) hd
          rw [hc]
          exact ⟨⟨v, [], rfl, b1, rfl⟩, ⟨b2, trivial⟩⟩
        · rename_i heq; simp at heq

theorem run_newVar {P : Program} {w : World} (t : TypeId) (v : Value) : (newVar t v).run P w = .ok ⟨w.heap.size, 0, none⟩ (w.alloc (.cells v.cells t)) := by
  simp [newVar, Go.newRow, newObj, Sem.run]

theorem accCells_ok {P : Program} : ∀ {ds : List D} {σ : St} {S : Fixed} {β : Emb} {k : Nat} {vs : List AV} {lw : List (Nat × LOb)} {fw : List (Nat × Bool)} {us : List Value}, SR P σ a w S β → accCells σ.loc k ds = some (vs, lw, fw) →
    RVs w S β ds us → D.lts (size σ) ds → ∃ β', SR P (apply σ none { v := .d .undef, lw := lw, fw := fw }) a w S β' ∧ Fr σ w S β (apply σ none { v := .d .undef, lw := lw, fw := fw }) w S β' ∧
      RAs w S β' vs us ∧ AV.lts (size (apply σ none { v := .d .undef, lw := lw, fw := fw })) (gen (apply σ none { v := .d .undef, lw := lw, fw := fw })) vs ∧
      SameL (gen σ) β β' ∧ ∀ i, gen σ i ≤ gen (apply σ none { v := .d .undef, lw := lw, fw := fw }) i
  | [], σ, S, β, k, vs, lw, fw, us, h, hx, hu, hl => by
    simp only [accCells, Option.some.injEq, Prod.mk.injEq] at hx
    obtain ⟨rfl, rfl, rfl⟩ := hx
    simp only [RVs] at hu; subst hu
    exact ⟨β, h, Fr.refl _ _ _ _, rfl, trivial, SameL.refl _ _, fun _ => Nat.le_refl _⟩
  | d :: r, σ, S, β, k, vs, lw, fw, us, h, hx, hu, hl => by
    simp only [RVs] at hu
    obtain ⟨u, us', rfl, u1, u2⟩ := hu
    simp only [D.lts] at hl
    have other : (∀ vs' lw' fw', accCells σ.loc k r = some (vs', lw', fw') → vs = .d d :: vs' → lw = lw' → fw = fw' →
        ∃ β', SR P (apply σ none { v := .d .undef, lw := lw, fw := fw }) a w S β' ∧ Fr σ w S β (apply σ none { v := .d .undef, lw := lw, fw := fw }) w S β' ∧
        RAs w S β' vs (u :: us') ∧ AV.lts (size (apply σ none { v := .d .undef, lw := lw, fw := fw })) (gen (apply σ none { v := .d .undef, lw := lw, fw := fw })) vs ∧
        SameL (gen σ) β β' ∧ ∀ i, gen σ i ≤ gen (apply σ none { v := .d .undef, lw := lw, fw := fw }) i) := by
      rintro vs' lw' fw' hr rfl rfl rfl
      obtain ⟨β', p1, p2, p3, p4, p5, p6⟩ := accCells_ok (ds := r) h hr u2 hl.2
      refine ⟨β', p1, p2, ⟨u, us', rfl, ?_, p3⟩, ⟨?_, p4⟩, p5, p6⟩
      · exact RV.keep (Keeps.refl w S) p2.sameH d u hl.1 u1
      · exact D.lt.mono p2.next d hl.1
    have gen1 : ∀ (h0 : d ≠ .nil0), ∃ vs' lw' fw', accCells σ.loc k r = some (vs', lw', fw') ∧ vs = .d d :: vs' ∧ lw = lw' ∧ fw = fw' := by
      intro h0
      cases hr : accCells σ.loc k r with
      | none => cases d <;> simp [accCells, hr] at hx h0
      | some p =>
        obtain ⟨a1, a2, a3⟩ := p
        refine ⟨a1, a2, a3, rfl, ?_⟩
        cases d <;> simp [accCells, hr] at hx h0 <;> exact ⟨hx.1.symm, hx.2.1.symm, hx.2.2.symm⟩
    by_cases h0 : d = .nil0
    · subst h0
      simp only [accCells] at hx
      split at hx
      · rename_i vs' lw' fw' hr
        simp only [Option.some.injEq, Prod.mk.injEq] at hx
        obtain ⟨rfl, rfl, rfl⟩ := hx
        have hg := grown_local σ k .bare
        obtain ⟨k1, k2⟩ := h.bare hg 0 (.inl rfl)
        obtain ⟨p, hp⟩ := nil0_slice u1
        obtain ⟨β', p1, p2, p3, p4, p5, p6⟩ := accCells_ok (ds := r) (σ := { σ with loc := upd σ.loc k ⟨(σ.loc k).g + 1, some .bare⟩, fz := upd σ.fz k false }) k1 hr (RVs.keep (Keeps.refl w S) k2.sameH _ _ hl.2 u2) (D.lts.mono k2.next _ hl.2)
        have hgl : gen { σ with loc := upd σ.loc k ⟨(σ.loc k).g + 1, some .bare⟩, fz := upd σ.fz k false } k = (σ.loc k).g + 1 := by simp [gen, upd_same]
        refine ⟨β', p1, k2.trans p2, ⟨u, us', rfl, ?_, p3⟩, ⟨?_, p4⟩, ?_, fun i => Nat.le_trans (hg.gen i) (p6 i)⟩
        · simp only [RA1]
          obtain ⟨q1, q2, q3, q4⟩ := p5 k ((σ.loc k).g + 1) (Nat.le_of_eq hgl.symm)
          rw [q4, q2, (add_here β _ _ _ _ _).2.2.2, (add_here β _ _ _ _ _).2.1]
          exact ⟨p, hp, fun h0 => by omega⟩
        · simp only [AV.lt1]
          have := p6 k
          rw [hgl] at this
          exact this
        · intro i g hig
          have q := p5 i g (Nat.le_trans hig (hg.gen i))
          have q' := sameL_add (β := β) hg.fresh 0 0 0 0 i g hig
          exact ⟨q.1.trans q'.1, q.2.1.trans q'.2.1, q.2.2.1.trans q'.2.2.1, q.2.2.2.trans q'.2.2.2⟩
      · simp at hx
    · obtain ⟨vs', lw', fw', h1, h2, h3, h4⟩ := gen1 h0
      exact other vs' lw' fw' h1 h2 h3 h4

theorem opAlloc_ok (h : SR c.P σ a w S β) {f : FuncId} {T : TypeId} (hop : o.op = .alloc T) {e : Eff} (he : opAlloc c f σ o T = some e) : Ran c o σ a w S β e := by
  unfold opAlloc at he
  split at he
  case h_2 => simp at he
  rename_i cs hz
  obtain ⟨v, _, z1, z2, z3⟩ := zeroCells_ok hz
  have hrun : (execOp a.eval o).run c.P w = .ok (.value (.pointer (some ⟨w.heap.size, 0, none⟩))) (w.alloc (.cells v.cells T)) := by
    simp only [execOp, hop]
    refine run_value ?_
    simp only [Instr.alloc, Sem.run_bind, z1, Result.andThen_ok, run_newVar]
    rfl
  obtain ⟨r1, r2⟩ := z3 w S β (size σ)
  split at he
  · split at he
    · rename_i k hk vs lw fw hac
      obtain ⟨β1, p1, p2, p3, p4, p5, p6⟩ := accCells_ok h hac r1 r2
      split at he
      · rename_i e' he'
        simp only [Option.some.injEq] at he; subst he
        obtain ⟨S2, β2, q1, q2, q3, q4⟩ := newBox_ok p1 he' p3 z2 p4
        have hap : apply σ none { e' with lw := lw ++ e'.lw, fw := fw ++ e'.fw } = apply (apply σ none { v := .d .undef, lw := lw, fw := fw }) none e' := by
          simp only [apply, setMany_append]
        refine ⟨_, S2, β2, _, .inl hrun, ?_, ?_, q3, ?_⟩
        · rw [hap]; exact q1
        · rw [hap]; exact p2.trans q2
        · rw [hap]; exact q4
      · simp at he
    · simp at he
  · obtain ⟨S2, β2, q1, q2, q3, q4⟩ := newBox_ok h he (RAs_map.2 r1) z2 (alts_map.2 r2)
    exact ⟨_, S2, β2, _, .inl hrun, q1, q2, q3, q4⟩

theorem opBox_ok (h : SR c.P σ a w S β) {f : FuncId} {T : TypeId} {x : Operand} (hop : o.op = .box T x) {e : Eff} (he : opBox c f σ o T x = some e) : Ran c o σ a w S β e := by
  unfold opBox at he
  split at he
  case h_2 => simp at he
  rename_i v hv
  split at he
  case isFalse => simp at he
  rename_i hone
  obtain ⟨r1, r2⟩ := opd_ok h hv
  obtain ⟨c1, c2, c3⟩ := RA_cells r1 r2 (fun d hd => by subst hd; exact hone)
  obtain ⟨S2, β2, q1, q2, q3, q4⟩ := newBox_ok h he c1 c2 c3
  refine ⟨_, S2, β2, _, .inl ?_, q1, q2, q3, q4⟩
  simp only [execOp, hop]
  refine run_value ?_
  simp only [Instr.box, Sem.run_bind, run_newVar, Result.andThen_ok]
  rfl
end
end Go.AE

/- AE: operations on values. -/
namespace Go.AE

theorem pureRun_ok {α : Type} {P : Program} : ∀ {s : Sem α} {x : α}, pureRun P s = some x → ∀ w, s.run P w = .ok x w
  | .pure a, x, h, w => by simp only [pureRun, Option.some.injEq] at h; subst h; rfl
  | .program k, x, h, w => by
    simp only [pureRun] at h
    have := pureRun_ok h w
    simpa [Sem.run] using this
  | .load .., _, h, _ => by simp [pureRun] at h
  | .store .., _, h, _ => by simp [pureRun] at h
  | .new .., _, h, _ => by simp [pureRun] at h
  | .shape .., _, h, _ => by simp [pureRun] at h
  | .freeze .., _, h, _ => by simp [pureRun] at h
  | .frozen .., _, h, _ => by simp [pureRun] at h
  | .getObj .., _, h, _ => by simp [pureRun] at h
  | .setObj .., _, h, _ => by simp [pureRun] at h
  | .choose .., _, h, _ => by simp [pureRun] at h
  | .sys .., _, h, _ => by simp [pureRun] at h
  | .mark .., _, h, _ => by simp [pureRun] at h
  | .halt .., _, h, _ => by simp [pureRun] at h

theorem scalV_ok {w : World} {S : Fixed} {β : Emb} {d : D} {u v : Value} (h : scalV d = some u) (hr : RV w S β d v) : v = u := by
  cases d <;> simp only [scalV, Option.some.injEq] at h <;> first
    | (simp at h; done)
    | (subst h; simpa only [RV] using hr)

theorem scalVs_ok {w : World} {S : Fixed} {β : Emb} : ∀ {ds : List D} {us vs : List Value}, scalVs ds = some us → RVs w S β ds vs → vs = us
  | [], us, vs, h, hr => by
    simp only [scalVs, Option.some.injEq] at h; subst h
    simpa only [RVs] using hr
  | d :: r, us, vs, h, hr => by
    simp only [scalVs] at h
    split at h
    · rename_i v vs' h1 h2
      simp only [Option.some.injEq] at h; subst h
      simp only [RVs] at hr
      obtain ⟨x, xs, rfl, r1, r2⟩ := hr
      rw [scalV_ok h1 r1, scalVs_ok h2 r2]
    · simp at h

theorem toV_ok {w : World} {S : Fixed} {β : Emb} {d : D} {u v : Value} (h : toV d = some u) (hr : RV w S β d v) : v = u := by
  cases d with
  | agg cs =>
    simp only [toV, Option.map_eq_some_iff] at h
    obtain ⟨vs, h1, rfl⟩ := h
    simp only [RV] at hr
    obtain ⟨us, rfl, _, hr⟩ := hr
    have := scalVs_ok h1 hr
    rw [← this]
  | _ => exact scalV_ok (by simpa only [toV] using h) hr

theorem ofV_ok {w : World} {S : Fixed} {β : Emb} {n : Nat} {v : Value} {d : D} (h : ofV v = some d) : RV w S β d v ∧ d.lt n := by
  unfold ofV at h
  split at h <;> first | (simp at h; done) | (simp only [Option.some.injEq] at h; subst h; refine ⟨?_, ?_⟩ <;> simp [RV, D.lt])

theorem isPtrT_ok {P : Program} {t : TypeId} (h : isPtrT P t = true) : ∃ e, P.underlying t = some (.pointer e) := by
  unfold isPtrT at h; split at h
  · rename_i e he; exact ⟨e, he⟩
  · simp at h
theorem isFnT_ok {P : Program} {t : TypeId} (h : isFnT P t = true) : ∃ x y z, P.underlying t = some (.func x y z) := by
  unfold isFnT at h; split at h
  · rename_i x y z he; exact ⟨x, y, z, he⟩
  · simp at h
theorem isStrT_ok {P : Program} {t : TypeId} (h : isStrT P t = true) : P.underlying t = some .string := by
  unfold isStrT at h; split at h
  · rename_i he; exact he
  · simp at h
theorem isMapT_ok {P : Program} {t : TypeId} (h : isMapT P t = true) : ∃ k e, P.underlying t = some (.map k e) := by
  unfold isMapT at h; split at h
  · rename_i k e he; exact ⟨k, e, he⟩
  · simp at h
theorem mapT_ok {P : Program} {t k e : TypeId} (h : mapT P t = some (k, e)) : P.underlying t = some (.map k e) := by
  unfold mapT at h; split at h
  case isFalse => simp at h
  split at h
  · rename_i k' e' he; simp only [Option.some.injEq, Prod.mk.injEq] at h; obtain ⟨rfl, rfl⟩ := h; exact he
  · simp at h
theorem elemT_ok {P : Program} {t e : TypeId} (h : elemT P t = some e) : P.underlying t = some (.slice e) := by
  unfold elemT at h; split at h
  case isFalse => simp at h
  split at h
  · rename_i e' he; simp only [Option.some.injEq] at h; subst h; exact he
  · simp at h
theorem arrT_ok {P : Program} {t : TypeId} {n : Nat} {e : TypeId} (h : arrT P t = some (n, e)) : P.underlying t = some (.array n e) := by
  unfold arrT at h; split at h
  case isFalse => simp at h
  split at h
  · rename_i n' e' he; simp only [Option.some.injEq, Prod.mk.injEq] at h; obtain ⟨rfl, rfl⟩ := h; exact he
  · simp at h
theorem field_ok {P : Program} {t : TypeId} {k : Nat} {f : Field} (h : field? P t k = some f) : ∃ fs, P.underlying t = some (.struct fs) ∧ fs[k]? = some f := by
  unfold field? at h; split at h
  case isFalse => simp at h
  split at h
  · rename_i fs he; exact ⟨fs, he, h⟩
  · simp at h

theorem mapT_lt {P : Program} {t k e : TypeId} (h : mapT P t = some (k, e)) : t < P.types.size := by
  unfold mapT at h; split at h
  · rename_i hi; exact inT_lt hi
  · simp at h
theorem elemT_lt {P : Program} {t e : TypeId} (h : elemT P t = some e) : t < P.types.size := by
  unfold elemT at h; split at h
  · rename_i hi; exact inT_lt hi
  · simp at h
theorem arrT_lt {P : Program} {t : TypeId} {n : Nat} {e : TypeId} (h : arrT P t = some (n, e)) : t < P.types.size := by
  unfold arrT at h; split at h
  · rename_i hi; exact inT_lt hi
  · simp at h
theorem field_lt {P : Program} {t : TypeId} {k : Nat} {f : Field} (h : field? P t k = some f) : t < P.types.size := by
  unfold field? at h; split at h
  · rename_i hi; exact inT_lt hi
  · simp at h

theorem sizeOf_run {P : Program} {t : TypeId} (h : (P.underlying t).isSome) (w : World) : (sizeOf t).run P w = .ok (sizeT P t) w := by
  obtain ⟨i, hi⟩ := info_some h
  simp [sizeOf, typeInfo, hi, sizeT]

theorem typeInfo_run {P : Program} {t : TypeId} {i : TypeInfo} (h : P.info? t = some i) (w : World) : (typeInfo t).run P w = .ok i w := by
  simp [typeInfo, h]

section
variable {c : Cfg} {o : Oper} {σ : St} {a : Act} {w : World} {S : Fixed} {β : Emb}

/-! ### operators -/
theorem eqNil_run {P : Program} {t : TypeId} {x y : AV} {b : Bool} (he : eqNil P t x y = some b) {u v : Value} (hu : RA w S β x u) (hv : RA w S β y v) (xo yo : Operand) (op : BinOp) :
    (Op.equal t u v).run P w = .ok b w ∧ (eqGuard op t xo yo u v).run P w = .ok () w ∧ (∀ k n, u ≠ .int k n) ∧ (∀ k n, u ≠ .float k n) ∧ (∀ k n m, u ≠ .complex k n m) ∧ ∀ s, u ≠ .string s := by
  have guard : ∀ u v : Value, (∀ cs, u ≠ .agg cs) → u ≠ .nilIface → (eqGuard op t xo yo u v).run P w = .ok () w := by
    intro u v h1 h2
    unfold eqGuard
    cases op <;> first | rfl | (cases u <;> first | rfl | exact (h1 _ rfl).elim | exact (h2 rfl).elim)
  have ptr : ∀ (p q : Option Addr), isPtrT P t = true → (p = none ∨ q = none) → (Op.equal t (.pointer p) (.pointer q)).run P w = .ok (p.isNone && q.isNone) w := by
    intro p q ht hpq
    obtain ⟨e, he⟩ := isPtrT_ok ht
    obtain ⟨n, hn⟩ : ∃ n, Op.maxDepth = n + 1 := ⟨9999, rfl⟩
    rw [Op.equal, hn]
    simp only [Op.equalIn, Sem.run_bind, run_underlying he w, Result.andThen_ok]
    cases p with
    | none => cases q <;> rfl
    | some p => cases q with
      | none => rfl
      | some q => simp at hpq
  have fn : ∀ (p q : Value), isFnT P t = true → (p = .nilFunc ∧ q = .nilFunc ∧ b = true) ∨ (p = .nilFunc ∧ (∃ f x y, q = .func f x y) ∧ b = false) ∨ (q = .nilFunc ∧ (∃ f x y, p = .func f x y) ∧ b = false) → (Op.equal t p q).run P w = .ok b w := by
    intro p q ht hpq
    obtain ⟨x, y, z, he⟩ := isFnT_ok ht
    obtain ⟨n, hn⟩ : ∃ n, Op.maxDepth = n + 1 := ⟨9999, rfl⟩
    rw [Op.equal, hn]
    simp only [Op.equalIn, Sem.run_bind, run_underlying he w, Result.andThen_ok]
    rcases hpq with ⟨rfl, rfl, rfl⟩ | ⟨rfl, ⟨f, x, y, rfl⟩, rfl⟩ | ⟨rfl, ⟨f, x, y, rfl⟩, rfl⟩ <;> rfl
  unfold eqNil at he
  split at he <;> first | (simp at he; done) | skip
  all_goals (split at he <;> first | (simp at he; done) | skip)
  all_goals (rename_i ht; simp only [Option.some.injEq] at he; subst he)
  · obtain rfl : u = _ := by simpa only [RA, RA1, RV] using hu
    obtain rfl : v = _ := by simpa only [RA, RA1, RV] using hv
    exact ⟨ptr _ _ ht (.inl rfl), guard _ _ (by simp) (by simp), by simp, by simp, by simp, by simp⟩
  · obtain rfl : u = _ := by simpa only [RA, RA1, RV] using hu
    obtain rfl : v = _ := by simpa only [RA, RA1, RV] using hv
    exact ⟨ptr _ _ ht (.inl rfl), guard _ _ (by simp) (by simp), by simp, by simp, by simp, by simp⟩
  · obtain rfl : u = _ := by simpa only [RA, RA1, RV] using hu
    obtain rfl : v = _ := by simpa only [RA, RA1, RV] using hv
    exact ⟨ptr _ _ ht (.inr rfl), guard _ _ (by simp) (by simp), by simp, by simp, by simp, by simp⟩
  · obtain rfl : u = _ := by simpa only [RA, RA1, RV] using hu
    obtain rfl : v = _ := by simpa only [RA, RA1, RV] using hv
    exact ⟨ptr _ _ ht (.inl rfl), guard _ _ (by simp) (by simp), by simp, by simp, by simp, by simp⟩
  · obtain rfl : u = _ := by simpa only [RA, RA1, RV] using hu
    obtain rfl : v = _ := by simpa only [RA, RA1, RV] using hv
    exact ⟨ptr _ _ ht (.inr rfl), guard _ _ (by simp) (by simp), by simp, by simp, by simp, by simp⟩
  · obtain rfl : u = _ := by simpa only [RA, RA1, RV] using hu
    obtain rfl : v = _ := by simpa only [RA, RA1, RV] using hv
    exact ⟨fn _ _ ht (.inl ⟨rfl, rfl, rfl⟩), guard _ _ (by simp) (by simp), by simp, by simp, by simp, by simp⟩
  · obtain rfl : u = _ := by simpa only [RA, RA1, RV] using hu
    obtain ⟨_, _, rfl, _⟩ : ∃ fs cs : Array Value, v = _ ∧ _ := by simpa only [RA, RA1, RV] using hv
    exact ⟨fn _ _ ht (.inr (.inl ⟨rfl, ⟨_, _, _, rfl⟩, rfl⟩)), guard _ _ (by simp) (by simp), by simp, by simp, by simp, by simp⟩
  · obtain ⟨_, _, rfl, _⟩ : ∃ fs cs : Array Value, u = _ ∧ _ := by simpa only [RA, RA1, RV] using hu
    obtain rfl : v = _ := by simpa only [RA, RA1, RV] using hv
    exact ⟨fn _ _ ht (.inr (.inr ⟨rfl, ⟨_, _, _, rfl⟩, rfl⟩)), guard _ _ (by simp) (by simp), by simp, by simp, by simp, by simp⟩
  · simp only [Bool.and_eq_true] at ht
    obtain ⟨ht, hi, ha⟩ := ht
    obtain rfl := Nat.eq_of_beq_eq_true hi
    obtain rfl := Nat.eq_of_beq_eq_true ha
    obtain rfl : u = _ := by simpa only [RA, RA1, RV] using hu
    obtain rfl : v = _ := by simpa only [RA, RA1, RV] using hv
    refine ⟨?_, guard _ _ (by simp) (by simp), by simp, by simp, by simp, by simp⟩
    unfold isPtrI at ht
    split at ht
    · rename_i e he
      obtain ⟨j, hj⟩ := Option.isSome_iff_exists.1 ht
      obtain ⟨n, hn⟩ : ∃ n, Op.maxDepth = n + 1 := ⟨9999, rfl⟩
      rw [Op.equal, hn]
      by_cases hz : j.size = 0
      · simp [Op.equalIn, run_underlying he, sizeOf, typeInfo, hj, hz]
      · simp [Op.equalIn, run_underlying he, sizeOf, typeInfo, hj, hz, run_sameAddr_same]
    · simp at ht

theorem isNilC_ok {yo : Operand} (h : isNilC yo = true) : yo = .const (.slice none 0 0) := by
  unfold isNilC at h
  split at h
  · rfl
  · simp at h

theorem eqAny_run (h : SR c.P σ a w S β) {t : TypeId} {x y : AV} {b : Bool} {xo yo : Operand} (he : eqAny c.P σ t yo x y = some b) {u : Value} (hu : RA w S β x u) (hv : RA w S β y (a.eval yo)) (op : BinOp) :
    (Op.equal t u (a.eval yo)).run c.P w = .ok b w ∧ (eqGuard op t xo yo u (a.eval yo)).run c.P w = .ok () w ∧ (∀ k n, u ≠ .int k n) ∧ (∀ k n, u ≠ .float k n) ∧ (∀ k n m, u ≠ .complex k n m) ∧ ∀ s, u ≠ .string s := by
  unfold eqAny at he
  split at he
  · rename_i b' hb
    simp only [Option.some.injEq] at he; subst he
    exact eqNil_run hb hu hv xo yo op
  · rename_i hno
    clear hno
    have main : ∀ (ad : Addr) (len cap : Nat), u = .slice (some ad) len cap → (isSlT c.P t && isNilC yo) = true → b = false →
        (Op.equal t u (a.eval yo)).run c.P w = .ok b w ∧ (eqGuard op t xo yo u (a.eval yo)).run c.P w = .ok () w ∧ (∀ k n, u ≠ .int k n) ∧ (∀ k n, u ≠ .float k n) ∧ (∀ k n m, u ≠ .complex k n m) ∧ ∀ s, u ≠ .string s := by
      rintro ad len cap rfl hc rfl
      simp only [Bool.and_eq_true] at hc
      have hy := isNilC_ok hc.2
      subst hy
      have hev : a.eval (.const (.slice none 0 0)) = .slice none 0 0 := rfl
      rw [hev]
      refine ⟨?_, ?_, by simp, by simp, by simp, by simp⟩
      · have ht := hc.1
        unfold isSlT at ht
        split at ht
        · rename_i e hd
          obtain ⟨n, hn⟩ : ∃ n, Op.maxDepth = n + 1 := ⟨9999, rfl⟩
          rw [Op.equal, hn]
          simp only [Op.equalIn, Sem.run_bind, run_underlying hd w, Result.andThen_ok]
          rfl
        · simp at ht
      · unfold eqGuard
        cases op <;> rfl
    unfold eqSl at he
    split at he
    · rename_i d r
      split at he
      · rename_i hc
        simp only [Option.some.injEq] at he
        have hr : RV w S β (.list (d :: r)) u := hu
        simp only [RV] at hr
        obtain ⟨ad, cap, rfl, _, hx⟩ := hr
        rcases hx with hx | ⟨b0, off, es, rfl, _⟩
        · simp at hx
        · exact main _ _ _ rfl hc he.symm
      · simp at he
    · rename_i i
      split at he
      · rename_i T d r hg
        split at he
        · rename_i hc
          simp only [Option.some.injEq] at he
          have hr : RV w S β (.hsf i) u := hu
          simp only [RV] at hr
          obtain ⟨ad, rfl, hx⟩ := hr
          obtain ⟨hok, _⟩ := h.obj _ _ hg
          rcases hok.2 with ⟨_, h0⟩ | hrow
          · simp at h0
          · have := hx hrow.cap
            subst this
            exact main _ _ _ rfl hc he.symm
        · simp at he
      · simp at he
    · simp at he

theorem opBin_ok (h : SR c.P σ a w S β) {op : BinOp} {t : TypeId} {x y : Operand} {z : TypeId} (hop : o.op = .binOp op t x y z) {e : Eff} (he : opBin c σ op t x y = some e) : Ran c o σ a w S β e := by
  unfold opBin at he
  split at he
  case h_2 => simp at he
  rename_i u v hu hv
  obtain ⟨u1, u2⟩ := opd_ok h hu
  obtain ⟨v1, v2⟩ := opd_ok h hv
  simp only [pureEff, Option.map_eq_some_iff] at he
  obtain ⟨r, hr, rfl⟩ := he
  unfold binop at hr
  split at hr
  · rename_i r' hr'
    simp only [Option.some.injEq] at hr; subst hr
    unfold eqOp at hr'
    split at hr'
    · simp only [Option.map_eq_some_iff] at hr'
      obtain ⟨b, hb, rfl⟩ := hr'
      obtain ⟨k1, k2, k3, k4, k5, k6⟩ := eqAny_run (xo := x) h hb u1 v1 .eql
      refine Ran.pure h (u := .bool b) ?_ (by simp [RA, RA1, RV]) (by simp [AV.lt, AV.lt1, D.lt])
      simp only [execOp, hop]
      refine run_value ?_
      simp only [Sem.run_bind, k2, Result.andThen_ok]
      generalize a.eval x = p at k1 k3 k4 k5 k6
      generalize a.eval y = q at k1
      have : Go.binOp .eql t p q = (do pure (.bool (← Op.equal t p q))) := by
        cases p <;> first | exact (k3 _ _ rfl).elim | exact (k4 _ _ rfl).elim | exact (k5 _ _ _ rfl).elim | exact (k6 _ rfl).elim | rfl
      rw [this]
      simp only [Sem.run_bind, k1, Result.andThen_ok]
      rfl
    · simp only [Option.map_eq_some_iff] at hr'
      obtain ⟨b, hb, rfl⟩ := hr'
      obtain ⟨k1, k2, k3, k4, k5, k6⟩ := eqAny_run (xo := x) h hb u1 v1 .neq
      refine Ran.pure h (u := .bool !b) ?_ (by simp [RA, RA1, RV]) (by simp [AV.lt, AV.lt1, D.lt])
      simp only [execOp, hop]
      refine run_value ?_
      simp only [Sem.run_bind, k2, Result.andThen_ok]
      generalize a.eval x = p at k1 k3 k4 k5 k6
      generalize a.eval y = q at k1
      have : Go.binOp .neq t p q = (do pure (.bool (!(← Op.equal t p q)))) := by
        cases p <;> first | exact (k3 _ _ rfl).elim | exact (k4 _ _ rfl).elim | exact (k5 _ _ _ rfl).elim | exact (k6 _ rfl).elim | rfl
      rw [this]
      simp only [Sem.run_bind, k1, Result.andThen_ok]
      rfl
    · simp at hr'
  · split at hr
    · rename_i d1 d2
      split at hr
      · rename_i p q hp hq
        simp only [Option.map_eq_some_iff, Option.bind_eq_some_iff] at hr
        obtain ⟨d, ⟨r, hr1, hr2⟩, rfl⟩ := hr
        have e1 := toV_ok hp u1
        have e2 := toV_ok hq v1
        obtain ⟨q1, q2⟩ := ofV_ok (w := w) (S := S) (β := β) (n := size σ) hr2
        refine Ran.pure h (u := r) ?_ q1 q2
        simp only [execOp, hop]
        refine run_value ?_
        rw [e1, e2]
        exact pureRun_ok hr1 w
      · simp at hr
    · simp at hr

theorem opUn_ok (h : SR c.P σ a w S β) {op : UnOp} {t : TypeId} {x : Operand} (hop : o.op = .unOp op t x) {e : Eff} (he : opUn c σ op x = some e) : Ran c o σ a w S β e := by
  unfold opUn at he
  split at he
  case h_2 => simp at he
  rename_i d hd
  obtain ⟨u1, u2⟩ := opd_ok h hd
  split at he
  · rename_i u hu
    simp only [Option.map_eq_some_iff, Option.bind_eq_some_iff] at he
    obtain ⟨d', ⟨r, hr1, hr2⟩, rfl⟩ := he
    have e1 := toV_ok hu u1
    obtain ⟨q1, q2⟩ := ofV_ok (w := w) (S := S) (β := β) (n := size σ) hr2
    refine Ran.pure h (u := r) ?_ q1 q2
    simp only [execOp, hop]
    refine run_value ?_
    rw [e1]
    exact pureRun_ok hr1 w
  · simp at he

/-! ### memory -/
theorem opLoad_ok (h : SR c.P σ a w S β) {T : TypeId} {x : Operand} (hop : o.op = .load T x) {e : Eff} (he : opLoad c σ T x = some e) : Ran c o σ a w S β e := by
  unfold opLoad at he
  split at he
  case h_2 => simp at he
  rename_i p hp
  obtain ⟨u1, u2⟩ := opd_ok h hp
  simp only [pureEff, Option.map_eq_some_iff] at he
  obtain ⟨v, hv, rfl⟩ := he
  obtain ⟨u, r1, r2, r3⟩ := load_ok h u1 u2 hv
  refine Ran.pure h (u := u) ?_ r2 r3
  simp only [execOp, hop]
  exact run_value r1

theorem opStore_ok (h : SR c.P σ a w S β) {T : TypeId} {x y : Operand} (hop : o.op = .store T x y) {e : Eff} (he : opStore c σ T x y = some e) : Ran c o σ a w S β e := by
  unfold opStore at he
  split at he
  case h_2 => simp at he
  rename_i p v hp hv
  obtain ⟨u1, u2⟩ := opd_ok h hp
  obtain ⟨v1, v2⟩ := opd_ok h hv
  obtain ⟨w', S', r1, r2, r3⟩ := store_ok h u1 v1 v2 he
  have hev : e.v = .d .undef := by
    unfold store at he
    split at he <;> first | (simp at he; done) | skip
    unfold storeAt at he
    repeat' (split at he)
    all_goals first | (simp at he; done) | (obtain rfl := Option.some.inj he; first | rfl | (unfold putOb; split <;> rfl))
  refine ⟨w', S', β, undef, .inr ⟨rfl, ?_⟩, r2, r3, ?_, ?_⟩
  · simp only [execOp, hop]; exact run_skip r1
  · rw [hev]; simp [RA, RA1, RV]
  · rw [hev]; simp [AV.lt, AV.lt1, D.lt]

theorem opExtract_ok (h : SR c.P σ a w S β) {x : Operand} {k : Nat} (hop : o.op = .extract x k) {e : Eff} (he : opExtract σ x k = some e) : Ran c o σ a w S β e := by
  unfold opExtract at he
  split at he
  case h_2 => simp at he
  rename_i vs hx
  obtain ⟨u1, u2⟩ := opd_ok h hx
  simp only [Option.map_eq_some_iff] at he
  obtain ⟨d, hd, rfl⟩ := he
  obtain ⟨us, hu, hr⟩ : ∃ us : Array Value, a.eval x = .tuple us ∧ RVs w S β vs us.toList := by simpa only [RA, RA1, RV] using u1
  obtain ⟨hl, hr⟩ := RVs_iff.1 hr
  have hk : k < us.size := by
    have := (List.getElem?_eq_some_iff.1 hd).1
    rw [hl] at this; simpa using this
  refine Ran.pure h (u := us[k]) ?_ (hr k d us[k] hd (by simp [hk])) ?_
  · simp only [execOp, hop, hu]
    refine run_value ?_
    simp [Instr.extract, hk]
  · have : D.lts (size σ) vs := by simpa [AV.lt, AV.lt1, D.lt] using u2
    exact lts_iff.1 this d (List.mem_of_getElem? hd)

theorem opMakeMap_ok (h : SR c.P σ a w S β) {T : TypeId} (hop : o.op = .makeMap T none) {e : Eff} (he : opMakeMap σ = some e) : Ran c o σ a w S β e := by
  unfold opMakeMap at he
  simp only [Option.some.injEq] at he; subst he
  have hg := grown_heap σ (.map [])
  obtain ⟨k1, k2⟩ := h.alloc hg (.map #[] 0) 0 0 0 ⟨⟨#[], 0, by rw [(add_here β _ _ _ _ _).1]; exact heap_alloc w _, rfl, by simp, by simp⟩, by rw [(add_here β _ _ _ _ _).1]; exact fun off hb => by have := h.inw _ _ hb; omega⟩ (by simp [Ob.lt])
  refine ⟨_, S, _, .map (some w.heap.size), .inl ?_, k1, k2, ?_, ?_⟩
  · simp only [execOp, hop]
    refine run_value ?_
    simp [Instr.makeMap, newObj, Sem.run]
  · simp only [RA, RA1, RV]
    have := (add_here β (.h (size σ)) w.heap.size 0 0 0).1
    exact congrArg (fun b => Value.map (some b)) this.symm
  · simp [AV.lt, AV.lt1, D.lt, size, apply, pushHp]
end
end Go.AE
