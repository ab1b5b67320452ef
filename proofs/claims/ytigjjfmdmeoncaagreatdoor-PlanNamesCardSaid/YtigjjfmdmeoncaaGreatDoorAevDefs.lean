/- An evaluator of closed calls in an abstract memory: the definitions. -/
import GoSem.Dispatch
import Derived.Laws.Sem
import Derived.Laws.Tables
import GoSem.Machine.Frame
import GoSem.Machine.Return
namespace Go.Aev

/-- A map from numbers. -/
inductive Tr (α : Type) where
  | leaf
  | node (v : Option α) (l r : Tr α)

def Tr.get {α : Type} : Tr α → Nat → Option α
  | .leaf, _ => none
  | .node v l r, n =>
    match n with
    | 0 => v
    | m + 1 => bif Nat.beq (m % 2) 0 then l.get (m / 2) else r.get (m / 2)

def Tr.set {α : Type} : Nat → Tr α → Nat → Option α → Tr α
  | 0, t, _, _ => t
  | d + 1, .leaf, n, x =>
    match n with
    | 0 => .node x .leaf .leaf
    | m + 1 => bif Nat.beq (m % 2) 0 then .node none (Tr.set d .leaf (m / 2) x) .leaf else .node none .leaf (Tr.set d .leaf (m / 2) x)
  | d + 1, .node v l r, n, x =>
    match n with
    | 0 => .node x l r
    | m + 1 => bif Nat.beq (m % 2) 0 then .node v (Tr.set d l (m / 2) x) r else .node v l (Tr.set d r (m / 2) x)

def Tr.put {α : Type} (t : Tr α) (n : Nat) (x : α) : Tr α := Tr.set (n + 1) t n (some x)
def Tr.del {α : Type} (t : Tr α) (n : Nat) : Tr α := Tr.set (n + 1) t n none

abbrev Tm := Tr Value

def Tm.val (t : Tm) (n : Nat) : Value := (Tr.get t n).getD undef

/-- What a block of the abstract memory holds. -/
inductive AObj where
  | cells (c : List Value) (sz : Nat) (ro : Bool)
  | loop (st : LoopState) (pend : Option Code) (tm : Tm) (n : Nat) (params : Array Tmp) (assign body : Code) (d : Nat)
  | marks
  | iter (s : ByteArray) (pos : Nat)
  | map (es : List (Value × Value × Nat)) (clock : Nat)

structure St where
  heap : Tr AObj
  next : Nat
  facts : BinOp → Value → Value → Option Bool

/-- A symbol: a value that is not known; what is known of it stands in the facts. -/
def symb (i : Nat) : Value := .complex .f32 i 0

/-- No facts at all. -/
def noFacts : BinOp → Value → Value → Option Bool := fun _ _ _ => none

/-- One cell's value without an address in it. -/
def flat0 : Value → Bool
  | .bool _ | .int _ _ | .float _ _ | .string _ => true
  | .pointer none | .slice none _ _ | .map none | .chan none | .nilFunc | .nilIface => true
  | _ => false

def flat1 : Value → Bool
  | .agg cs => cs.toList.all flat0
  | .tuple vs => vs.toList.all flat0
  | v => flat0 v

/-- The result of what asks nothing of the world. -/
def pureRun {α : Type} (P : Program) : Sem α → Option α
  | .pure a => some a
  | .program k => pureRun P (k P)
  | _ => none

def under (P : Program) (t : TypeId) : Option TypeDesc := P.underlying t
def sizeT (P : Program) (t : TypeId) : Option Nat := (P.info? t).map (·.size)
def isAggT (P : Program) (t : TypeId) : Option Bool :=
  (P.underlying t).map fun | .struct _ | .array _ _ => true | _ => false

/-- The cells of an element, where a variable of the type is made. -/
def elemSize (P : Program) (t : TypeId) : Option Nat :=
  match P.underlying t with
  | some (.array _ e) => sizeT P e
  | some _ => sizeT P t
  | none => none

def St.new (σ : St) (o : AObj) : Nat × St := (σ.next, { heap := σ.heap.put σ.next o, next := σ.next + 1, facts := σ.facts })

def ptr (id off : Nat) : Value := .pointer (some ⟨id, off, none⟩)

def newRow (σ : St) (c : List Value) (sz : Nat) : Option (Nat × St) :=
  if c.all Value.oneCell' then some (σ.new (.cells c sz false)) else none

def loadA (P : Program) (σ : St) (t : TypeId) (a : Value) : Option Value :=
  match a with
  | .pointer (some ⟨id, off, none⟩) =>
    match σ.heap.get id with
    | some (.cells c _ _) =>
      match isAggT P t with
      | some true =>
        match sizeT P t with
        | some s => if off + s ≤ c.length then some (.agg ((c.drop off).take s).toArray) else none
        | none => none
      | some false => c[off]?
      | none => none
    | _ => none
  | _ => none

def splice (c : List Value) (off : Nat) (vs : List Value) : List Value := c.take off ++ vs ++ c.drop (off + vs.length)

def storeCellsA (σ : St) (id off : Nat) (vs : List Value) : Option St :=
  match σ.heap.get id with
  | some (.cells c sz false) =>
    if off + vs.length ≤ c.length ∧ vs.all Value.oneCell' then some { σ with heap := σ.heap.put id (.cells (splice c off vs) sz false) } else none
  | _ => none

def storeA (P : Program) (σ : St) (t : TypeId) (a v : Value) : Option St :=
  match a with
  | .pointer (some ⟨id, off, none⟩) =>
    if sizeT P t = some v.cells.size then storeCellsA σ id off v.cells.toList else none
  | _ => none

/-- The cells of a slice. -/
def rowOf (σ : St) (id off n : Nat) : Option (List Value × Nat) :=
  match σ.heap.get id with
  | some (.cells c sz _) => if off + n * sz ≤ c.length then some ((c.drop off).take (n * sz), sz) else none
  | _ => none

def bytesVals (s : ByteArray) : List Value := s.data.toList.map fun b => .int .u8 b.toNat

/-- What is appended: the values of a slice, or of a string. -/
def sourceA (σ : St) (s : Nat) (x : Value) : Option (List Value × Nat) :=
  match x with
  | .slice none n _ => if n = 0 then some ([], 0) else none
  | .slice (some ⟨id, off, none⟩) n _ =>
    if n = 0 then some ([], 0) else
    match rowOf σ id off n with
    | some (l, sz) => if sz = s then some (l, n) else none
    | none => none
  | .string b => if s = 1 then some (bytesVals b, b.size) else none
  | _ => none

def roomA : Nat := 2 ^ 46

def appendA (P : Program) (σ : St) (t : TypeId) (s x : Value) : Option (Value × St) :=
  match P.underlying t with
  | some (.slice e) =>
    match P.info? e with
    | none => none
    | some i =>
      match i.zero with
      | none => none
      | some z =>
        if z.cells.size = i.size ∧ 0 < i.size then
          match sourceA σ i.size x with
          | none => none
          | some (news, m) =>
            match s with
            | .slice none n c =>
              if n = 0 ∧ c = 0 then
                if m = 0 then some (.slice none 0 0, σ)
                else if m * i.bytes ≤ roomA ∧ m ≤ roomA then
                  (newRow σ news i.size).map fun (id, σ') => (.slice (some ⟨id, 0, none⟩) m m, σ')
                else none
              else none
            | .slice (some ⟨id, off, none⟩) n _ =>
              match rowOf σ id off n, σ.heap.get id with
              | some (old, sz), some (.cells _ _ false) =>
                if sz = i.size ∧ (n + m) * i.bytes ≤ roomA ∧ n + m ≤ roomA then
                  (newRow { σ with heap := σ.heap.del id } (old ++ news) i.size).map fun (id', σ') => (.slice (some ⟨id', 0, none⟩) (n + m) (n + m), σ')
                else none
              | _, _ => none
            | _ => none
        else none
  | _ => none

/-- A slice of a slice, or of a variable that is an array. -/
def natOf : Value → Option Nat
  | .int _ n => if 0 ≤ n then some n.toNat else none
  | _ => none

def bound (d : Nat) : Option Value → Option Nat
  | none => some d
  | some v => natOf v

def sliceA (P : Program) (σ : St) (t : TypeId) (x : Value) (lo hi : Option Value) : Option Value :=
  match P.underlying t, x with
  | some (.slice e), .slice a n c =>
    match sizeT P e, bound 0 lo, bound n hi with
    | some s, some l, some h =>
      if l ≤ h ∧ h ≤ n then
        match a with
        | none => if n = 0 ∧ c = 0 then some (.slice none 0 0) else none
        | some ⟨id, off, none⟩ => match σ.heap.get id with
          | some (.cells _ sz _) => if sz = s then some (.slice (some ⟨id, off + l * s, none⟩) (h - l) (h - l)) else none
          | _ => none
        | _ => none
      else none
    | _, _, _ => none
  | some (.array m e), .pointer (some ⟨id, off, none⟩) =>
    match sizeT P e, bound 0 lo, bound m hi, σ.heap.get id with
    | some s, some l, some h, some (.cells c sz _) =>
      if l ≤ h ∧ h ≤ m ∧ sz = s ∧ off + m * s ≤ c.length then some (.slice (some ⟨id, off + l * s, none⟩) (h - l) (h - l)) else none
    | _, _, _, _ => none
  | _, _ => none

def indexAddrA (P : Program) (t : TypeId) (x ix : Value) : Option Value :=
  match natOf ix with
  | none => none
  | some i =>
    match P.underlying t, x with
    | some (.slice e), .slice (some ⟨id, off, none⟩) n _ =>
      match sizeT P e with
      | some s => if i < n then some (ptr id (off + i * s)) else none
      | none => none
    | some (.array m e), .pointer (some ⟨id, off, none⟩) =>
      match sizeT P e with
      | some s => if i < m then some (ptr id (off + i * s)) else none
      | none => none
    | _, _ => none

def fieldAddrA (P : Program) (t : TypeId) (x : Value) (f : Nat) : Option Value :=
  match P.underlying t, x with
  | some (.struct fs), .pointer (some ⟨id, off, none⟩) =>
    match fs[f]? with
    | some fd => match sizeT P fd.type with
      | some s => if s = 0 then none else some (ptr id (off + fd.offset))
      | none => none
    | none => none
  | _, _ => none

def partA (P : Program) (t : TypeId) (cs : Array Value) (off : Nat) : Option Value :=
  match isAggT P t with
  | some true => match sizeT P t with
    | some s => some (.agg (cs.extract off (off + s)))
    | none => none
  | some false => cs[off]?
  | none => none

def fieldA (P : Program) (t : TypeId) (x : Value) (f : Nat) : Option Value :=
  match P.underlying t, x with
  | some (.struct fs), .agg cs => match fs[f]? with
    | some fd => partA P fd.type cs fd.offset
    | none => none
  | _, _ => none

def indexA (P : Program) (t : TypeId) (x ix : Value) : Option Value :=
  match P.underlying t, x, natOf ix with
  | some (.array m e), .agg cs, some i =>
    match sizeT P e with
    | some s => if i < m then partA P e cs (i * s) else none
    | none => none
  | _, _, _ => none

def buildA (P : Program) (t : TypeId) (parts : List (Nat × Value)) : Option Value :=
  match (P.info? t).bind (·.zero) with
  | some z => if z.cells.toList.all flat0 then (P.built t parts).map .agg else none
  | none => none

def buildSliceA (P : Program) (σ : St) (t : TypeId) (len : Nat) (parts : List (Nat × Value)) : Option (Value × St) :=
  match P.underlying t with
  | some (.slice e) =>
    match P.info? e with
    | some i =>
      match i.zero with
      | some z =>
        if z.cells.toList.all flat0 ∧ z.cells.size = i.size ∧ len * i.size ≤ 2 ^ 20 then
          match Instr.fill (fun j => some (j * i.size, i.size)) ((Array.range (len * i.size)).map (z.cells[· % z.cells.size]!)) parts with
          | some cells => (newRow σ cells.toList i.size).map fun (id, σ') => (.slice (some ⟨id, 0, none⟩) len len, σ')
          | none => none
        else none
      | none => none
    | none => none
  | _ => none

/-- '==' against nil. -/
def nilEq (P : Program) (t : TypeId) (x y : Value) : Option Bool :=
  match P.underlying t, x, y with
  | some (.slice _), .slice none _ _, .slice b _ _ => some b.isNone
  | some (.slice _), .slice _ _ _, .slice none _ _ => some false
  | some (.func _ _ _), .nilFunc, .nilFunc => some true
  | some (.func _ _ _), .nilFunc, .func _ _ _ | some (.func _ _ _), .func _ _ _, .nilFunc => some false
  | some (.pointer _), .pointer none, .pointer b => some b.isNone
  | some (.pointer _), .pointer _, .pointer none => some false
  | _, _, _ => none

def binA (P : Program) (op : BinOp) (t : TypeId) (x y : Value) : Option Value :=
  match op with
  | .eql => (nilEq P t x y).map .bool
  | .neq => (nilEq P t x y).map fun b => .bool (!b)
  | _ => none

def pureOp (P : Program) (ρ : Operand → Value) (o : Oper) : Option Value :=
  if o.op.operands.toList.all fun x => flat1 (ρ x) then
    match pureRun P (execOp ρ o) with
    | some (.value v) => if flat1 v then some v else none
    | _ => none
  else none

def lenA (x : Value) : Option Value :=
  match x with
  | .slice _ n _ => some (goInt n)
  | .string s => some (goInt s.size)
  | _ => none

/-- The elements of a slice of bytes as a string. -/
def toBytes : List Value → ByteArray → Option ByteArray
  | [], acc => some acc
  | .int .u8 n :: r, acc => toBytes r (acc.push (UInt8.ofNat n.toNat))
  | _, _ => none

def convA (P : Program) (σ : St) (src dst : TypeId) (x : Value) : Option (Value × St) :=
  match P.underlying src, P.underlying dst, x with
  | some (.slice e), some .string, .slice none _ _ =>
    match P.underlying e with
    | some (.int .u8) => some (.string .empty, σ)
    | _ => none
  | some (.slice e), some .string, .slice (some ⟨id, off, none⟩) n _ =>
    match P.underlying e, rowOf σ id off n with
    | some (.int .u8), some (l, 1) => (toBytes l .empty).map fun b => (.string b, σ)
    | _, _ => none
  | some .string, some (.slice e), .string s =>
    match P.underlying e with
    | some (.int .u8) => if s.size ≤ 2 ^ 20 then some (.slice (some ⟨σ.next, 0, none⟩) s.size s.size, (σ.new (.cells (bytesVals s) 1 true)).2) else none
    | _ => none
  | _, _, _ => none

def copyA (P : Program) (σ : St) (t : TypeId) (d x : Value) : Option (Value × St) :=
  match P.underlying t with
  | some (.slice e) =>
    match sizeT P e, d with
    | some s, .slice base dn _ =>
      match sourceA σ s x with
      | some (l, m) =>
        let n := Nat.min m dn
        match base with
        | none => some (goInt n, σ)
        | some ⟨id, off, none⟩ =>
          match rowOf σ id off dn with
          | some (_, sz) => if sz = s then (storeCellsA σ id off (l.take (n * s))).map fun σ' => (goInt n, σ') else none
          | none => none
        | _ => none
      | none => none
    | _, _ => none
  | _ => none

/-- A key of a map that is looked up without asking. -/
def keyKind (P : Program) (t : TypeId) (k : Value) : Bool :=
  match P.underlying t, k with
  | some (.int _), .int _ _ | some .string, .string _ | some .bool, .bool _ => true
  | _, _ => false

def sameKey : Value → Value → Option Bool
  | .int j a, .int k b => if j = k then some (a == b) else none
  | .string a, .string b => some (a == b)
  | .bool a, .bool b => some (a == b)
  | _, _ => none

def findA (k : Value) : List (Value × Value × Nat) → Nat → Option (Option (Nat × Value))
  | [], _ => some none
  | (k', v, _) :: es, i =>
    match sameKey k k' with
    | some true => some (some (i, v))
    | some false => findA k es (i + 1)
    | none => none

def mapObj (σ : St) : Value → Option (Nat × List (Value × Value × Nat) × Nat)
  | .map (some r) => match σ.heap.get r with
    | some (.map es clock) => some (r, es, clock)
    | _ => none
  | _ => none

def lookupA (P : Program) (σ : St) (t : TypeId) (m k : Value) (ok : Bool) : Option Value :=
  match P.underlying t with
  | some (.map key elem) =>
    match mapObj σ m, keyKind P key k with
    | some (_, es, _), true =>
      match findA k es 0 with
      | some (some (_, v)) => some (if ok then .tuple #[v, .bool true] else v)
      | some none => match (P.info? elem).bind (·.zero) with
        | some z => if flat1 z then some (if ok then .tuple #[z, .bool false] else z) else none
        | none => none
      | none => none
    | _, _ => none
  | _ => none

def mapUpdateA (P : Program) (σ : St) (t : TypeId) (m k x : Value) : Option St :=
  match P.underlying t with
  | some (.map key _) =>
    match mapObj σ m, keyKind P key k with
    | some (r, es, clock), true =>
      match findA k es 0 with
      | some (some (i, _)) => match es[i]? with
        | some (_, _, b) => some { σ with heap := σ.heap.put r (.map (es.set i (k, x, b)) clock) }
        | none => none
      | some none => some { σ with heap := σ.heap.put r (.map (es ++ [(k, x, clock)]) (clock + 1)) }
      | none => none
    | _, _ => none
  | _ => none

def rangeA (P : Program) (σ : St) (t : TypeId) (x : Value) : Option (Value × St) :=
  match P.underlying t, x with
  | some .string, .string s => let (id, σ') := σ.new (.iter s 0); some (ptr id 0, σ')
  | _, _ => none

def nextA (σ : St) (it : Value) : Option (Value × St) :=
  match it with
  | .pointer (some ⟨id, 0, none⟩) =>
    match σ.heap.get id with
    | some (.iter s pos) =>
      if pos < s.size then
        some (.tuple #[.bool true, goInt pos, .int .i32 (Utf8.decode s pos).1], { σ with heap := σ.heap.put id (.iter s (pos + (Utf8.decode s pos).2)) })
      else some (.tuple #[.bool false], σ)
    | _ => none
  | _ => none

/-- An operation that calls nothing. 'none': it is not one of these, or fails. -/
def opA (P : Program) (ρ : Operand → Value) (o : Oper) (σ : St) : Option (Value × St) :=
  let v (r : Option Value) : Option (Value × St) := r.map fun x => (x, σ)
  match o.op with
  | .move x | .assign x => some (ρ x, σ)
  | .pick c a b => match ρ c with
    | .bool t => some (if t then ρ a else ρ b, σ)
    | _ => none
  | .alloc e =>
    match P.info? e, elemSize P e with
    | some i, some s => match i.zero with
      | some z => if z.cells.toList.all flat0 then (newRow σ z.cells.toList s).map fun (id, σ') => (ptr id 0, σ') else none
      | none => none
    | _, _ => none
  | .box e x =>
    match elemSize P e with
    | some s => (newRow σ (ρ x).cells.toList s).map fun (id, σ') => (ptr id 0, σ')
    | none => none
  | .build t parts => v (buildA P t (parts.map fun (i, x) => (i, ρ x)).toList)
  | .buildSlice t len parts => buildSliceA P σ t len (parts.map fun (i, x) => (i, ρ x)).toList
  | .load t a => v (loadA P σ t (ρ a))
  | .store t a x => (storeA P σ t (ρ a) (ρ x)).map fun σ' => (undef, σ')
  | .nilCheck x => match ρ x with
    | .pointer (some a) => some (.pointer (some a), σ)
    | .func (.func f) a b => some (.func (.func f) a b, σ)
    | .func (.yield f) a b => some (.func (.yield f) a b, σ)
    | _ => none
  | .makeInterface t x => match P.underlying t with
    | some (.interface _) => none
    | some _ => some (.iface t (ρ x), σ)
    | none => none
  | .makeFunc (.func f) first captured => some (.func (.func f) (first.map ρ) (captured.map ρ), σ)
  | .makeMap _ none => let (id, σ') := σ.new (.map [] 0); some (.map (some id), σ')
  | .lookup t m k ok => v (lookupA P σ t (ρ m) (ρ k) ok)
  | .mapUpdate t m k x | .insert t m k x => (mapUpdateA P σ t (ρ m) (ρ k) (ρ x)).map fun σ' => (undef, σ')
  | .range t x => rangeA P σ t (ρ x)
  | .next it true => nextA σ (ρ it)
  | .slice t x lo hi none => match pureOp P ρ o with
    | some r => some (r, σ)
    | none => v (sliceA P σ t (ρ x) (lo.map ρ) (hi.map ρ))
  | .fieldAddr t x f => v (fieldAddrA P t (ρ x) f)
  | .field t x f => v (fieldA P t (ρ x) f)
  | .indexAddr t x ix => v (indexAddrA P t (ρ x) (ρ ix))
  | .index t x ix => match pureOp P ρ o with
    | some r => some (r, σ)
    | none => v (indexA P t (ρ x) (ρ ix))
  | .extract t ix => match ρ t with
    | .tuple vs => v vs[ix]?
    | _ => none
  | .binOp op t x y _ => match pureOp P ρ o with
    | some r => some (r, σ)
    | none => v (binA P op t (ρ x) (ρ y))
  | .unOp .. => v (pureOp P ρ o)
  | .convert s d x => match convA P σ s d (ρ x) with
    | some r => some r
    | none => v (pureOp P ρ o)
  | .call { callee := .builtin .len, args, argTypes } =>
    match argTypes[0]?, args[0]? with
    | some t, some x => match P.underlying t with
      | some (.slice _) => match ρ x with
        | .slice _ n _ => some (goInt n, σ)
        | _ => none
      | _ => v (pureOp P ρ o)
    | _, _ => none
  | .call { callee := .builtin .append, args, argTypes } =>
    match argTypes, args with
    | ⟨[t, u]⟩, ⟨[s, x]⟩ => match P.underlying u with
      | some (.int _) => none
      | some _ => appendA P σ t (ρ s) (ρ x)
      | none => none
    | _, _ => none
  | .call { callee := .builtin .copy, args, argTypes } =>
    match argTypes, args with
    | ⟨[t, _]⟩, ⟨[s, x]⟩ => copyA P σ t (ρ s) (ρ x)
    | _, _ => none
  | .call { callee := .builtin .min, .. } | .call { callee := .builtin .max, .. } => v (pureOp P ρ o)
  | _ => none

def evO (tm : Tm) : Operand → Value
  | .tmp t => Tm.val tm t
  | .const v => v
  | .global g => ptr g 0
  | .func f => .func (.func f) #[] #[]

/-- May the operand stand for itself? -/
def okO (G : Nat) (σ : St) : Operand → Bool
  | .const v => flat1 v
  | .global g => Nat.blt g G && (match σ.heap.get g with | some (.cells _ _ true) => true | _ => false)
  | _ => true

inductive AExit where
  | normal
  | exit (id : Nat)
  | ret

/-- A frame: the slots, how many there are, the marks among its deferred calls, and the loop whose round it is. -/
structure Fr where
  tm : Tm
  n : Nat
  marks : List Nat
  round : Option Nat

inductive Task where
  | code (c : Code) (fr : Fr) (σ : St)
  | call (fn : Value) (args : List Value) (σ : St)

inductive Res where
  | code (x : AExit) (fr : Fr) (σ : St)
  | call (v : Value) (σ : St)

def Fr.put (fr : Fr) (d : Option Tmp) (v : Value) : Option Fr :=
  match d with
  | none => some fr
  | some d => if Nat.blt d fr.n then some { fr with tm := fr.tm.put d v } else none

def yieldedA (ops : Array Oper) (tm : Tm) (j : Nat) : Option Bool :=
  match (ops[j]?).bind (·.dst) with
  | some d => match tm.get d with
    | some (.bool b) => some b
    | _ => none
  | none => none

/-! ### Regions that draw their order of evaluation -/
def hasGlobal (o : Op) : Bool := o.operands.toList.any fun | .global _ => true | _ => false

/-- 0: quiet: hangs on its operands alone; 1: reads; 2: loud. -/
def baseKind (P : Program) (o : Oper) : Nat :=
  match o.op with
    | .move _ | .assign _ | .pick .. | .build .. | .nilCheck _ | .makeInterface .. | .makeFunc .. | .fieldAddr .. | .field .. | .indexAddr .. | .index .. | .extract .. | .binOp .. | .unOp .. => 0
    | .call { callee := .builtin .len, .. } | .call { callee := .builtin .min, .. } | .call { callee := .builtin .max, .. } => 0
    | .convert s d _ => match P.underlying s, P.underlying d with
      | some (.int _), some (.int _) | some .string, some .string => 0
      | _, _ => 2
    | .load .. | .slice .. | .lookup .. => 1
    | _ => 2

def kindO (P : Program) (o : Oper) : Nat := if Nat.beq (baseKind P o) 0 && hasGlobal o.op then 1 else baseKind P o

def edgeMask (acc : List Nat) (es : List Edge) : Nat :=
  es.foldl (fun m e => if Region.binds .any e then m ||| (2 ^ e.on ||| acc.getD e.on 0) else m) 0

def masksGo : List Nat → List Oper → List Nat
  | acc, [] => acc
  | acc, o :: r => masksGo (acc ++ [edgeMask acc o.after.toList]) r

def masks (ops : List Oper) : List Nat := masksGo [] ops

def bit (m j : Nat) : Bool := m.testBit j

def firstReady (ks ms : List Nat) (n done : Nat) (quietOnly : Bool) : Option Nat :=
  (List.range n).find? fun i => !bit done i && (!quietOnly || Nat.blt (ks.getD i 2) 2) && Nat.beq ((ms.getD i 0) ||| done) done

def eager (ks ms : List Nat) (n : Nat) : Nat → Nat → List Nat
  | 0, _ => []
  | f + 1, done =>
    match firstReady ks ms n done true with
    | some i => i :: eager ks ms n f (done ||| 2 ^ i)
    | none => match firstReady ks ms n done false with
      | some i => i :: eager ks ms n f (done ||| 2 ^ i)
      | none => []

def tmpsOf (o : Op) : List Tmp := o.operands.toList.filterMap fun | .tmp t => some t | _ => none

def opAt (ops : List Oper) (i : Nat) : Option Oper := ops[i]?
def dstAt (ops : List Oper) (i : Nat) : Option Tmp := (ops[i]?).bind (·.dst)

def checkGo (ops : List Oper) (ks ms : List Nat) : List Nat → List Nat → Bool
  | [], _ => true
  | i :: rest, done =>
    (match ops[i]? with
      | none => false
      | some o =>
        ((List.range ops.length).all fun j => !bit (ms.getD i 0) j || done.contains j) &&
        (done.all fun e => !Nat.beq (ks.getD e 2) 2 || bit (ms.getD i 0) e) &&
        !done.contains i &&
        ((tmpsOf o.op).all fun t => (List.range ops.length).all fun j => !(dstAt ops j == some t) || bit (ms.getD i 0) j) &&
        (match o.guard with | none => true | some (g, _) => bit (ms.getD i 0) g) &&
        (o.after.toList.all fun e => !Region.binds .any e || Nat.blt e.on ops.length)) &&
    checkGo ops ks ms rest (i :: done)

def uniqueDst (ops : List Oper) : Bool :=
  (List.range ops.length).all fun i => (List.range ops.length).all fun j => Nat.beq i j || (dstAt ops i).isNone || !(dstAt ops i == dstAt ops j)

structure Plan where
  ord : List Nat
  ks : List Nat
  ms : List Nat

/-- In which order a region is gone through; none: it is not one of those that are taken. -/
def planOf (P : Program) (ops : List Oper) : Option Plan :=
  let ks := ops.map (kindO P)
  let ms := masks ops
  let ord := eager ks ms ops.length ops.length 0
  if checkGo ops ks ms ord [] && uniqueDst ops && ((List.range ops.length).all fun i => ord.contains i) then some ⟨ord, ks, ms⟩ else none

def same0 : Value → Value → Bool
  | .bool a, .bool b => a == b
  | .int j a, .int k b => j == k && a == b
  | .string a, .string b => a == b
  | .pointer a, .pointer b => a == b
  | .slice a n c, .slice b m d => a == b && n == m && c == d
  | .nilFunc, .nilFunc | .nilIface, .nilIface => true
  | .map a, .map b => a == b
  | _, _ => false

def sameAll : List Value → List Value → Bool
  | [], [] => true
  | a :: r, b :: s => same0 a b && sameAll r s
  | _, _ => false

def sameV : Value → Value → Bool
  | .agg a, .agg b => sameAll a.toList b.toList
  | .tuple a, .tuple b => sameAll a.toList b.toList
  | a, b => same0 a b

section
variable (P : Program) (S : FuncId → Option (List Value → St → Option (Value × St))) (X : FuncId → Option (List Value → Option Value)) (rec : Task → Option Res)

def calleeA (ρ : Operand → Value) (o : Oper) : Option (Value × List Value) :=
  match o.op with
  | .call { callee := .value f, args, .. } => some (ρ f, args.toList.map ρ)
  | _ => none

/-- An operation, calls too. -/
def stepA (fr : Fr) (o : Oper) (σ : St) : Option (Value × St) :=
  if o.op.operands.toList.all (okO P.globals.size σ) then
    match calleeA (evO fr.tm) o with
    | some (f, args) => match rec (.call f args σ) with
      | some (.call v σ') => some (v, σ')
      | _ => none
    | none => opA P (evO fr.tm) o σ
  else none

/-- A comparison that the facts answer. -/
def factA (fr : Fr) (o : Oper) (σ : St) : Option Value :=
  match o.op with
  | .binOp op _ x y _ => if o.op.operands.toList.all (okO P.globals.size σ) then (σ.facts op (evO fr.tm x) (evO fr.tm y)).map .bool else none
  | _ => none

def stepF (fr : Fr) (o : Oper) (σ : St) : Option (Value × St) :=
  match stepA P rec fr o σ with
  | some r => some r
  | none => (factA P fr o σ).map fun v => (v, σ)

def opsA (ops : Array Oper) : List Oper → Fr → St → Option (Fr × St)
  | [], fr, σ => some (fr, σ)
  | o :: rest, fr, σ =>
    if Region.wanted o (yieldedA ops fr.tm) then
      match stepF P rec fr o σ with
      | some (v, σ') => match fr.put o.dst v with
        | some fr' => opsA ops rest fr' σ'
        | none => none
      | none => none
    else match fr.put o.dst undef with
      | some fr' => opsA ops rest fr' σ
      | none => none

/-- Does a read give the same as before? -/
def again (ops : Array Oper) (fr : Fr) (σ : St) (r : Nat) : Bool :=
  match ops[r]? with
  | some o => match o.dst, stepA P rec fr o σ with
    | some d, some (v, _) => sameV v (Tm.val fr.tm d)
    | _, _ => false
  | none => false

def drawGo (ops : Array Oper) (ks ms : List Nat) : List Nat → List Nat → Fr → St → Option (Fr × St)
  | [], _, fr, σ => some (fr, σ)
  | i :: rest, done, fr, σ =>
    match ops[i]? with
    | none => none
    | some o =>
      if Region.wanted o (yieldedA ops fr.tm) then
        match stepA P rec fr o σ with
        | some (v, σ') =>
          if !Nat.beq (ks.getD i 2) 2 || done.all (fun r => bit (ms.getD i 0) r || again P rec ops fr σ' r) then
            match fr.put o.dst v with
            | some fr' => drawGo ops ks ms rest (bif Nat.beq (ks.getD i 2) 1 then i :: done else done) fr' σ'
            | none => none
          else none
        | none => none
      else match fr.put o.dst undef with
        | some fr' => drawGo ops ks ms rest done fr' σ
        | none => none

def resultsA (P : Program) (fn : Func) (tm : Tm) (σ : St) : Option (List Value) :=
  fn.results.toList.mapM fun
    | .tmp t => some (Tm.val tm t)
    | .cell a t => loadA P σ t (Tm.val tm a)

def paramsGo : Nat → List Value → Tm → Tm
  | _, [], t => t
  | i, v :: r, t => paramsGo (i + 1) r (t.put i v)

def putAll : List Tmp → List Value → Tm → Tm
  | p :: ps, v :: vs, t => putAll ps vs (t.put p v)
  | _, _, t => t

def delAll : List Nat → St → Option St
  | [], σ => some σ
  | m :: ms, σ => match σ.heap.get m with
    | some .marks => delAll ms { σ with heap := σ.heap.del m }
    | _ => none

def bodyOf (f : FuncId) : Option (Func × Code) := (P.funcs[f]?).bind fun fn => fn.body.map fun c => (fn, c)

def F : Task → Option Res
  | .code c fr σ =>
    match c with
    | .skip | .label _ => some (.code .normal fr σ)
    | .region _ ops draw =>
      if draw then
        match planOf P ops.toList with
        | some p => (drawGo P rec ops p.ks p.ms p.ord [] fr σ).map fun (fr', σ') => .code .normal fr' σ'
        | none => none
      else (opsA P rec ops ops.toList fr σ).map fun (fr', σ') => .code .normal fr' σ'
    | .seq a b => match rec (.code a fr σ) with
      | some (.code .normal fr' σ') => rec (.code b fr' σ')
      | r => r
    | .cond x a b =>
      match x, evO fr.tm x with
      | .tmp _, .bool t => rec (.code (if t then a else b) fr σ)
      | _, _ => none
    | .block id b => match rec (.code b fr σ) with
      | some (.code (.exit id') fr' σ') => some (.code (if id' = id then .normal else .exit id') fr' σ')
      | r => r
    | .loop b => match rec (.code b fr σ) with
      | some (.code .normal fr' σ') => rec (.code (.loop b) fr' σ')
      | r => r
    | .scope b => rec (.code b fr σ)
    | .exit id => some (.code (.exit id) fr σ)
    | .ret => some (.code .ret fr σ)
    | .rangeFunc f params assign body =>
      match f, evO fr.tm f with
      | .tmp _, .func (.func g) first captured =>
        match bodyOf P g with
        | none => none
        | some _ =>
          let pre : Option (Nat × List Nat × St) := match fr.round with
            | some l => match σ.heap.get l with
              | some (.loop _ _ _ _ _ _ _ d) => some (d, fr.marks, σ)
              | _ => none
            | none => some (σ.next, σ.next :: fr.marks, (σ.new .marks).2)
          match pre with
          | none => none
          | some (d, marks, σ₁) =>
            let l := σ₁.next
            match rec (.call (.func (.func g) first captured) [.func (.yield l) #[] #[]] (σ₁.new (.loop .ready none fr.tm fr.n params assign body d)).2) with
            | some (.call _ σ₃) =>
              match σ₃.heap.get l with
              | some (.loop st pend _ _ _ _ _ _) =>
                if st = .busy then none else
                let σ₄ : St := { σ₃ with heap := σ₃.heap.del l }
                match pend with
                | none => some (.code .normal { fr with marks } σ₄)
                | some .ret => some (.code .ret { fr with marks } σ₄)
                | some (.exit id) => some (.code (.exit id) { fr with marks } σ₄)
                | _ => none
              | _ => none
            | _ => none
      | _, _ => none
    | .goto _ | .refuse _ => none
  | .call fn args σ =>
    match fn with
    | .func (.func f) first captured =>
      let all := first.toList ++ args ++ captured.toList
      match S f with
      | some s => (s all σ).map fun (v, σ') => .call v σ'
      | none =>
        match bodyOf P f with
        | none => match X f with
          | some x => if all.all flat0 then (x all).map fun v => .call v σ else none
          | none => none
        | some (fn, c) =>
          if all.length ≤ fn.ntmps then
            match rec (.code c { tm := paramsGo 0 all .leaf, n := fn.ntmps, marks := [], round := none } σ) with
            | some (.code (.exit _) _ _) => none
            | some (.code _ fr' σ') =>
              match delAll fr'.marks σ' with
              | none => none
              | some σ'' =>
                match resultsA P fn fr'.tm σ'' with
                | some [v] => some (.call v σ'')
                | some vs => some (.call (.tuple vs.toArray) σ'')
                | none => none
            | _ => none
          else none
    | .func (.yield l) ⟨[]⟩ ⟨[]⟩ =>
      match σ.heap.get l with
      | some (.loop .ready _ tm n params assign body _) =>
        if args.length = params.size ∧ params.toList.all (fun p => Nat.blt p n) then
          match rec (.code assign { tm := putAll params.toList args tm, n, marks := [], round := some l } σ) with
          | some (.code .normal fr₁ σ₁) =>
            match σ₁.heap.get l with
            | some (.loop .ready pend₁ tm₁ n₁ params₁ assign₁ body₁ d₁) =>
              match rec (.code body fr₁ { σ₁ with heap := σ₁.heap.put l (.loop .busy pend₁ tm₁ n₁ params₁ assign₁ body₁ d₁) }) with
              | some (.code x _ σ₂) =>
                match σ₂.heap.get l with
                | some (.loop _ _ tm₂ n₂ params₂ assign₂ body₂ d₂) =>
                  let jump : Option Code := match x with | .normal => none | .exit id => some (.exit id) | .ret => some .ret
                  some (.call (.bool jump.isNone) { σ₂ with heap := σ₂.heap.put l (.loop (if jump.isNone then .ready else .done) jump tm₂ n₂ params₂ assign₂ body₂ d₂) })
                | _ => none
              | _ => none
            | _ => none
          | _ => none
        else none
      | _ => none
    | _ => none

def ev : Nat → Task → Option Res
  | 0, _ => none
  | n + 1, t => F P S X (ev n) t
end
end Go.Aev
