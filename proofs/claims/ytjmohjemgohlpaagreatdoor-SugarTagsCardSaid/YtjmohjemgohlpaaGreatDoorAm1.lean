/- An interpreter of the program's code over an abstract memory, and what relates it to the model: definitions, names of blocks, values, comparisons. By an AI agent. No person has read it. -/
import Derived.RangeFuncLeaves
import Derived.OrdersIn
import Derived.Below
import Derived.Laws.Sem
import Derived.Laws.World
import Derived.Laws.Rows
import Derived.Laws.Entries
import Derived.Laws.Slices
import Derived.LaidEql
import Derived.Laws.Small
import Derived.Laws.StructEq

/- The abstract machine: definitions. A deterministic interpreter of compiled code over an abstract memory. -/
namespace Go.Proofs.YtjmohjemgohlpaaGreatDoor.Am
open Go

/-! ### Tries -/
inductive Tr (α : Type) where
  | leaf
  | node (v : Option α) (l r : Tr α)
  deriving Inhabited

def Tr.get {α : Type} : Tr α → Nat → Option α
  | .leaf, _ => none
  | .node v l r, n => cond (Nat.beq n 0) v (cond (Nat.beq (n % 2) 1) (l.get (n / 2)) (r.get (n / 2 - 1)))

def Tr.setF {α : Type} (x : α) : Nat → Tr α → Nat → Tr α
  | 0, t, _ => t
  | k + 1, .leaf, n => cond (Nat.beq n 0) (.node (some x) .leaf .leaf) (cond (Nat.beq (n % 2) 1) (.node none (Tr.setF x k .leaf (n / 2)) .leaf) (.node none .leaf (Tr.setF x k .leaf (n / 2 - 1))))
  | k + 1, .node v l r, n => cond (Nat.beq n 0) (.node (some x) l r) (cond (Nat.beq (n % 2) 1) (.node v (Tr.setF x k l (n / 2)) r) (.node v l (Tr.setF x k r (n / 2 - 1))))

def Tr.set {α : Type} (t : Tr α) (n : Nat) (x : α) : Tr α := Tr.setF x (n + 1) t n

/-! ### Values that bear no address -/
def flat0 : Value → Bool
  | .bool _ | .int _ _ | .float _ _ | .complex _ _ _ | .string _ | .nilFunc | .nilIface => true
  | .pointer a => a.isNone
  | .slice a _ _ => a.isNone
  | .map r => r.isNone
  | .chan r => r.isNone
  | _ => false

def flat : Value → Bool
  | .agg cs => cs.all flat0
  | .tuple cs => cs.all flat0
  | v => flat0 v

def oneCell : Value → Bool
  | .agg _ | .tuple _ => false
  | _ => true

/-! ### Compiled code -/
inductive COp where
  | mov (x : Operand)
  | pick (c a b : Operand)
  | newz (z : List Value)
  | box (x : Operand)
  | agg (z : List Value) (ps : List (Nat × Nat × Operand))
  | lits (z : List Value) (n : Nat) (ps : List (Nat × Nat × Operand))
  | ld1 (a : Operand)
  | ld (n : Nat) (a : Operand)
  | st (n : Nat) (a v : Operand)
  | nilck (x : Operand)
  | bin (op : BinOp) (x y : Operand)
  | eqb (neg : Bool) (x y : Operand)
  | eqn (k : Nat) (neg c : Bool) (x y : Operand)
  | eqc (neg : Bool) (ks : List Nat) (x y : Operand)
  | un (op : UnOp) (x : Operand)
  | cvi (k : IntKind) (x : Operand)
  | cvs (x : Operand)
  | cvb (x : Operand)
  | cvt (x : Operand)
  | ifc (t : TypeId) (x : Operand)
  | fn (f : FuncId) (first cap : List Operand)
  | mkm
  | mks (bytes : Nat) (z : List Value) (l c : Operand)
  | sl (size : Nat) (x : Operand) (lo hi mx : Option Operand)
  | sla (n size : Nat) (x : Operand) (lo hi mx : Option Operand)
  | sls (x : Operand) (lo hi : Option Operand)
  | fad (x : Operand) (off : Nat)
  | fld1 (x : Operand) (off : Nat)
  | fldn (x : Operand) (off n : Nat)
  | iad (size : Nat) (x i : Operand)
  | iaa (len size : Nat) (x i : Operand)
  | ida1 (len size : Nat) (x i : Operand)
  | idan (len size : Nat) (x i : Operand)
  | ids (x i : Operand)
  | lkp (kd : TypeDesc) (z : Value) (m k : Operand) (ok : Bool)
  | mup (kd : TypeDesc) (m k v : Operand)
  | itr (x : Operand)
  | nxt (x : Operand)
  | ext (x : Operand) (i : Nat)
  | lns (x : Operand)
  | lnl (x : Operand)
  | lnc (n : Nat)
  | lnm (x : Operand)
  | cap (x : Operand)
  | app (size bytes : Nat) (et : Option TypeId) (s x : Operand)
  | apz (bytes : Nat) (z : List Value) (s x : Operand)
  | aps (et : Option TypeId) (s x : Operand)
  | newt (t : TypeId) (z : List Value)
  | tou (x : Operand)
  | fru (t : TypeId) (size : Nat) (x : Operand)
  | usd (x : Operand)
  | ust (t : TypeId) (x n : Operand)
  | mnx (mx : Bool) (xs : List Operand)
  | call (f : Operand) (args : List Operand)
  | bad
  deriving Inhabited

structure CO where
  dst : Option Nat
  guard : Option (Nat × Bool)
  op : COp
  deriving Inhabited

inductive CC where
  | skip
  | ops (l : List CO)
  | draw (l : List CO) (un : List (Nat × Nat))
  | seq (a b : CC)
  | cond (c : Operand) (a b : CC)
  | block (id : Nat) (c : CC)
  | loop (c : CC)
  | exit (id : Nat)
  | goto (l : Nat)
  | label (l : Nat)
  | ret
  | scope (c : CC)
  | rangeF (f : Operand) (ps : List Nat) (as bd : CC)
  | bad
  deriving Inhabited

inductive CR where
  | tmp (t : Nat)
  | cell1 (t : Nat)
  | cells (t n : Nat)
  deriving Inhabited

structure CF where
  n : Nat
  rs : List CR
  body : CC
  deriving Inhabited

/-! ### Memory -/
structure Fr where
  tr : Tr Value
  n : Nat
  marks : List Nat
  round : Bool
  deriving Inhabited

inductive Ex where
  | normal
  | exit (id : Nat)
  | goto (l : Nat)
  | ret
  deriving Inhabited, DecidableEq

inductive Blk where
  | dead
  | row (c : List Value) (own : Bool)
  | trow (c : List Value) (t : TypeId)
  | map (es : Array MapEntry) (clock : Nat)
  | iter (s : ByteArray) (pos : Nat)
  | loop (state : LoopState) (pending : Option Ex) (fr : Fr) (params : List Nat) (assign body : CC)
  | deferred
  deriving Inhabited

structure Hp where
  tr : Tr Blk
  size : Nat
  low : Nat
  deriving Inhabited

def Hp.get (H : Hp) (b : Nat) : Blk := (H.tr.get b).getD .dead
def Hp.new (H : Hp) (x : Blk) : Hp := { tr := H.tr.set H.size x, size := H.size + 1, low := H.low }
def Hp.upd (H : Hp) (b : Nat) (x : Blk) : Hp := { tr := H.tr.set b x, size := H.size, low := Nat.min H.low b }

def Hp.cell? (H : Hp) (a : Addr) : Option Value :=
  match H.get a.block with
  | .row c _ => c[a.off]?
  | .trow c _ => c[a.off]?
  | _ => none

def Hp.cells? (H : Hp) (a : Addr) (n : Nat) : Option (List Value) :=
  match H.get a.block with
  | .row c _ => if a.off + n ≤ c.length then some ((c.drop a.off).take n) else none
  | .trow c _ => if a.off + n ≤ c.length then some ((c.drop a.off).take n) else none
  | _ => none

/-- cells vs from off on; 'off + vs.length ≤ c.length' -/
def setAll (c : List Value) (off : Nat) (vs : List Value) : List Value :=
  match off, c with
  | 0, c => vs ++ c.drop vs.length
  | _ + 1, [] => []
  | off + 1, x :: c => x :: setAll c off vs

def Hp.setCells (H : Hp) (a : Addr) (vs : List Value) : Option Hp :=
  match H.get a.block with
  | .row c true => if a.off + vs.length ≤ c.length ∧ vs.all oneCell = true then some (H.upd a.block (.row (setAll c a.off vs) true)) else none
  | .trow c t => if a.off + vs.length ≤ c.length ∧ vs.all oneCell = true then some (H.upd a.block (.trow (setAll c a.off vs) t)) else none
  | _ => none

def Fr.get (F : Fr) (t : Nat) : Value := (F.tr.get t).getD undef
def Fr.eval (F : Fr) : Operand → Value
  | .tmp t => F.get t
  | .const v => v
  | .global g => .pointer (some ⟨g, 0, none⟩)
  | .func f => .func (.func f) #[] #[]
def Fr.set (F : Fr) (d : Nat) (v : Value) : Fr := { tr := F.tr.set d v, n := F.n, marks := F.marks, round := F.round }
def Fr.put (F : Fr) (dst : Option Nat) (v : Value) : Option Fr :=
  match dst, F with
  | none, F => some F
  | some d, ⟨tr, n, m, r⟩ => cond (Nat.blt d n) (some ⟨tr.set d v, n, m, r⟩) none

def setArgs (t : Tr Value) (i : Nat) : List Value → Tr Value
  | [] => t
  | v :: r => setArgs (t.set i v) (i + 1) r
def Fr.ofArgs (args : Array Value) (n : Nat) : Fr := { tr := setArgs .leaf 0 args.toList, n := n, marks := [], round := false }

/-! ### Operations that look at no memory -/
def exact (a : Addr) : Addr := { a with spot := some 0 }
/-- is the capacity known? -/
def isExact (a : Addr) : Bool :=
  match a.spot with
  | some 0 => true
  | _ => false
/-- a slice of elements of so many cells, whose capacity is known from below -/
def isRoomy (a : Addr) (size : Nat) : Bool :=
  match a.spot with
  | some (k + 1) => Nat.beq k size
  | _ => false
def roomy (a : Addr) (size : Nat) : Addr := { a with spot := some (size + 1) }

/-- the cells z, so many times -/
def zeroCells (z : List Value) : Nat → List Value
  | 0 => []
  | n + 1 => z ++ zeroCells z n

def fillA (cells : List Value) : List (Nat × Nat × Value) → Option (List Value)
  | [] => some cells
  | (off, size, v) :: rest =>
    if v.cells.toList.length = size ∧ off + size ≤ cells.length then fillA (setAll cells off v.cells.toList) rest else none

def binInt (op : BinOp) (k : IntKind) (a b : Int) : Option Value :=
  match op with
  | .add => some (.int k (k.wrap (a + b)))
  | .sub => some (.int k (k.wrap (a - b)))
  | .mul => some (.int k (k.wrap (a * b)))
  | .quo => if b = 0 then none else some (.int k (k.wrap (a.tdiv b)))
  | .rem => if b = 0 then none else some (.int k (a.tmod b))
  | .and => some (.int k (k.wrap (BitVec.ofInt k.bits a &&& BitVec.ofInt k.bits b).toNat))
  | .or => some (.int k (k.wrap (BitVec.ofInt k.bits a ||| BitVec.ofInt k.bits b).toNat))
  | .xor => some (.int k (k.wrap (BitVec.ofInt k.bits a ^^^ BitVec.ofInt k.bits b).toNat))
  | .andNot => some (.int k (k.wrap (BitVec.ofInt k.bits a &&& ~~~BitVec.ofInt k.bits b).toNat))
  | .eql => some (.bool (a == b))
  | .neq => some (.bool (a != b))
  | .lss => some (.bool (a < b))
  | .leq => some (.bool (a ≤ b))
  | .gtr => some (.bool (a > b))
  | .geq => some (.bool (a ≥ b))
  | _ => none

def binV (op : BinOp) (x y : Value) : Option Value :=
  match x, y with
  | .int k a, .int k' b =>
    match op with
    | .shl => if b < 0 then none else some (.int k (k.wrap (a * 2 ^ (min b.toNat k.bits))))
    | .shr => if b < 0 then none else some (.int k (a.fdiv (2 ^ (min b.toNat k.bits))))
    | _ => if k = k' then binInt op k a b else none
  | .string a, .string b =>
    match op with
    | .add => if a.size + b.size ≤ 2 ^ 40 then some (.string (a ++ b)) else none
    | .eql => some (.bool (a.toList == b.toList))
    | .neq => some (.bool !(a.toList == b.toList))
    | .lss => some (.bool (Op.bytesLess a.toList b.toList))
    | .leq => some (.bool (Op.bytesLess a.toList b.toList || a.toList == b.toList))
    | .gtr => some (.bool !(Op.bytesLess a.toList b.toList || a.toList == b.toList))
    | .geq => some (.bool !(Op.bytesLess a.toList b.toList))
    | _ => none
  | _, _ => none

/-- comparisons with nil; k: of pointers 0, slices 1, maps 2, functions 3, interfaces 4 -/
def eqNil (k : Nat) (c : Bool) (x y : Value) : Option Bool :=
  match k, x, y with
  | 0, .pointer none, .pointer b => some b.isNone
  | 0, .pointer (some _), .pointer none => some false
  | 0, .pointer (some a), .pointer (some b) => if a.block = b.block ∧ a.off = b.off then some true else none
  | 1, .slice none _ _, .slice b _ _ => some b.isNone
  | 1, .slice (some _) _ _, .slice none _ _ => some false
  | 2, .map none, .map b => some b.isNone
  | 2, .map (some _), .map none => some false
  | 3, .nilFunc, .nilFunc => some true
  | 3, .nilFunc, .func _ _ _ => some false
  | 3, .func _ _ _, .nilFunc => some false
  | 4, .nilIface, .nilIface => if c then some true else none
  | 4, .nilIface, .iface _ _ => some false
  | 4, .iface _ _, .nilIface => some false
  | _, _, _ => none

def cellEq (k : Nat) (x y : Value) : Option Bool :=
  match k, x, y with
  | 0, .int k a, .int k' b => if k = k' then some (a == b) else none
  | 1, .string a, .string b => some (a.toList == b.toList)
  | 2, .bool a, .bool b => some (a == b)
  | _, _, _ => none
def cellsEq : List Nat → List Value → List Value → Option Bool
  | [], [], [] => some true
  | k :: ks, x :: xs, y :: ys =>
    match cellEq k x y, cellsEq ks xs ys with
    | some b, some c => some (b && c)
    | _, _ => none
  | _, _, _ => none

def unV (op : UnOp) (x : Value) : Option Value :=
  match op, x with
  | .neg, .int k n => some (.int k (k.wrap (0 - n)))
  | .xor, .int k n => some (.int k (k.wrap (BitVec.ofInt k.bits (if k.signed then -1 else k.max) ^^^ BitVec.ofInt k.bits n).toNat))
  | .not, .bool b => some (.bool !b)
  | _, _ => none

def bound (v : Option Value) (d most : Nat) : Option Nat :=
  match v with
  | none => some d
  | some (.int _ i) => if 0 ≤ i ∧ i ≤ most then some i.toNat else none
  | _ => none

/-- the bounds of a slice expression: low, high, most -/
def bounds (len cap : Nat) (lo hi mx : Option Value) : Option (Nat × Nat × Nat) :=
  if mx.isSome && hi.isNone then none else
  match bound mx cap cap with
  | none => none
  | some m => match bound hi len m with
    | none => none
    | some h => match bound lo 0 h with
      | none => none
      | some l => some (l, h, m)

def sliceV (size : Nat) (x : Value) (lo hi mx : Option Value) : Option Value :=
  match x with
  | .slice (some a) len cap =>
    match bounds len cap lo hi mx with
    | some (l, h, m) =>
      let b : Addr := if m = l then a else ⟨a.block, a.off + l * size, if isExact a || isRoomy a size then a.spot else none⟩
      some (.slice (some (if mx.isSome then exact b else b)) (h - l) (m - l))
    | none => none
  | .slice none len cap =>
    if len ≤ cap then
      match bounds len cap lo hi mx with
      | some (l, h, m) => some (.slice none (h - l) (m - l))
      | none => none
    else none
  | _ => none

def sliceArr (n size : Nat) (x : Value) (lo hi mx : Option Value) : Option Value :=
  match x with
  | .pointer (some a) =>
    match bounds n n lo hi mx with
    | some (l, h, m) => some (.slice (some (exact (if m = l then a else ⟨a.block, a.off + l * size, none⟩))) (h - l) (m - l))
    | none => none
  | _ => none

def sliceStr (x : Value) (lo hi : Option Value) : Option Value :=
  match x with
  | .string s =>
    match bounds s.size s.size lo hi none with
    | some (l, h, _) => some (.string (s.extract l h))
    | none => none
  | _ => none

def mnx2 (mx : Bool) (x y : Value) : Option Value :=
  match x, y with
  | .int k a, .int _ b => some (.int k (if mx then (if b > a then b else a) else (if b < a then b else a)))
  | _, _ => none
def mnxF (mx : Bool) : Value → List Value → Option Value
  | x, [] => some x
  | x, y :: r => match mnx2 mx x y with
    | some z => mnxF mx z r
    | none => none
def mnxV (mx : Bool) : List Value → Option Value
  | [] => none
  | x :: r => mnxF mx x r

/-- what looks at no memory and makes none -/
def pureOp (F : Fr) (o : COp) : Option Value :=
  match o with
  | .mov x => some (F.eval x)
  | .pick c a b => match F.eval c with
    | .bool true => some (F.eval a)
    | .bool false => some (F.eval b)
    | _ => none
  | .agg z ps => (fillA z (ps.map fun (o, s, x) => (o, s, F.eval x))).map fun cs => .agg ⟨cs⟩
  | .nilck x => match F.eval x with
    | .pointer (some a) => some (.pointer (some a))
    | .func (.func f) a b => some (.func (.func f) a b)
    | .func (.yield f) a b => some (.func (.yield f) a b)
    | .iface t v => some (.iface t v)
    | _ => none
  | .bin op x y => binV op (F.eval x) (F.eval y)
  | .eqb neg x y => match F.eval x, F.eval y with
    | .bool p, .bool q => some (.bool (if neg then !(p == q) else p == q))
    | _, _ => none
  | .eqn k neg c x y => (eqNil k c (F.eval x) (F.eval y)).map fun b => .bool (if neg then !b else b)
  | .eqc neg ks x y => match F.eval x, F.eval y with
    | .agg ⟨xs⟩, .agg ⟨ys⟩ => (cellsEq ks xs ys).map fun b => .bool (if neg then !b else b)
    | _, _ => none
  | .un op x => unV op (F.eval x)
  | .cvi k x => match F.eval x with
    | .int _ n => some (.int k (k.wrap n))
    | _ => none
  | .cvs x => match F.eval x with
    | .string s => some (.string s)
    | _ => none
  | .ifc t x => some (.iface t (F.eval x))
  | .fn f first cap => some (.func (.func f) (first.map F.eval).toArray (cap.map F.eval).toArray)
  | .sl size x lo hi mx => sliceV size (F.eval x) (lo.map F.eval) (hi.map F.eval) (mx.map F.eval)
  | .sla n size x lo hi mx => sliceArr n size (F.eval x) (lo.map F.eval) (hi.map F.eval) (mx.map F.eval)
  | .sls x lo hi => sliceStr (F.eval x) (lo.map F.eval) (hi.map F.eval)
  | .fad x off => match F.eval x with
    | .pointer (some a) => some (.pointer (some ⟨a.block, a.off + off, none⟩))
    | _ => none
  | .fld1 x off => match F.eval x with
    | .agg ⟨cs⟩ => cs[off]?
    | _ => none
  | .fldn x off n => match F.eval x with
    | .agg ⟨cs⟩ => some (.agg ⟨(cs.drop off).take n⟩)
    | _ => none
  | .iad size x i => match F.eval x, F.eval i with
    | .slice (some a) len _, .int _ i => if 0 ≤ i ∧ i < len then some (.pointer (some ⟨a.block, a.off + i.toNat * size, none⟩)) else none
    | _, _ => none
  | .iaa len size x i => match F.eval x, F.eval i with
    | .pointer (some a), .int _ i => if 0 ≤ i ∧ i < len then some (.pointer (some ⟨a.block, a.off + i.toNat * size, none⟩)) else none
    | _, _ => none
  | .ida1 len size x i => match F.eval x, F.eval i with
    | .agg ⟨cs⟩, .int _ i => if 0 ≤ i ∧ i < len then cs[i.toNat * size]? else none
    | _, _ => none
  | .idan len size x i => match F.eval x, F.eval i with
    | .agg ⟨cs⟩, .int _ i => if 0 ≤ i ∧ i < len then some (.agg ⟨(cs.drop (i.toNat * size)).take size⟩) else none
    | _, _ => none
  | .ids x i => match F.eval x, F.eval i with
    | .string s, .int _ i => if 0 ≤ i then (s[i.toNat]?).map fun b => .int .u8 b.toNat else none
    | _, _ => none
  | .ext x i => match F.eval x with
    | .tuple vs => vs[i]?
    | _ => none
  | .lns x => match F.eval x with
    | .string s => some (.int .i64 s.size)
    | _ => none
  | .lnl x => match F.eval x with
    | .slice _ n _ => some (.int .i64 n)
    | _ => none
  | .lnc n => some (.int .i64 n)
  | .cap x => match F.eval x with
    | .slice none _ n => some (.int .i64 n)
    | .slice (some a) _ n => if isExact a then some (.int .i64 n) else none
    | _ => none
  | .mnx mx xs => mnxV mx (xs.map F.eval)
  | .usd x => match F.eval x with
    | .slice (some a) _ c => if 0 < c then some (.pointer (some ⟨a.block, a.off, none⟩)) else none
    | _ => none
  | _ => none

/-! ### Operations on memory -/
def newRow (H : Hp) (cs : List Value) : Value × Hp := (.pointer (some ⟨H.size, 0, none⟩), H.new (.row cs true))

/-- the old cells of a slice that is appended to -/
def oldCells (H : Hp) (size : Nat) (base : Option Addr) (len : Nat) : Option (List Value) :=
  match base with
  | none => if len = 0 then some [] else none
  | some a => if len = 0 then some [] else H.cells? a (len * size)

/-- a row of one's own, whose type is known or is not -/
def mkRow : Option TypeId → List Value → Blk
  | none, c => .row c true
  | some t, c => .trow c t
def appendTo (H : Hp) (size bytes : Nat) (et : Option TypeId) (s : Value) (n : Nat) (new : List Value) : Option (Value × Hp) :=
  match s with
  | .slice base len cap =>
    if n = 0 then (if len ≤ cap then some (s, H) else none) else
    if 2 ^ 47 < (4 * (len + n) + 4096) * bytes then none else
    match oldCells H size base len with
    | none => none
    | some old =>
      match base with
      | none => if cap = 0 then some (.slice (some (roomy ⟨H.size, 0, none⟩ size)) n n, H.new (mkRow et new)) else none
      | some a =>
        if isExact a then
          if cap < len + n then some (.slice (some (roomy ⟨H.size, 0, none⟩ size)) (len + n) (len + n), H.new (mkRow et (old ++ new)))
          else (H.setCells ⟨a.block, a.off + len * size, none⟩ new).map fun H' => (.slice (some a) (len + n) cap, H')
        else if isRoomy a size && Nat.blt 0 cap then
          match H.get a.block with
          | .row _ true => if a.off = 0 then some (.slice (some (roomy ⟨H.size, 0, none⟩ size)) (len + n) (len + n), (H.upd a.block .dead).new (.row (old ++ new) true)) else none
          | .trow _ t => if et = some t ∧ a.off = 0 then some (.slice (some (roomy ⟨H.size, 0, none⟩ size)) (len + n) (len + n), (H.upd a.block .dead).new (.trow (old ++ new) t)) else none
          | _ => none
        else none
  | _ => none

def bytesOfRow : List Value → Option (List UInt8)
  | [] => some []
  | .int .u8 n :: r => (bytesOfRow r).map fun l => UInt8.ofNat n.toNat :: l
  | _ => none

def isByteV : Value → Bool
  | .int .u8 n => decide (0 ≤ n) && decide (n < 256)
  | _ => false

def entries (H : Hp) : Value → Option (Array MapEntry)
  | .map none => some #[]
  | .map (some r) => match H.get r with
    | .map es _ => some es
    | _ => none
  | _ => none

def memOp (F : Fr) (H : Hp) (o : COp) : Option (Value × Hp) :=
  match o with
  | .newz z => some (newRow H z)
  | .box v => some (newRow H (F.eval v).cells.toList)
  | .lits z n ps => (fillA z (ps.map fun (o, s, x) => (o, s, F.eval x))).map fun cs => (.slice (some (exact ⟨H.size, 0, none⟩)) n n, H.new (.row cs true))
  | .ld1 a => match F.eval a with
    | .pointer (some a) => (H.cell? a).map fun v => (v, H)
    | _ => none
  | .ld n a => match F.eval a with
    | .pointer (some a) => (H.cells? a n).map fun cs => (.agg ⟨cs⟩, H)
    | _ => none
  | .st n a v => match F.eval a with
    | .pointer (some a) => if (F.eval v).cells.toList.length = n then (H.setCells a (F.eval v).cells.toList).map fun H' => (undef, H') else none
    | _ => none
  | .cvb x => match F.eval x with
    | .string s => some (.slice (some (roomy ⟨H.size, 0, none⟩ 1)) s.size s.size, H.new (.row (s.data.toList.map fun b => .int .u8 b.toNat) true))
    | _ => none
  | .cvt x => match F.eval x with
    | .slice none _ _ => some (.string .empty, H)
    | .slice (some a) n _ => if n = 0 then some (.string .empty, H) else
      ((H.cells? a n).bind fun cs => bytesOfRow cs).map fun l => (.string ⟨l.toArray⟩, H)
    | _ => none
  | .mkm => some (.map (some H.size), H.new (.map #[] 0))
  | .mks bytes z l c => match F.eval l, F.eval c with
    | .int _ l, .int _ c =>
      if 0 ≤ l ∧ l ≤ c ∧ c ≤ 2 ^ 30 ∧ bytes ≤ 2 ^ 10 then
        some (.slice (some (exact ⟨H.size, 0, none⟩)) l.toNat c.toNat, H.new (.row (zeroCells z c.toNat) true))
      else none
    | _, _ => none
  | .lkp kd z m k ok =>
    match entries H (F.eval m) with
    | none => none
    | some es => match Instr.findNow kd (F.eval k) es.toList 0 with
      | some (some (_, v)) => some (if ok then .tuple #[v, .bool true] else v, H)
      | some none => some (if ok then .tuple #[z, .bool false] else z, H)
      | none => none
  | .mup kd m k v => match F.eval m with
    | .map (some r) => match H.get r with
      | .map es clock =>
        if flat0 (F.eval k) then
          match Instr.findNow kd (F.eval k) es.toList 0 with
          | some (some (i, _)) => some (undef, H.upd r (.map (es.modify i fun e => { e with key := F.eval k, val := F.eval v }) clock))
          | some none => some (undef, H.upd r (.map (es.push { key := F.eval k, val := F.eval v, born := clock }) (clock + 1)))
          | none => none
        else none
      | _ => none
    | _ => none
  | .itr x => match F.eval x with
    | .string s => some (.pointer (some ⟨H.size, 0, none⟩), H.new (.iter s 0))
    | _ => none
  | .nxt x => match F.eval x with
    | .pointer (some ⟨r, 0, _⟩) => match H.get r with
      | .iter s pos =>
        if pos < s.size then some (.tuple #[.bool true, .int .i64 pos, .int .i32 (Utf8.decode s pos).1], H.upd r (.iter s (pos + (Utf8.decode s pos).2)))
        else some (.tuple #[.bool false], H)
      | _ => none
    | _ => none
  | .lnm x => (entries H (F.eval x)).map fun es => (.int .i64 es.size, H)
  | .app size bytes et s x => match F.eval x with
    | .slice none n _ => if n = 0 then appendTo H size bytes et (F.eval s) 0 [] else none
    | .slice (some b) n _ => if n = 0 then appendTo H size bytes et (F.eval s) 0 [] else
      (H.cells? b (n * size)).bind fun new => if new.all oneCell then appendTo H size bytes et (F.eval s) n new else none
    | _ => none
  | .apz bytes z s x => match F.eval s, F.eval x with
    | .slice none 0 0, .int _ i => if 0 < i ∧ i ≤ 2 ^ 30 ∧ bytes ≤ 2 ^ 10 then some (.slice (some (roomy ⟨H.size, 0, none⟩ z.length)) i.toNat i.toNat, H.new (.row (zeroCells z i.toNat) true)) else none
    | _, _ => none
  | .aps et s x => match F.eval x with
    | .string y => appendTo H 1 1 et (F.eval s) y.size (y.data.toList.map fun b => .int .u8 b.toNat)
    | _ => none
  | .newt t z => some (.pointer (some ⟨H.size, 0, none⟩), H.new (.trow z t))
  | .tou x => match F.eval x with
    | .pointer (some a) => match H.get a.block with
      | .trow c _ => if a.off < c.length then some (.pointer (some ⟨a.block, a.off, none⟩), H) else none
      | _ => none
    | _ => none
  | .fru t size x => match F.eval x with
    | .pointer (some a) => match H.get a.block with
      | .trow c t' => if t' = t ∧ a.off = 0 ∧ size ≤ c.length then some (.pointer (some ⟨a.block, 0, none⟩), H) else none
      | _ => none
    | _ => none
  | .ust t x n => match F.eval x, F.eval n with
    | .pointer (some a), .int .i64 n => match H.get a.block with
      | .trow c t' => if t' = t ∧ a.off = 0 ∧ 0 < n ∧ n ≤ c.length ∧ n ≤ 2 ^ 40 ∧ (c.take n.toNat).all isByteV = true then (bytesOfRow (c.take n.toNat)).map fun l => (.string ⟨l.toArray⟩, H.upd a.block .dead) else none
      | _ => none
    | _, _ => none
  | _ => none

/-- does an operation look at no memory, and make none? -/
def COp.isPure : COp → Bool
  | .newz _ | .box _ | .lits .. | .ld1 _ | .ld .. | .st .. | .cvb _ | .cvt _ | .mkm | .mks .. | .lkp .. | .mup .. | .itr _ | .nxt _ | .lnm _ | .app .. | .apz .. | .aps .. | .newt .. | .tou _ | .fru .. | .ust .. | .call .. | .bad => false
  | _ => true

/-! ### The machine -/
structure Oracle where
  cf : FuncId → Array Value → Hp → Option (Value × Hp)
  rd : Nat → Array Value → Hp → Option (Value × Hp)
  ex : CC → Fr → Hp → Option (Ex × Fr × Hp)
  /-- is the function's code at hand? -/
  own : FuncId → Bool

def callV (O : Oracle) (H : Hp) (f : Value) (args : List Value) : Option (Value × Hp) :=
  match f with
  | .func (.func g) first captured => O.cf g (first ++ args.toArray ++ captured) H
  | .func (.yield l) first _ => O.rd l (first ++ args.toArray) H
  | _ => none

def opA (O : Oracle) (F : Fr) (H : Hp) (o : COp) : Option (Value × Hp) :=
  match o with
  | .call f args => callV O H (F.eval f) (args.map F.eval)
  | o => if o.isPure then (pureOp F o).map fun v => (v, H) else memOp F H o

def wanted (F : Fr) (g : Option (Nat × Bool)) : Bool :=
  match g with
  | none => true
  | some (d, want) => match F.get d with
    | .bool b => b == want
    | _ => false

/-- operations in the text's order -/
def opsA (O : Oracle) : List CO → Fr → Hp → Option (Fr × Hp)
  | [], F, H => some (F, H)
  | o :: r, F, H =>
    match wanted F o.guard with
    | true => match opA O F H o.op with
      | some (v, H1) => match F.put o.dst v with
        | some F1 => opsA O r F1 H1
        | none => none
      | none => none
    | false => match F.put o.dst undef with
      | some F1 => opsA O r F1 H
      | none => none

/-- what an operation of a region has done: it has looked at no memory; it may have looked at these blocks alone, and has written at most the one (where that lay there before); it may have looked at any, and has written what lay there, or has not -/
inductive Did where
  | quiet
  | known (t : List Nat) (w : Option Nat)
  | other (w : Bool)
  deriving Inhabited

def blockOf : Value → List Nat
  | .pointer (some a) => [a.block]
  | .slice (some a) _ _ => [a.block]
  | _ => []

/-- the blocks that an operation may look at; none: any -/
def touch (F : Fr) (o : COp) : Option (List Nat) :=
  match o with
  | .newz _ | .newt .. | .box _ | .lits .. | .cvb _ | .mkm | .mks .. | .itr _ | .apz .. => some []
  | .ld1 a | .ld _ a | .st _ a _ => some (blockOf (F.eval a))
  | .app _ _ _ s x => some (blockOf (F.eval s) ++ blockOf (F.eval x))
  | .aps _ s _ => some (blockOf (F.eval s))
  | .tou x | .fru _ _ x | .ust _ x _ => some (blockOf (F.eval x))
  | _ => none

def didOf (F : Fr) (n low : Nat) (o : COp) : Did :=
  if o.isPure then .quiet else
  match touch F o with
  | some t => .known t (if Nat.blt low n then some low else none)
  | none => .other (Nat.blt low n)

def isIn (b : Nat) : List Nat → Bool
  | [] => false
  | c :: r => Nat.beq b c || isIn b r

/-- may they come in either order? -/
def compat : Did → Did → Bool
  | .quiet, _ => true
  | _, .quiet => true
  | .known t w, .known t' w' => (match w with | some b => !isIn b t' | none => true) && (match w' with | some b => !isIn b t | none => true)
  | .known _ none, .other false => true
  | .other false, .known _ none => true
  | .other false, .other false => true
  | _, _ => false

/-- operations that are not ordered may come in either order -/
def apart (un : List (Nat × Nat)) (l : List Did) : Bool :=
  un.all fun (i, j) => match l[i]?, l[j]? with
    | some x, some y => compat x y
    | _, _ => false

/-- a region that draws, in the text's order; what the operations have done -/
def drawA (O : Oracle) : List CO → Fr → Hp → Option (List Did × Fr × Hp)
  | [], F, H => some ([], F, H)
  | o :: r, F, H =>
    match wanted F o.guard with
    | true => match opA O F { tr := H.tr, size := H.size, low := H.size } o.op with
      | some (v, H1) => match F.put o.dst v with
        | some F1 => match drawA O r F1 { tr := H1.tr, size := H1.size, low := Nat.min H.low H1.low } with
          | some (l, F2, H2) => some (didOf F H.size H1.low o.op :: l, F2, H2)
          | none => none
        | none => none
      | none => none
    | false => match F.put o.dst undef with
      | some F1 => match drawA O r F1 H with
        | some (l, F2, H2) => some (.quiet :: l, F2, H2)
        | none => none
      | none => none

def iterA (f : Fr → Hp → Option (Ex × Fr × Hp)) : Nat → Fr → Hp → Option (Ex × Fr × Hp)
  | 0, _, _ => none
  | n + 1, F, H =>
    match f F H with
    | some (.normal, F1, H1) => iterA f n F1 H1
    | r => r

def findL : CC → Nat → Option CC
  | .seq a b, l =>
    match findL a l with
    | some rest => some (.seq rest b)
    | none => findL b l
  | .label l', l => if l' = l then some .skip else none
  | _, _ => none

def scopeA (f : CC → Fr → Hp → Option (Ex × Fr × Hp)) (body : CC) : Nat → CC → Fr → Hp → Option (Ex × Fr × Hp)
  | 0, _, _, _ => none
  | n + 1, c, F, H =>
    match f c F H with
    | some (.goto l, F1, H1) => match findL body l with
      | some rest => scopeA f body n rest F1 H1
      | none => some (.goto l, F1, H1)
    | r => r

def ownV (O : Oracle) : Value → Bool
  | .func (.func g) _ _ => O.own g
  | _ => false

def rangeA (O : Oracle) (f : Value) (ps : List Nat) (as bd : CC) (F : Fr) (H : Hp) : Option (Ex × Fr × Hp) :=
  if F.round || !ownV O f then none else
  match callV O ((H.new .deferred).new (.loop .ready none F ps as bd)) f [.func (.yield (H.size + 1)) #[] #[]] with
  | some (_, H3) =>
    match H3.get (H.size + 1) with
    | .loop st pend F0 ps as bd =>
      if st = .busy then none else
      some (pend.getD .normal, { tr := F.tr, n := F.n, marks := H.size :: F.marks, round := F.round }, H3.upd (H.size + 1) (.loop .exhausted pend F0 ps as bd))
    | _ => none
  | none => none

def exec (O : Oracle) (n : Nat) : CC → Fr → Hp → Option (Ex × Fr × Hp)
  | .skip, F, H => some (.normal, F, H)
  | .label _, F, H => some (.normal, F, H)
  | .ret, F, H => some (.ret, F, H)
  | .exit id, F, H => some (.exit id, F, H)
  | .goto l, F, H => some (.goto l, F, H)
  | .ops l, F, H => match opsA O l F H with
    | some (F1, H1) => some (.normal, F1, H1)
    | none => none
  | .draw l un, F, H => match drawA O l F H with
    | some (d, F1, H1) => if apart un d then some (.normal, F1, H1) else none
    | none => none
  | .seq a b, F, H =>
    match exec O n a F H with
    | some (.normal, F1, H1) => exec O n b F1 H1
    | r => r
  | .cond c a b, F, H =>
    match F.eval c with
    | .bool true => exec O n a F H
    | .bool false => exec O n b F H
    | _ => none
  | .block id c, F, H =>
    match exec O n c F H with
    | some (.exit id', F1, H1) => cond (Nat.beq id' id) (some (.normal, F1, H1)) (some (.exit id', F1, H1))
    | r => r
  | .loop c, F, H => iterA (exec O n c) n F H
  | .scope body, F, H =>
    match exec O n body F H with
    | some (.goto l, F1, H1) => match findL body l with
      | some rest => scopeA O.ex body n rest F1 H1
      | none => some (.goto l, F1, H1)
    | r => r
  | .rangeF f ps as bd, F, H => rangeA O (F.eval f) ps as bd F H
  | .bad, _, _ => none

def killAll (H : Hp) : List Nat → Option Hp
  | [] => some H
  | r :: l => match H.get r with
    | .deferred => killAll (H.upd r .dead) l
    | _ => none

def resultA (F : Fr) (H : Hp) : CR → Option Value
  | .tmp t => some (F.get t)
  | .cell1 t => match F.get t with
    | .pointer (some a) => H.cell? a
    | _ => none
  | .cells t n => match F.get t with
    | .pointer (some a) => (H.cells? a n).map fun cs => .agg ⟨cs⟩
    | _ => none

def resultsA (F : Fr) (H : Hp) : List CR → Option (List Value)
  | [] => some []
  | r :: rs => match resultA F H r, resultsA F H rs with
    | some v, some vs => some (v :: vs)
    | _, _ => none

def tupled : List Value → Value
  | [v] => v
  | vs => .tuple vs.toArray

def leaveA (rs : List CR) (F : Fr) (H : Hp) : Option (Value × Hp) :=
  match killAll H F.marks with
  | some H1 => (resultsA F H1 rs).map fun vs => (tupled vs, H1)
  | none => none

def callBody (O : Oracle) (n : Nat) (cf : CF) (args : Array Value) (H : Hp) : Option (Value × Hp) :=
  if cf.n < args.size then none else
  match exec O n cf.body (Fr.ofArgs args cf.n) H with
  | some (.normal, F1, H1) => leaveA cf.rs F1 H1
  | some (.ret, F1, H1) => leaveA cf.rs F1 H1
  | _ => none

def setParams (F : Fr) : List Nat → List Value → Option Fr
  | [], [] => some F
  | p :: ps, v :: vs => match F.put (some p) v with
    | some F1 => setParams F1 ps vs
    | none => none
  | _, _ => none

def endOf : Ex → LoopState × Option Ex × Bool
  | .normal => (.ready, none, true)
  | e => (.done, some e, false)

def roundBody (O : Oracle) (n : Nat) (l : Nat) (args : Array Value) (H : Hp) : Option (Value × Hp) :=
  match H.get l with
  | .loop .ready _ F0 ps as bd =>
    match setParams { tr := F0.tr, n := F0.n, marks := [], round := true } ps args.toList with
    | none => none
    | some F =>
      match exec O n as F H with
      | some (.normal, F1, H1) =>
        match H1.get l with
        | .loop .ready pend F0 ps as bd' =>
          match exec O n bd F1 (H1.upd l (.loop .busy pend F0 ps as bd')) with
          | some (e, _, H2) =>
            match H2.get l with
            | .loop _ _ F0 ps as bd => some (.bool (endOf e).2.2, H2.upd l (.loop (endOf e).1 (endOf e).2.1 F0 ps as bd))
            | _ => none
          | none => none
        | _ => none
      | _ => none
  | _ => none

structure Env where
  /-- the compiled functions -/
  code : FuncId → Option CF
  /-- functions that are known by contract -/
  prim : FuncId → Array Value → Hp → Option (Value × Hp)

def oracle (E : Env) : Nat → Oracle
  | 0 => ⟨fun _ _ _ => none, fun _ _ _ => none, fun _ _ _ => none, fun _ => false⟩
  | n + 1 =>
    ⟨fun f args H => match E.code f with
      | some cf => callBody (oracle E n) n cf args H
      | none => E.prim f args H,
     fun l args H => roundBody (oracle E n) n l args H,
     fun c F H => exec (oracle E n) n c F H,
     fun f => (E.code f).isSome⟩

/-- a call, with fuel n -/
def call (E : Env) (n : Nat) (f : FuncId) (args : Array Value) (H : Hp) : Option (Value × Hp) := (oracle E n).cf f args H

end Go.Proofs.YtjmohjemgohlpaaGreatDoor.Am

namespace Go.Proofs.YtjmohjemgohlpaaGreatDoor.Am
open Go
/-- where a byte first stands in a list, counted from i on; -1: nowhere -/
def indexByteFrom (c : Int) : List UInt8 → Nat → Int
  | [], _ => -1
  | b :: r, i => if (b.toNat : Int) = c then i else indexByteFrom c r (i + 1)
/-- internal/bytealg.IndexByteString -/
def indexByteString (args : Array Value) (H : Hp) : Option (Value × Hp) :=
  match args with
  | ⟨[.string s, .int .u8 c]⟩ => some (.int .i64 (indexByteFrom c s.data.toList 0), H)
  | _ => none
end Go.Proofs.YtjmohjemgohlpaaGreatDoor.Am

/- The abstract machine: from the model's code to compiled code. -/
namespace Go.Proofs.YtjmohjemgohlpaaGreatDoor.Am
open Go

def tyAgg (P : Program) (t : TypeId) : Option Bool :=
  match P.underlying t with
  | some (.struct _) => some true
  | some (.array _ _) => some true
  | some _ => some false
  | none => none
def tySize (P : Program) (t : TypeId) : Option Nat := (P.info? t).map (·.size)
def notTuple : Value → Bool
  | .tuple _ => false
  | _ => true
def tyZero (P : Program) (t : TypeId) : Option Value :=
  match (P.info? t).bind (·.zero) with
  | some z => if flat z && notTuple z then some z else none
  | none => none

def plainFs (P : Program) (rec : TypeId → Option (List Nat)) : List Field → Nat → Option (List Nat)
  | [], _ => some []
  | f :: r, n =>
    match rec f.type, tySize P f.type, tyAgg P f.type with
    | some ks, some sz, some ag =>
      if f.offset = n ∧ f.name ≠ "_" ∧ sz = ks.length ∧ (ag = false → ks.length = 1) then
        match plainFs P rec r (n + ks.length) with
        | some l => some (ks ++ l)
        | none => none
      else none
    | _, _, _ => none

/-- a type whose values are rows of numbers (0), strings (1) and bools (2), one behind the other -/
def plainTy (P : Program) : Nat → TypeId → Option (List Nat)
  | 0, _ => none
  | d + 1, t =>
    match P.underlying t with
    | some (.int _) => some [0]
    | some .string => some [1]
    | some .bool => some [2]
    | some (.struct fs) => if P.stoodInHeld t then none else plainFs P (plainTy P d) fs.toList 0
    | _ => none

/-- an operand that the abstract machine takes -/
def okOpd (P : Program) : Operand → Bool
  | .const v => flat v
  | .global g => g < P.globals.size
  | _ => true

def places (P : Program) (fs : List Field) : Option (List (Nat × Nat)) :=
  match fs with
  | [] => some []
  | f :: r => match tySize P f.type, places P r with
    | some s, some l => some ((f.offset, s) :: l)
    | _, _ => none

def partsOf (place : Nat → Option (Nat × Nat)) : List (Nat × Operand) → Option (List (Nat × Nat × Operand))
  | [] => some []
  | (i, x) :: r => match place i, partsOf place r with
    | some (o, s), some l => some ((o, s, x) :: l)
    | _, _ => none

def isConst : Operand → Bool
  | .const _ => true
  | _ => false

def plainKey : TypeDesc → Bool
  | .int _ => true
  | .string => true
  | .bool => true
  | _ => false

def compEq (op : BinOp) (k : Nat) (x y : Operand) : Option COp :=
  match op with
  | .eql => some (.eqn k false (isConst x || isConst y) x y)
  | .neq => some (.eqn k true (isConst x || isConst y) x y)
  | _ => none

def compBin (P : Program) (op : BinOp) (t : TypeId) (x y : Operand) : Option COp :=
  match P.underlying t with
  | some (.int _) => some (.bin op x y)
  | some .string => some (.bin op x y)
  | some .bool => match op with
    | .eql => some (.eqb false x y)
    | .neq => some (.eqb true x y)
    | _ => none
  | some (.pointer e) => if (P.info? e).isSome then compEq op 0 x y else none
  | some (.slice _) => compEq op 1 x y
  | some (.map _ _) => compEq op 2 x y
  | some (.func _ _ _) => compEq op 3 x y
  | some (.interface _) => compEq op 4 x y
  | some (.struct _) =>
    match plainTy P 20 t with
    | some ks =>
      if P.eqGuardType P.depth t then none else
      match op with
      | .eql => some (.eqc false ks x y)
      | .neq => some (.eqc true ks x y)
      | _ => none
    | none => none
  | _ => none

def compApp (P : Program) (st xt : TypeId) (s x : Operand) : Option COp :=
  match P.underlying st with
  | some (.slice elem) =>
    match P.info? elem with
    | some i =>
      match tyZero P elem with
      | some z =>
        if i.bytes = 0 ∨ i.size = 0 ∨ z.cells.size ≠ i.size then none else
        match P.underlying xt with
        | some (.slice _) => some (.app i.size i.bytes (if i.size = 1 ∧ i.bytes = 1 then some elem else none) s x)
        | some .string => if i.size = 1 ∧ i.bytes = 1 then some (.aps (some elem) s x) else none
        | some (.int _) => some (.apz i.bytes z.cells.toList s x)
        | _ => none
      | none => none
    | none => none
  | _ => none

def compLen (P : Program) (t : TypeId) (x : Operand) : Option COp :=
  match P.underlying t with
  | some .string => some (.lns x)
  | some (.slice _) => some (.lnl x)
  | some (.array n _) => some (.lnc n)
  | some (.map _ _) => some (.lnm x)
  | _ => none

def compCall (P : Program) (c : Call) : Option COp :=
  match c.callee with
  | .value f => some (.call f c.args.toList)
  | .invoke _ _ => none
  | .builtin b =>
    match b, c.args.toList, c.argTypes.toList with
    | .append, [s, x], [st, xt] => compApp P st xt s x
    | .len, [x], [t] => compLen P t x
    | .cap, [x], [t] => match P.underlying t with
      | some (.slice _) => some (.cap x)
      | _ => none
    | .min, xs, _ => some (.mnx false xs)
    | .max, xs, _ => some (.mnx true xs)
    | .unsafeSliceData, [x], _ => some (.usd x)
    | .unsafeString, [x, n], [pt, _] => match P.underlying pt with
      | some (.pointer e) => if P.cellsOf e = 1 then some (.ust e x n) else none
      | _ => none
    | _, _, _ => none

def compField (P : Program) (t : TypeId) (i : Nat) : Option (Field × Nat × Bool) :=
  match P.underlying t with
  | some (.struct fs) => match fs[i]? with
    | some f => match tySize P f.type, tyAgg P f.type with
      | some s, some b => some (f, s, b)
      | _, _ => none
    | none => none
  | _ => none

def compConv (P : Program) (src dst : TypeId) (x : Operand) : Option COp :=
  match P.underlying src, P.underlying dst with
  | some (.int _), some (.int k) => some (.cvi k x)
  | some .string, some .string => some (.cvs x)
  | some .string, some (.slice e) => match P.underlying e with
    | some (.int .u8) => some (.cvb x)
    | _ => none
  | some (.slice e), some .string => match P.underlying e with
    | some (.int .u8) => some (.cvt x)
    | _ => none
  | some (.pointer t), some .unsafePointer => match P.info? t with
    | some j => if j.size = 0 then none else some (.tou x)
    | none => none
  | some .unsafePointer, some (.pointer u) => match P.info? u with
    | some j => if j.size = 0 then none else some (.fru u j.size x)
    | none => none
  | _, _ => none

def compSlice (P : Program) (t : TypeId) (x : Operand) (lo hi mx : Option Operand) : Option COp :=
  match P.underlying t with
  | some .string => if mx.isSome then none else some (.sls x lo hi)
  | some (.slice e) => (tySize P e).map fun s => .sl s x lo hi mx
  | some (.array n e) => (tySize P e).map fun s => .sla n s x lo hi mx
  | _ => none

/-- a struct whose first field points to one like itself (as strings.Builder) -/
def selfPtr (P : Program) (t : TypeId) : Bool :=
  match P.underlying t with
  | some (.struct fs) => match fs[0]? with
    | some f => match P.underlying f.type with
      | some (.pointer u) => u == t
      | _ => false
    | none => false
  | _ => false
def compOp1 (P : Program) (op : Op) : Option COp :=
  match op with
  | .move x => some (.mov x)
  | .assign x => some (.mov x)
  | .pick c a b => some (.pick c a b)
  | .alloc t => (tyZero P t).map fun z => if selfPtr P t then .newt t z.cells.toList else .newz z.cells.toList
  | .box _ v => some (.box v)
  | .build t ps =>
    match tyZero P t, P.underlying t with
    | some z, some (.struct fs) => match places P fs.toList with
      | some pl => (partsOf (fun i => pl[i]?) ps.toList).map fun ps => .agg z.cells.toList ps
      | none => none
    | some z, some (.array _ e) => match tySize P e with
      | some s => (partsOf (fun i => some (i * s, s)) ps.toList).map fun ps => .agg z.cells.toList ps
      | none => none
    | _, _ => none
  | .buildSlice t n ps =>
    match P.underlying t with
    | some (.slice e) => match tySize P e, tyZero P e with
      | some s, some z => if n * s ≤ 2 ^ 24 ∧ 0 < s ∧ z.cells.size = s then
          (partsOf (fun i => some (i * s, s)) ps.toList).map fun ps => .lits (zeroCells z.cells.toList n) n ps else none
      | _, _ => none
    | _ => none
  | .load t a => match tyAgg P t, tySize P t with
    | some true, some n => some (.ld n a)
    | some false, some _ => some (.ld1 a)
    | _, _ => none
  | .store t a v => (tySize P t).map fun n => .st n a v
  | .nilCheck x => some (.nilck x)
  | .binOp op t x y _ => compBin P op t x y
  | .unOp op _ x => some (.un op x)
  | .convert s d x => compConv P s d x
  | .makeInterface t x => match P.underlying t with
    | some (.interface _) => none
    | some _ => some (.ifc t x)
    | none => none
  | .makeFunc (.func f) first cap => some (.fn f first.toList cap.toList)
  | .makeMap _ none => some .mkm
  | .makeSlice t l c => match P.underlying t with
    | some (.slice e) => match P.info? e, tyZero P e with
      | some i, some z => if z.cells.size = i.size ∧ 0 < i.size then some (.mks i.bytes z.cells.toList l c) else none
      | _, _ => none
    | _ => none
  | .slice t x lo hi mx => compSlice P t x lo hi mx
  | .fieldAddr t x i => match compField P t i with
    | some (f, s, _) => if s = 0 then none else some (.fad x f.offset)
    | none => none
  | .field t x i => match compField P t i with
    | some (f, s, b) => if b then some (.fldn x f.offset s) else some (.fld1 x f.offset)
    | none => none
  | .indexAddr t x i => match P.underlying t with
    | some (.slice e) => (tySize P e).map fun s => .iad s x i
    | some (.array n e) => (tySize P e).map fun s => .iaa n s x i
    | _ => none
  | .index t x i => match P.underlying t with
    | some .string => some (.ids x i)
    | some (.array n e) => match tySize P e, tyAgg P e with
      | some s, some true => some (.idan n s x i)
      | some s, some false => some (.ida1 n s x i)
      | _, _ => none
    | _ => none
  | .lookup t m k ok => match P.underlying t with
    | some (.map kt et) => match P.underlying kt, tyZero P et with
      | some kd, some z => if plainKey kd then some (.lkp kd z m k ok) else none
      | _, _ => none
    | _ => none
  | .mapUpdate t m k v => match P.underlying t with
    | some (.map kt _) => match P.underlying kt with
      | some kd => if plainKey kd then some (.mup kd m k v) else none
      | _ => none
    | _ => none
  | .insert t m k v => match P.underlying t with
    | some (.map kt _) => match P.underlying kt with
      | some kd => if plainKey kd then some (.mup kd m k v) else none
      | _ => none
    | _ => none
  | .range t x => match P.underlying t with
    | some .string => some (.itr x)
    | _ => none
  | .next x true => some (.nxt x)
  | .extract x i => some (.ext x i)
  | .call c => compCall P c
  | _ => none

/-- the operands that an operation has are values without an address, where they are constants -/
def compOp (P : Program) (o : Oper) : Option COp := if o.op.operands.all (okOpd P) then compOp1 P o.op else none

def compCO (P : Program) (ops : Array Oper) (o : Oper) : Option CO :=
  match (compOp P o).getD .bad with
  | c =>
    match o.guard with
    | none => some { dst := o.dst, guard := none, op := c }
    | some (j, b) => match (ops[j]?).bind (·.dst) with
      | some d => some { dst := o.dst, guard := some (d, b), op := c }
      | none => none

def compOps (P : Program) (ops : Array Oper) : List Oper → Option (List CO)
  | [] => some []
  | o :: r => match compCO P ops o, compOps P ops r with
    | some c, some l => some (c :: l)
    | _, _ => none

/-- the pairs i < j that are not ordered -/
def unordered (ops : Array Oper) : List (Nat × Nat) :=
  let b := Region.before ops
  (List.range ops.size).flatMap fun j => (List.range j).filterMap fun i => if (b.getD j 0).testBit i then none else some (i, j)

/-- is i before j, or j before i, or are they one? -/
def ordered (b : Array Nat) (i j : Nat) : Bool := i == j || (b.getD (max i j) 0).testBit (min i j)

/-- edges lead back; who writes a temporary is ordered with all who name it -/
def ordOk (ops : Array Oper) : Bool :=
  let b := Region.before ops
  ops.toList.zipIdx.all fun (o, j) =>
    o.after.all (fun e => !Region.binds .any e || e.on < j) &&
    ops.toList.zipIdx.all fun (o', i) =>
      match o'.dst with
      | some d => ordered b i j || !(o.dst == some d || (o.looksAt ops).contains d)
      | none => true

def comp (P : Program) : Code → Option CC
  | .skip => some .skip
  | .region _ ops false => (compOps P ops ops.toList).map .ops
  | .region _ ops true => if ordOk ops then (compOps P ops ops.toList).map fun l => .draw l (unordered ops) else none
  | .seq a b => match comp P a, comp P b with
    | some a, some b => some (.seq a b)
    | _, _ => none
  | .cond c a b => match okOpd P c, comp P a, comp P b with
    | true, some a, some b => some (.cond c a b)
    | _, _, _ => none
  | .block id c => (comp P c).map fun c => .block id c
  | .loop c => (comp P c).map .loop
  | .rangeFunc f ps as bd => match okOpd P f, comp P as, comp P bd with
    | true, some as, some bd => some (.rangeF f ps.toList as bd)
    | _, _, _ => none
  | .exit id => some (.exit id)
  | .scope c => (comp P c).map .scope
  | .label l => some (.label l)
  | .goto l => some (.goto l)
  | .ret => some .ret
  | .refuse _ => some .bad

def compR (P : Program) : ResultVar → Option CR
  | .tmp t => some (.tmp t)
  | .cell a t => match tyAgg P t, tySize P t with
    | some true, some n => some (.cells a n)
    | some false, some _ => some (.cell1 a)
    | _, _ => none
def compRs (P : Program) : List ResultVar → Option (List CR)
  | [] => some []
  | r :: rs => match compR P r, compRs P rs with
    | some r, some rs => some (r :: rs)
    | _, _ => none

def compF (P : Program) (fn : Func) : Option CF :=
  match fn.body with
  | none => none
  | some c => if fn.name == "runtime.NumGoroutine" then none else match comp P c, compRs P fn.results.toList with
    | some c, some rs => some { n := fn.ntmps, rs := rs, body := c }
    | _, _ => none

/-- compiled from the program as it is wanted -/
def envOf (P : Program) (prim : FuncId → Array Value → Hp → Option (Value × Hp)) : Env :=
  { code := fun f => (P.funcs[f]?).bind (compF P), prim := prim }

end Go.Proofs.YtjmohjemgohlpaaGreatDoor.Am

namespace Go.Proofs.YtjmohjemgohlpaaGreatDoor.Am
open Go
/-- what a computation comes to that neither reads nor writes memory, draws nothing, asks the program alone -/
def still {α : Type} (P : Program) : Sem α → Option α
  | .pure a => some a
  | .program k => still P (k P)
  | .mark _ k => still P k
  | _ => none

/-- functions without a body, at values without an address -/
def externP (P : Program) (f : FuncId) (args : Array Value) (H : Hp) : Option (Value × Hp) :=
  match P.funcs[f]? with
  | none => none
  | some fn =>
    if fn.body.isNone && args.all flat then
      match still P (Go.callFunc f args) with
      | some (.value v) => if flat v then some (v, H) else none
      | _ => none
    else none
end Go.Proofs.YtjmohjemgohlpaaGreatDoor.Am

/- The compiler of the program's code once more, for regions of many operations, as the kernel runs it fast: what is before what is handed in, and looked at. By an AI agent. No person has read it. -/
namespace Go.Proofs.YtjmohjemgohlpaaGreatDoor.Am
open Go

/-- what is before an operation, by the list of what is before those ahead of it; none: an edge leads on -/
def befOne (B : List Nat) (j : Nat) : List Edge → Nat → Option Nat
  | [], acc => some acc
  | e :: es, acc => cond (Region.binds .any e) (cond (Nat.blt e.on j) (befOne B j es (acc ||| 2 ^ e.on ||| B.getD e.on 0)) none) (befOne B j es acc)
def befChk (B : List Nat) : List Oper → List Nat → Nat → Bool
  | [], [], _ => true
  | o :: os, b :: bs, j => match befOne B j o.after.toList 0 with
    | some x => cond (Nat.beq x b) (befChk B os bs (j + 1)) false
    | none => false
  | _, _, _ => false

theorem befOne_eq {B : List Nat} {j : Nat} {acc : Array Nat} (hacc : ∀ i, i < j → acc.getD i 0 = B.getD i 0) : ∀ (es : List Edge) (s x : Nat), befOne B j es s = some x →
    es.foldl (fun s e => if Region.binds .any e then s ||| 2 ^ e.on ||| acc.getD e.on 0 else s) s = x ∧ ∀ e ∈ es, Region.binds .any e = true → e.on < j := by
  intro es
  induction es with
  | nil => intro s x h; cases h; exact ⟨rfl, fun _ h => by cases h⟩
  | cons e es ih =>
    intro s x h
    simp only [befOne] at h
    cases hb : Region.binds .any e with
    | false =>
      rw [hb] at h
      obtain ⟨h1, h2⟩ := ih _ _ h
      refine ⟨by simpa [hb] using h1, fun e' he' hb' => ?_⟩
      rcases List.mem_cons.1 he' with rfl | h3
      · rw [hb] at hb'; cases hb'
      · exact h2 _ h3 hb'
    | true =>
      rw [hb] at h
      cases hl : Nat.blt e.on j with
      | false => rw [hl] at h; cases h
      | true =>
        rw [hl] at h
        have hlt : e.on < j := by rw [Nat.blt_eq] at hl; exact hl
        obtain ⟨h1, h2⟩ := ih _ _ h
        refine ⟨by simp only [List.foldl_cons, hb, if_true, hacc _ hlt]; exact h1, fun e' he' hb' => ?_⟩
        rcases List.mem_cons.1 he' with rfl | h3
        · exact hlt
        · exact h2 _ h3 hb'
theorem befChk_eq {B : List Nat} : ∀ (os : List Oper) (bs pre : List Nat), befChk B os bs pre.length = true → pre ++ bs = B →
    os.foldl (fun acc o => acc.push (o.after.foldl (fun s e => if Region.binds .any e then s ||| 2 ^ e.on ||| acc.getD e.on 0 else s) 0)) pre.toArray = B.toArray ∧
    (∀ (k : Nat) o, os[k]? = some o → ∀ e ∈ o.after.toList, Region.binds .any e = true → e.on < pre.length + k) ∧ os.length = bs.length := by
  intro os
  induction os with
  | nil =>
    intro bs pre h hB
    cases bs with
    | nil => exact ⟨by rw [← hB]; simp, fun k o hk => by simp at hk, rfl⟩
    | cons b bs => cases h
  | cons o os ih =>
    intro bs pre h hB
    cases bs with
    | nil => cases h
    | cons b bs =>
      simp only [befChk] at h
      split at h
      · rename_i x hx
        cases hb : Nat.beq x b with
        | false => rw [hb] at h; cases h
        | true =>
          rw [hb] at h
          have : x = b := Nat.eq_of_beq_eq_true hb
          subst this
          have hacc : ∀ i, i < pre.length → pre.toArray.getD i 0 = B.getD i 0 := by
            intro i hi
            rw [← hB]
            simp [Array.getD, hi, List.getD, List.getElem?_append_left hi]
          obtain ⟨h1, h2⟩ := befOne_eq hacc _ _ _ hx
          have hl : (pre ++ [x]).length = pre.length + 1 := by simp
          obtain ⟨h3, h4, h5⟩ := ih bs (pre ++ [x]) (by rw [hl]; exact h) (by rw [← hB]; simp)
          refine ⟨?_, fun k o' hk => ?_, by simp [h5]⟩
          · rw [List.foldl_cons, ← Array.foldl_toList, h1, ← h3]
            congr 1
            simp
          · cases k with
            | zero => simp at hk; subst hk; exact h2
            | succ k =>
              have := h4 k o' (by simpa using hk)
              rw [hl] at this
              intro e he hb
              have := this e he hb
              omega
      · cases h
theorem before_eq {B : List Nat} {ops : Array Oper} (h : befChk B ops.toList B 0 = true) : Region.before ops = B.toArray ∧ (∀ (k : Nat) o, ops[k]? = some o → ∀ e ∈ o.after.toList, Region.binds .any e = true → e.on < k) ∧ ops.size = B.length := by
  obtain ⟨h1, h2, h3⟩ := befChk_eq ops.toList B [] h rfl
  refine ⟨?_, fun k o hk => by have := h2 k o (by simpa using hk); simpa using this, by simpa using h3⟩
  rw [← h1]
  unfold Region.before
  rw [← Array.foldl_toList]

/-- operations that write t are ordered with j -/
def scanT (t j bj : Nat) : List Oper → List Nat → Nat → Bool
  | o :: os, b :: bs, i => match o.dst with
    | some d => cond (Nat.beq d t) (cond (Nat.beq i j || cond (Nat.blt i j) (bj.testBit i) (b.testBit j)) (scanT t j bj os bs (i + 1)) false) (scanT t j bj os bs (i + 1))
    | none => scanT t j bj os bs (i + 1)
  | _, _, _ => true
def scanTs (ops : List Oper) (B : List Nat) (j bj : Nat) : List Tmp → Bool
  | [] => true
  | t :: ts => cond (scanT t j bj ops B 0) (scanTs ops B j bj ts) false
def scanD (ops : List Oper) (B : List Nat) (j bj : Nat) : Option Tmp → Bool
  | none => true
  | some t => scanT t j bj ops B 0
def scanAll (A : Array Oper) (ops : List Oper) (B : List Nat) : List Oper → List Nat → Nat → Bool
  | o :: os, b :: bs, j => cond (scanTs ops B j b (o.looksAt A)) (cond (scanD ops B j b o.dst) (scanAll A ops B os bs (j + 1)) false) false
  | _, _, _ => true
theorem scanT_ok {t j bj : Nat} : ∀ {os : List Oper} {bs : List Nat} {n : Nat}, os.length = bs.length → scanT t j bj os bs n = true → ∀ (k : Nat) o b, os[k]? = some o → bs[k]? = some b → o.dst = some t → n + k = j ∨ (n + k < j ∧ bj.testBit (n + k) = true) ∨ (j < n + k ∧ b.testBit j = true) := by
  intro os
  induction os with
  | nil => intro bs n _ _ k o b hk; simp at hk
  | cons o os ih =>
    intro bs n hl h k o' b' hk hb hd
    cases bs with
    | nil => simp at hb
    | cons b bs =>
      have hl' : os.length = bs.length := by simpa using hl
      have hrest : scanT t j bj os bs (n + 1) = true := by
        simp only [scanT] at h
        split at h
        · rename_i d _
          cases hdt : Nat.beq d t with
          | false => rw [hdt] at h; exact h
          | true =>
            rw [hdt] at h
            simp only [cond] at h
            split at h
            · exact h
            · cases h
        · exact h
      cases k with
      | succ k =>
        have := ih hl' hrest k o' b' (by simpa using hk) (by simpa using hb) hd
        rw [show n + (k + 1) = n + 1 + k by omega]; exact this
      | zero =>
        simp at hk hb
        subst hk hb
        simp only [scanT, hd, show Nat.beq t t = true from Nat.beq_refl t, cond] at h
        split at h
        · rename_i hc
          rw [Bool.or_eq_true] at hc
          rcases hc with hc | hc
          · exact .inl (Nat.eq_of_beq_eq_true hc)
          · split at hc
            · rename_i hlt
              rw [Nat.blt_eq] at hlt
              exact .inr (.inl ⟨hlt, hc⟩)
            · rename_i hlt
              have hge : ¬ n < j := fun h => by
                rw [show Nat.blt n j = true by rw [Nat.blt_eq]; exact h] at hlt
                cases hlt
              rcases Nat.lt_or_eq_of_le (Nat.le_of_not_lt hge) with h1 | h1
              · exact .inr (.inr ⟨h1, hc⟩)
              · exact .inl h1.symm
        · cases h
theorem scanTs_ok {ops : List Oper} {B : List Nat} {j bj : Nat} : ∀ {ts : List Tmp}, scanTs ops B j bj ts = true → ∀ t ∈ ts, scanT t j bj ops B 0 = true := by
  intro ts
  induction ts with
  | nil => intro _ t ht; cases ht
  | cons x ts ih =>
    intro h t ht
    simp only [scanTs] at h
    cases hx : scanT x j bj ops B 0 with
    | false => rw [hx] at h; cases h
    | true =>
      rw [hx] at h
      rcases List.mem_cons.1 ht with rfl | h1
      · exact hx
      · exact ih h t h1
theorem scanAll_ok {A : Array Oper} {ops : List Oper} {B : List Nat} : ∀ {os : List Oper} {bs : List Nat} {n : Nat}, os.length = bs.length → scanAll A ops B os bs n = true → ∀ (k : Nat) o b, os[k]? = some o → bs[k]? = some b →
    (∀ t ∈ o.looksAt A, scanT t (n + k) b ops B 0 = true) ∧ (∀ t, o.dst = some t → scanT t (n + k) b ops B 0 = true) := by
  intro os
  induction os with
  | nil => intro bs n _ _ k o b hk; simp at hk
  | cons o os ih =>
    intro bs n hl h k o' b' hk hb
    cases bs with
    | nil => simp at hb
    | cons b bs =>
      have hl' : os.length = bs.length := by simpa using hl
      simp only [scanAll] at h
      cases h1 : scanTs ops B n b (o.looksAt A) with
      | false => rw [h1] at h; cases h
      | true =>
        rw [h1] at h
        cases h2 : scanD ops B n b o.dst with
        | false => rw [h2] at h; cases h
        | true =>
          rw [h2] at h
          cases k with
          | succ k =>
            have := ih hl' h k o' b' (by simpa using hk) (by simpa using hb)
            rw [show n + (k + 1) = n + 1 + k by omega]; exact this
          | zero =>
            simp at hk hb
            subst hk hb
            refine ⟨scanTs_ok h1, fun t ht => ?_⟩
            rw [ht] at h2; exact h2
/-- the region's order is as it must be -/
def fordOk (B : List Nat) (ops : Array Oper) : Bool := cond (befChk B ops.toList B 0) (scanAll ops ops.toList B ops.toList B 0) false
theorem fordOk_ok {B : List Nat} {ops : Array Oper} (h : fordOk B ops = true) : ordOk ops = true ∧ Region.before ops = B.toArray ∧ ops.size = B.length := by
  unfold fordOk at h
  cases hb : befChk B ops.toList B 0 with
  | false => rw [hb] at h; cases h
  | true =>
    rw [hb] at h
    obtain ⟨e1, e2, e3⟩ := before_eq hb
    refine ⟨?_, e1, e3⟩
    unfold ordOk
    rw [e1]
    simp only [List.all_eq_true, Bool.and_eq_true]
    rintro ⟨o, j⟩ hoj
    rw [List.mem_zipIdx_iff_getElem?] at hoj
    have hl : ops.toList.length = B.length := by simpa using e3
    have hjB : j < B.length := by rw [← hl]; exact (List.getElem?_eq_some_iff.1 hoj).1
    obtain ⟨s1, s2⟩ := scanAll_ok hl h j o B[j] hoj (by simp [hjB])
    rw [Nat.zero_add] at s1 s2
    refine ⟨?_, ?_⟩
    · rw [Array.all_eq_true_iff_forall_mem]
      intro e he
      have := e2 j o (by simpa using hoj) e (by simpa using he)
      cases hbi : Region.binds .any e with
      | false => rfl
      | true => simp [this hbi]
    · rintro ⟨o', i⟩ hoi
      rw [List.mem_zipIdx_iff_getElem?] at hoi
      have hiB : i < B.length := by rw [← hl]; exact (List.getElem?_eq_some_iff.1 hoi).1
      show (match o'.dst with
        | some d => ordered B.toArray i j || !(o.dst == some d || (o.looksAt ops).contains d)
        | none => true) = true
      split
      · rename_i d hd
        cases hc : (o.dst == some d || (o.looksAt ops).contains d) with
        | false => simp
        | true =>
          have hs : scanT d j B[j] ops.toList B 0 = true := by
            rw [Bool.or_eq_true] at hc
            rcases hc with hc | hc
            · exact s2 d (by simpa using hc)
            · exact s1 d (by simpa using hc)
          have := scanT_ok hl hs i o' B[i] hoi (by simp [hiB]) hd
          rw [Nat.zero_add] at this
          have ho : ordered B.toArray i j = true := by
            unfold ordered
            rw [Bool.or_eq_true]
            rcases this with h1 | ⟨h1, h2⟩ | ⟨h1, h2⟩
            · left; simpa using h1
            · right
              rw [Nat.max_eq_right (Nat.le_of_lt h1), Nat.min_eq_left (Nat.le_of_lt h1)]
              simpa [Array.getD, hjB] using h2
            · right
              rw [Nat.max_eq_left (Nat.le_of_lt h1), Nat.min_eq_right (Nat.le_of_lt h1)]
              simpa [Array.getD, hiB] using h2
          simp [ho]
      · rfl

/-- the pairs that are not ordered -/
def unordRow (b j : Nat) : Nat → List (Nat × Nat) → List (Nat × Nat)
  | 0, k => k
  | i + 1, k => unordRow b j i (cond (b.testBit i) k ((i, j) :: k))
def unordB : List Nat → Nat → List (Nat × Nat)
  | [], _ => []
  | b :: bs, j => unordRow b j j (unordB bs (j + 1))
theorem unordRow_eq (b j : Nat) : ∀ (n : Nat) (k : List (Nat × Nat)), unordRow b j n k = ((List.range n).filterMap fun i => if b.testBit i then none else some (i, j)) ++ k := by
  intro n
  induction n with
  | zero => intro k; rfl
  | succ n ih =>
    intro k
    rw [unordRow, ih, List.range_succ, List.filterMap_append]
    cases hb : b.testBit n <;> simp [hb]
theorem unordB_eq : ∀ (bs pre : List Nat), unordB bs pre.length = (List.range' pre.length bs.length).flatMap fun j => (List.range j).filterMap fun i => if ((pre ++ bs).toArray.getD j 0).testBit i then none else some (i, j) := by
  intro bs
  induction bs with
  | nil => intro pre; rfl
  | cons b bs ih =>
    intro pre
    rw [unordB, unordRow_eq]
    have hl : (pre ++ [b]).length = pre.length + 1 := by simp
    have := ih (pre ++ [b])
    rw [hl] at this
    rw [this, List.length_cons, List.range'_succ, List.flatMap_cons]
    congr 1
    · congr 1
      funext i
      have : (pre ++ b :: bs).toArray.getD pre.length 0 = b := by simp [Array.getD]
      rw [this]
    · congr 1
      funext j
      rw [List.append_assoc]; rfl
theorem unordB_ok {B : List Nat} {ops : Array Oper} (h : Region.before ops = B.toArray) (hl : ops.size = B.length) : unordered ops = unordB B 0 := by
  have := unordB_eq B []
  unfold unordered
  rw [show ([] : List Nat).length = 0 from rfl] at this
  rw [this, h, hl, List.range_eq_range']
  rfl

def blook : List (Nat × List Nat) → Nat → Option (List Nat)
  | [], _ => none
  | (k, b) :: r, i => cond (Nat.beq k i) (some b) (blook r i)
def fcomp (P : Program) (bs : List (Nat × List Nat)) : Code → Option CC
  | .region id ops true => match blook bs id with
    | some B => cond (fordOk B ops) ((compOps P ops ops.toList).map fun l => .draw l (unordB B 0)) none
    | none => comp P (.region id ops true)
  | .seq a b => match fcomp P bs a, fcomp P bs b with
    | some a, some b => some (.seq a b)
    | _, _ => none
  | .cond c a b => match okOpd P c, fcomp P bs a, fcomp P bs b with
    | true, some a, some b => some (.cond c a b)
    | _, _, _ => none
  | .block id c => (fcomp P bs c).map fun c => .block id c
  | c => comp P c
theorem fcomp_ok {P : Program} {bs : List (Nat × List Nat)} : ∀ (c : Code) {cc : CC}, fcomp P bs c = some cc → comp P c = some cc := by
  intro c
  induction c with
  | region id ops dr =>
    intro cc h
    cases dr with
    | false => exact h
    | true =>
      simp only [fcomp] at h
      split at h
      · rename_i B hB
        cases ho : fordOk B ops with
        | false => rw [ho] at h; cases h
        | true =>
          rw [ho] at h
          obtain ⟨h1, h2, h3⟩ := fordOk_ok ho
          simp only [comp, h1, if_true, unordB_ok h2 h3]
          exact h
      · exact h
  | seq a b iha ihb =>
    intro cc h
    simp only [fcomp] at h
    split at h
    · rename_i x y hx hy
      cases h
      simp only [comp, iha hx, ihb hy]
    · cases h
  | cond c a b iha ihb =>
    intro cc h
    simp only [fcomp] at h
    split at h
    · rename_i x y hc hx hy
      cases h
      simp only [comp, hc, iha hx, ihb hy]
    · cases h
  | block id a ih =>
    intro cc h
    simp only [fcomp, Option.map_eq_some_iff] at h
    obtain ⟨x, hx, rfl⟩ := h
    simp only [comp, ih hx, Option.map_some]
  | _ => intro cc h; exact h
def fcompF (P : Program) (bs : List (Nat × List Nat)) (fn : Func) : Option CF :=
  match fn.body with
  | none => none
  | some c => if fn.name == "runtime.NumGoroutine" then none else match fcomp P bs c, compRs P fn.results.toList with
    | some c, some rs => some { n := fn.ntmps, rs := rs, body := c }
    | _, _ => none
theorem fcompF_ok {P : Program} {bs : List (Nat × List Nat)} {fn : Func} {cf : CF} (h : fcompF P bs fn = some cf) : compF P fn = some cf := by
  unfold fcompF at h
  unfold compF
  split at h
  · cases h
  · rename_i c hc
    split at h
    · cases h
    · rename_i hn
      split at h
      · rename_i x rs hx hr
        cases h
        simp only [hc, if_neg hn, fcomp_ok c hx, hr]
      · cases h
end Go.Proofs.YtjmohjemgohlpaaGreatDoor.Am

/- The abstract machine: laws of tries; what abstract values, frames and memory say of the model's. -/
namespace Go.Proofs.YtjmohjemgohlpaaGreatDoor.Am
open Go

/-! ### Tries -/
section tries
variable {α : Type}
theorem Tr.get_setF_same (x : α) : ∀ (k : Nat) (t : Tr α) (n : Nat), n < k → (Tr.setF x k t n).get n = some x := by
  intro k
  induction k with
  | zero => intro t n h; omega
  | succ k ih =>
    intro t n h
    by_cases h0 : n = 0
    · subst h0
      cases t <;> simp [Tr.setF, Tr.get]
    · have hb : Nat.beq n 0 = false := by cases n with | zero => exact absurd rfl h0 | succ n => rfl
      by_cases h1 : n % 2 = 1
      · have hc : Nat.beq (n % 2) 1 = true := by rw [h1]; rfl
        cases t <;> simp [Tr.setF, Tr.get, hb, hc, ih _ (n / 2) (by omega)]
      · have hc : Nat.beq (n % 2) 1 = false := by have : n % 2 = 0 := by omega
                                                  rw [this]; rfl
        cases t <;> simp [Tr.setF, Tr.get, hb, hc, ih _ (n / 2 - 1) (by omega)]

theorem Tr.get_setF_ne (x : α) : ∀ (k : Nat) (t : Tr α) (n m : Nat), m ≠ n → (Tr.setF x k t n).get m = t.get m := by
  intro k
  induction k with
  | zero => intro t n m h; rfl
  | succ k ih =>
    intro t n m h
    have hb : ∀ a b : Nat, Nat.beq a b = decide (a = b) := fun a b => by
      by_cases e : a = b
      · simp [e, Nat.beq_refl]
      · simp only [e, decide_false]; cases hx : Nat.beq a b with
        | false => rfl
        | true => exact absurd (Nat.eq_of_beq_eq_true hx) e
    have leafget : ∀ m, (Tr.leaf : Tr α).get m = none := fun _ => rfl
    by_cases h0 : n = 0
    · subst h0
      have hm : Nat.beq m 0 = false := by rw [hb]; simpa using h
      cases t <;> simp [Tr.setF, Tr.get, hm]
    · have hb0 : Nat.beq n 0 = false := by rw [hb]; simpa using h0
      by_cases h1 : n % 2 = 1
      · have hc : Nat.beq (n % 2) 1 = true := by rw [h1]; rfl
        by_cases m0 : m = 0
        · subst m0; cases t <;> simp [Tr.setF, Tr.get, hb0, hc]
        · have hm0 : Nat.beq m 0 = false := by rw [hb]; simpa using m0
          by_cases m1 : m % 2 = 1
          · have hmc : Nat.beq (m % 2) 1 = true := by rw [m1]; rfl
            have hne : m / 2 ≠ n / 2 := by omega
            cases t <;> simp [Tr.setF, Tr.get, hb0, hc, hm0, hmc, ih _ _ _ hne]
          · have hmc : Nat.beq (m % 2) 1 = false := by rw [hb]; simpa using m1
            cases t <;> simp [Tr.setF, Tr.get, hb0, hc, hm0, hmc]
      · have hc : Nat.beq (n % 2) 1 = false := by rw [hb]; simpa using h1
        by_cases m0 : m = 0
        · subst m0; cases t <;> simp [Tr.setF, Tr.get, hb0, hc]
        · have hm0 : Nat.beq m 0 = false := by rw [hb]; simpa using m0
          by_cases m1 : m % 2 = 1
          · have hmc : Nat.beq (m % 2) 1 = true := by rw [m1]; rfl
            cases t <;> simp [Tr.setF, Tr.get, hb0, hc, hm0, hmc]
          · have hmc : Nat.beq (m % 2) 1 = false := by rw [hb]; simpa using m1
            have hne : m / 2 - 1 ≠ n / 2 - 1 := by omega
            cases t <;> simp [Tr.setF, Tr.get, hb0, hc, hm0, hmc, ih _ _ _ hne]

theorem Tr.get_set_same (t : Tr α) (n : Nat) (x : α) : (t.set n x).get n = some x := Tr.get_setF_same x _ _ _ (by omega)
theorem Tr.get_set_ne (t : Tr α) {n m : Nat} (x : α) (h : m ≠ n) : (t.set n x).get m = t.get m := Tr.get_setF_ne x _ _ _ _ h
theorem Tr.get_set (t : Tr α) (n m : Nat) (x : α) : (t.set n x).get m = if m = n then some x else t.get m := by
  split
  · rename_i h; rw [h, Tr.get_set_same]
  · rename_i h; exact Tr.get_set_ne _ _ h
end tries

/-! ### Frames and memory -/
theorem Fr.get_set (F : Fr) (d t : Nat) (v : Value) : (F.set d v).get t = if t = d then v else F.get t := by
  unfold Fr.get Fr.set
  simp only [Tr.get_set]
  split <;> rfl
@[simp] theorem Fr.get_set_same (F : Fr) (d : Nat) (v : Value) : (F.set d v).get d = v := by simp [Fr.get_set]
theorem Fr.get_set_ne (F : Fr) {d t : Nat} (v : Value) (h : t ≠ d) : (F.set d v).get t = F.get t := by simp [Fr.get_set, h]
@[simp] theorem Fr.n_set (F : Fr) (d : Nat) (v : Value) : (F.set d v).n = F.n := rfl
@[simp] theorem Fr.marks_set (F : Fr) (d : Nat) (v : Value) : (F.set d v).marks = F.marks := rfl
@[simp] theorem Fr.round_set (F : Fr) (d : Nat) (v : Value) : (F.set d v).round = F.round := rfl
theorem Fr.put_none (F : Fr) (v : Value) : F.put none v = some F := rfl
theorem Fr.put_some (F : Fr) (d : Nat) (v : Value) : F.put (some d) v = if d < F.n then some (F.set d v) else none := by
  cases F with
  | mk tr n m r =>
    simp only [Fr.put, Fr.set]
    by_cases h : d < n
    · have : Nat.blt d n = true := by simpa [Nat.blt_eq] using h
      simp [this, h]
    · have : Nat.blt d n = false := by
        cases hx : Nat.blt d n with
        | false => rfl
        | true => exact absurd (by simpa [Nat.blt_eq] using hx) h
      simp [this, h]

@[simp] theorem Hp.size_new (H : Hp) (x : Blk) : (H.new x).size = H.size + 1 := rfl
@[simp] theorem Hp.size_upd (H : Hp) (b : Nat) (x : Blk) : (H.upd b x).size = H.size := rfl
@[simp] theorem Hp.low_new (H : Hp) (x : Blk) : (H.new x).low = H.low := rfl
@[simp] theorem Hp.low_upd (H : Hp) (b : Nat) (x : Blk) : (H.upd b x).low = min H.low b := rfl
theorem Hp.get_new (H : Hp) (x : Blk) (b : Nat) : (H.new x).get b = if b = H.size then x else H.get b := by
  unfold Hp.get Hp.new
  simp only [Tr.get_set]
  split <;> rfl
theorem Hp.get_upd (H : Hp) (c : Nat) (x : Blk) (b : Nat) : (H.upd c x).get b = if b = c then x else H.get b := by
  unfold Hp.get Hp.upd
  simp only [Tr.get_set]
  split <;> rfl

/-! ### Names of blocks -/
/-- where an abstract block lies: the model's block, and how far within it; how many cells a block of the model's has -/
structure Ren where
  m : Nat → Option (Nat × Nat)
  n : Nat → Option Nat
instance : CoeFun Ren fun _ => Nat → Option (Nat × Nat) := ⟨Ren.m⟩
def Ren.le (ρ ρ' : Ren) : Prop := (∀ b x, ρ b = some x → ρ' b = some x) ∧ ∀ g k, ρ.n g = some k → ρ'.n g = some k
theorem Ren.le_refl (ρ : Ren) : Ren.le ρ ρ := ⟨fun _ _ h => h, fun _ _ h => h⟩
theorem Ren.le_trans {a b c : Ren} (h : Ren.le a b) (k : Ren.le b c) : Ren.le a c := ⟨fun x y e => k.1 x y (h.1 x y e), fun x y e => k.2 x y (h.2 x y e)⟩
def Ren.add (ρ : Ren) (b : Nat) (x : Nat × Nat) (k : Option Nat) : Ren := ⟨fun c => if c = b then some x else ρ c, fun g => if g = x.1 ∧ ρ.n g = none then k else ρ.n g⟩
theorem Ren.le_add {ρ : Ren} {b : Nat} (x : Nat × Nat) (k : Option Nat) (h : ρ b = none) : Ren.le ρ (ρ.add b x k) := by
  constructor
  · intro c y hc
    unfold Ren.add
    show (if c = b then some x else ρ c) = some y
    split
    · rename_i e; rw [e, h] at hc; cases hc
    · exact hc
  · intro g j hg
    show (if g = x.1 ∧ ρ.n g = none then k else ρ.n g) = some j
    rw [if_neg (by rw [hg]; simp)]
    exact hg
theorem Ren.add_same (ρ : Ren) (b : Nat) (x : Nat × Nat) (k : Option Nat) : ρ.add b x k b = some x := by simp [Ren.add]
theorem Ren.add_ne (ρ : Ren) {b c : Nat} (x : Nat × Nat) (k : Option Nat) (h : c ≠ b) : ρ.add b x k c = ρ c := by simp [Ren.add, h]
theorem Ren.add_n (ρ : Ren) (b : Nat) (x : Nat × Nat) (k : Option Nat) (h : ρ.n x.1 = none) : (ρ.add b x k).n x.1 = k := by simp [Ren.add, h]

theorem isExact_iff {a : Addr} : isExact a = true ↔ a.spot = some 0 := by
  obtain ⟨b, o, sp⟩ := a
  cases sp with
  | none => simp [isExact]
  | some k => cases k <;> simp [isExact]
theorem isRoomy_iff {a : Addr} {k : Nat} : isRoomy a k = true ↔ a.spot = some (k + 1) := by
  obtain ⟨b, o, sp⟩ := a
  cases sp with
  | none => simp [isRoomy]
  | some j => cases j <;> simp [isRoomy, Nat.beq_eq]
theorem isExact_mk {b o : Nat} {sp : Option Nat} : isExact ⟨b, o, sp⟩ = true ↔ sp = some 0 := isExact_iff
theorem isRoomy_mk {b o : Nat} {sp : Option Nat} {k : Nat} : isRoomy ⟨b, o, sp⟩ k = true ↔ sp = some (k + 1) := isRoomy_iff

/-! ### Values -/
inductive VRel (ρ : Ren) : Value → Value → Prop where
  | flat {v : Value} (h : flat0 v = true) : VRel ρ v v
  | pointer {a : Addr} {g s : Nat} (h : ρ a.block = some (g, s)) : VRel ρ (.pointer (some a)) (.pointer (some ⟨g, s + a.off, none⟩))
  | slice {a a' : Addr} {l c c' : Nat} (hl : l ≤ c) (hc : c ≤ c') (he : isExact a = true → c = c')
      (ha : 0 < c → ∃ g s, ρ a.block = some (g, s) ∧ a' = ⟨g, s + a.off, none⟩)
      (hr : ∀ k, isRoomy a k = true → 0 < c → ∃ N, ρ.n a'.block = some N ∧ a'.off + c' * k ≤ N) : VRel ρ (.slice (some a) l c) (.slice (some a') l c')
  | map {r r' : Nat} (h : ρ r = some (r', 0)) : VRel ρ (.map (some r)) (.map (some r'))
  | func {f : FuncId} {a b a' b' : Array Value} (ha : a.size = a'.size) (hb : b.size = b'.size)
      (h1 : ∀ (i : Nat) v v', a[i]? = some v → a'[i]? = some v' → VRel ρ v v') (h2 : ∀ (i : Nat) v v', b[i]? = some v → b'[i]? = some v' → VRel ρ v v') :
      VRel ρ (.func (.func f) a b) (.func (.func f) a' b')
  | yield {l l' : Nat} (h : ρ l = some (l', 0)) : VRel ρ (.func (.yield l) #[] #[]) (.func (.yield l') #[] #[])
  | iface {t : TypeId} {v v' : Value} (h : VRel ρ v v') : VRel ρ (.iface t v) (.iface t v')
  | agg {a a' : Array Value} (ha : a.size = a'.size) (h1 : ∀ (i : Nat) v v', a[i]? = some v → a'[i]? = some v' → VRel ρ v v') : VRel ρ (.agg a) (.agg a')
  | tuple {a a' : Array Value} (ha : a.size = a'.size) (h1 : ∀ (i : Nat) v v', a[i]? = some v → a'[i]? = some v' → VRel ρ v v') : VRel ρ (.tuple a) (.tuple a')

theorem VRel.mono {ρ ρ' : Ren} (h : Ren.le ρ ρ') {v v' : Value} (hv : VRel ρ v v') : VRel ρ' v v' := by
  induction hv with
  | flat h => exact .flat h
  | pointer ha => exact .pointer (h.1 _ _ ha)
  | slice hl hc he ha hr => exact .slice hl hc he (fun hc => let ⟨g, s, h1, h2⟩ := ha hc; ⟨g, s, h.1 _ _ h1, h2⟩) (fun k h1 h2 => let ⟨N, h3, h4⟩ := hr k h1 h2; ⟨N, h.2 _ _ h3, h4⟩)
  | map hr => exact .map (h.1 _ _ hr)
  | func ha hb _ _ ih1 ih2 => exact .func ha hb ih1 ih2
  | yield hl => exact .yield (h.1 _ _ hl)
  | iface _ ih => exact .iface ih
  | agg ha _ ih => exact .agg ha ih
  | tuple ha _ ih => exact .tuple ha ih

theorem VRel.eq_of_flat0 {ρ : Ren} {v v' : Value} (h : VRel ρ v v') (hf : flat0 v = true) : v' = v := by
  cases h <;> simp_all [flat0]

theorem VRel.of_flat {ρ : Ren} {v : Value} (h : Am.flat v = true) : VRel ρ v v := by
  cases v with
  | agg a =>
    refine .agg rfl fun i v v' h1 h2 => ?_
    rw [h1] at h2; cases h2
    have := Array.all_eq_true_iff_forall_mem.1 (show a.all flat0 = true from h) v (Array.mem_of_getElem? h1)
    exact .flat this
  | tuple a =>
    refine .tuple rfl fun i v v' h1 h2 => ?_
    rw [h1] at h2; cases h2
    have := Array.all_eq_true_iff_forall_mem.1 (show a.all flat0 = true from h) v (Array.mem_of_getElem? h1)
    exact .flat this
  | _ => exact .flat h

/-- lists of values, one for one -/
def VsRel (ρ : Ren) (l l' : List Value) : Prop := l.length = l'.length ∧ ∀ (i : Nat) v v', l[i]? = some v → l'[i]? = some v' → VRel ρ v v'
theorem VsRel.nil (ρ : Ren) : VsRel ρ [] [] := ⟨rfl, fun i v v' h _ => by simp at h⟩
theorem VsRel.cons {ρ : Ren} {x y : Value} {l l' : List Value} (h : VRel ρ x y) (hl : VsRel ρ l l') : VsRel ρ (x :: l) (y :: l') := by
  refine ⟨by simp [hl.1], fun i v v' h1 h2 => ?_⟩
  cases i with
  | zero => simp at h1 h2; subst h1 h2; exact h
  | succ i => exact hl.2 i v v' (by simpa using h1) (by simpa using h2)
theorem VsRel.inv_cons {ρ : Ren} {x : Value} {l l' : List Value} (h : VsRel ρ (x :: l) l') : ∃ y r, l' = y :: r ∧ VRel ρ x y ∧ VsRel ρ l r := by
  cases l' with
  | nil => have := h.1; simp at this
  | cons y r =>
    refine ⟨y, r, rfl, h.2 0 x y rfl rfl, by have := h.1; simpa using this, fun i v v' h1 h2 => h.2 (i + 1) v v' (by simpa using h1) (by simpa using h2)⟩
theorem VsRel.mono {ρ ρ' : Ren} (h : Ren.le ρ ρ') {l l' : List Value} (hl : VsRel ρ l l') : VsRel ρ' l l' := ⟨hl.1, fun i v v' h1 h2 => (hl.2 i v v' h1 h2).mono h⟩
theorem VsRel.get {ρ : Ren} {l l' : List Value} (h : VsRel ρ l l') {i : Nat} {v : Value} (hv : l[i]? = some v) : ∃ v', l'[i]? = some v' ∧ VRel ρ v v' := by
  have hi : i < l.length := (List.getElem?_eq_some_iff.1 hv).1
  have hi' : i < l'.length := by rw [← h.1]; exact hi
  exact ⟨l'[i], List.getElem?_eq_getElem hi', h.2 i v _ hv (List.getElem?_eq_getElem hi')⟩
theorem VsRel.append {ρ : Ren} {a a' b b' : List Value} (h : VsRel ρ a a') (k : VsRel ρ b b') : VsRel ρ (a ++ b) (a' ++ b') := by
  refine ⟨by simp [h.1, k.1], fun i v v' h1 h2 => ?_⟩
  rcases Nat.lt_or_ge i a.length with hi | hi
  · rw [List.getElem?_append_left hi] at h1
    rw [List.getElem?_append_left (h.1 ▸ hi)] at h2
    exact h.2 i v v' h1 h2
  · rw [List.getElem?_append_right hi] at h1
    rw [List.getElem?_append_right (h.1 ▸ hi), ← h.1] at h2
    exact k.2 _ v v' h1 h2
theorem VsRel.drop {ρ : Ren} {a a' : List Value} (h : VsRel ρ a a') (n : Nat) : VsRel ρ (a.drop n) (a'.drop n) :=
  ⟨by simp [h.1], fun i v v' h1 h2 => h.2 (n + i) v v' (by simpa using h1) (by simpa using h2)⟩
theorem VsRel.take {ρ : Ren} {a a' : List Value} (h : VsRel ρ a a') (n : Nat) : VsRel ρ (a.take n) (a'.take n) := by
  refine ⟨by simp [h.1], fun i v v' h1 h2 => ?_⟩
  rw [List.getElem?_take] at h1 h2
  split at h1
  · rename_i hi; rw [if_pos hi] at h2; exact h.2 i v v' h1 h2
  · cases h1
theorem VsRel.of_flat {ρ : Ren} {l : List Value} (h : ∀ v ∈ l, flat0 v = true) : VsRel ρ l l :=
  ⟨rfl, fun i v v' h1 h2 => by rw [h1] at h2; cases h2; exact .flat (h v (List.mem_of_getElem? h1))⟩
theorem VsRel.array {ρ : Ren} {a a' : Array Value} (ha : a.size = a'.size) (h1 : ∀ (i : Nat) v v', a[i]? = some v → a'[i]? = some v' → VRel ρ v v') : VsRel ρ a.toList a'.toList :=
  ⟨by simpa using ha, fun i v v' h h' => h1 i v v' (by simpa using h) (by simpa using h')⟩
theorem VsRel.agg {ρ : Ren} {l l' : List Value} (h : VsRel ρ l l') : VRel ρ (.agg ⟨l⟩) (.agg ⟨l'⟩) :=
  .agg (by simpa using h.1) fun i v v' h1 h2 => h.2 i v v' (by simpa using h1) (by simpa using h2)
theorem VsRel.tuple {ρ : Ren} {l l' : List Value} (h : VsRel ρ l l') : VRel ρ (.tuple ⟨l⟩) (.tuple ⟨l'⟩) :=
  .tuple (by simpa using h.1) fun i v v' h1 h2 => h.2 i v v' (by simpa using h1) (by simpa using h2)
theorem VRel.cells {ρ : Ren} {v v' : Value} (h : VRel ρ v v') : VsRel ρ v.cells.toList v'.cells.toList := by
  cases h with
  | agg ha h1 => exact VsRel.array ha h1
  | flat h => cases ‹Value› <;> first | (simp [flat0] at h; done) | exact VsRel.cons (.flat h) (VsRel.nil _)
  | pointer h => exact VsRel.cons (.pointer h) (VsRel.nil _)
  | slice a b c d e => exact VsRel.cons (.slice a b c d e) (VsRel.nil _)
  | map h => exact VsRel.cons (.map h) (VsRel.nil _)
  | func a b c d => exact VsRel.cons (.func a b c d) (VsRel.nil _)
  | yield h => exact VsRel.cons (.yield h) (VsRel.nil _)
  | iface h => exact VsRel.cons (.iface h) (VsRel.nil _)
  | tuple a b => exact VsRel.cons (.tuple a b) (VsRel.nil _)
theorem VRel.undef (ρ : Ren) : VRel ρ undef undef := .tuple rfl fun i v v' h _ => by simp at h
theorem VRel.oneCell {ρ : Ren} {v v' : Value} (h : VRel ρ v v') (ho : oneCell v = true) : v'.oneCell' = true := by
  cases h with
  | flat h => cases ‹Value› <;> simp_all [Am.oneCell, Value.oneCell']
  | agg => simp [Am.oneCell] at ho
  | tuple => simp [Am.oneCell] at ho
  | _ => rfl

end Go.Proofs.YtjmohjemgohlpaaGreatDoor.Am

/- The abstract machine: what abstract memory says of the model's. -/
namespace Go.Proofs.YtjmohjemgohlpaaGreatDoor.Am
open Go

def own : Blk → Bool
  | .dead => false
  | .row _ o => o
  | .trow _ _ => true
  | _ => true

def EntriesRel (ρ : Ren) (es es' : Array MapEntry) : Prop :=
  es.size = es'.size ∧ ∀ (i : Nat) e e', es[i]? = some e → es'[i]? = some e' → e'.key = e.key ∧ flat0 e.key = true ∧ VRel ρ e.val e'.val

structure FRel (ρ : Ren) (F : Fr) (tmps : Array Value) : Prop where
  n : F.n = tmps.size
  get : ∀ t, VRel ρ (F.get t) (tmps.getD t undef)

def PendRel : Option Ex → Option Code → Prop
  | none, none => True
  | some .ret, some .ret => True
  | some (.exit i), some (.exit j) => i = j
  | some (.goto i), some (.goto j) => i = j
  | _, _ => False

def okFrozen (fr : Nat × Nat) (n : Nat) : Prop := ∀ i, i < n → ¬ (fr.1 ≤ i ∧ i < fr.2)
theorem okFrozen_zero (n : Nat) : okFrozen (0, 0) n := fun i _ h => by simp at h

/-- what the model has where an abstract block lies -/
def BRel (P : Program) (base : Nat) (ρ : Ren) (w : World) (g s : Nat) : Blk → Prop
  | .dead => True
  | .row c true => base ≤ g ∧ ∃ cc t fr, w.heap[g]? = some (.cells cc t fr) ∧ okFrozen fr cc.size ∧ s + c.length ≤ cc.size ∧ ρ.n g = some cc.size ∧ ∀ (i : Nat) v, c[i]? = some v → ∃ v', cc[s + i]? = some v' ∧ VRel ρ v v'
  | .row c false => g < base ∧ ∀ (i : Nat) v, c[i]? = some v → ∃ v', w.cell? ⟨g, s + i, none⟩ = some v' ∧ VRel ρ v v'
  | .trow c t => base ≤ g ∧ s = 0 ∧ ∃ cc fr, w.heap[g]? = some (.cells cc t fr) ∧ okFrozen fr cc.size ∧ c.length ≤ cc.size ∧ ρ.n g = some cc.size ∧ ∀ (i : Nat) v, c[i]? = some v → ∃ v', cc[i]? = some v' ∧ VRel ρ v v'
  | .map es clock => base ≤ g ∧ s = 0 ∧ ∃ es', w.heap[g]? = some (.map es' clock) ∧ EntriesRel ρ es es'
  | .iter str pos => base ≤ g ∧ s = 0 ∧ w.heap[g]? = some (.stringIter str pos)
  | .loop st pend F ps as bd => base ≤ g ∧ s = 0 ∧ ∃ l : Loop, w.heap[g]? = some (.loop l) ∧ l.state = st ∧ PendRel pend l.pending ∧ FRel ρ F l.tmps ∧ l.params.toList = ps ∧ comp P l.assign = some as ∧ comp P l.body = some bd
  | .deferred => base ≤ g ∧ s = 0 ∧ w.heap[g]? = some (.deferred (some []))

structure HRel (P : Program) (base : Nat) (ρ : Ren) (H : Hp) (w : World) : Prop where
  blk : ∀ b g s, ρ b = some (g, s) → BRel P base ρ w g s (H.get b)
  inj : ∀ b c g s s', ρ b = some (g, s) → ρ c = some (g, s') → own (H.get b) = true → own (H.get c) = true → b = c
  lt : ∀ b x, ρ b = some x → b < H.size
  nlt : ∀ g k, ρ.n g = some k → g < w.heap.size
  sz : base ≤ w.heap.size

theorem EntriesRel.mono {ρ ρ' : Ren} (h : Ren.le ρ ρ') {es es' : Array MapEntry} (k : EntriesRel ρ es es') : EntriesRel ρ' es es' :=
  ⟨k.1, fun i e e' h1 h2 => let ⟨a, b, c⟩ := k.2 i e e' h1 h2; ⟨a, b, c.mono h⟩⟩
theorem FRel.mono {ρ ρ' : Ren} (h : Ren.le ρ ρ') {F : Fr} {tmps : Array Value} (k : FRel ρ F tmps) : FRel ρ' F tmps := ⟨k.n, fun t => (k.get t).mono h⟩

/-- a block stays what it was where the model's block has not changed -/
theorem BRel.keep {P : Program} {base : Nat} {ρ ρ' : Ren} {w w' : World} {g s : Nat} {x : Blk} (h : BRel P base ρ w g s x) (hρ : Ren.le ρ ρ') (hw : w'.heap[g]? = w.heap[g]?) : BRel P base ρ' w' g s x := by
  cases x with
  | dead => trivial
  | row c o =>
    cases o with
    | true =>
      obtain ⟨hb, cc, t, fr, h1, h2, h3, h5, h4⟩ := h
      exact ⟨hb, cc, t, fr, hw.trans h1, h2, h3, hρ.2 _ _ h5, fun i v hv => let ⟨v', a, b⟩ := h4 i v hv; ⟨v', a, b.mono hρ⟩⟩
    | false =>
      obtain ⟨hb, h4⟩ := h
      refine ⟨hb, fun i v hv => ?_⟩
      obtain ⟨v', a, b⟩ := h4 i v hv
      refine ⟨v', ?_, b.mono hρ⟩
      simp only [World.cell?, hw] at a ⊢
      exact a
  | trow c t =>
    obtain ⟨hb, hs, cc, fr, h1, h2, h3, h5, h4⟩ := h
    exact ⟨hb, hs, cc, fr, hw.trans h1, h2, h3, hρ.2 _ _ h5, fun i v hv => let ⟨v', a, b⟩ := h4 i v hv; ⟨v', a, b.mono hρ⟩⟩
  | map es clock =>
    obtain ⟨hb, hs, es', h1, h2⟩ := h
    exact ⟨hb, hs, es', hw.trans h1, h2.mono hρ⟩
  | iter str pos => exact ⟨h.1, h.2.1, hw.trans h.2.2⟩
  | loop st pend F ps as bd =>
    obtain ⟨hb, hs, l, h1, h2, h3, h4, h5⟩ := h
    exact ⟨hb, hs, l, hw.trans h1, h2, h3, h4.mono hρ, h5⟩
  | deferred => exact ⟨h.1, h.2.1, hw.trans h.2.2⟩

theorem BRel.base {P : Program} {base : Nat} {ρ : Ren} {w : World} {g s : Nat} {x : Blk} (h : BRel P base ρ w g s x) (ho : own x = true) : base ≤ g := by
  cases x with
  | dead => simp [own] at ho
  | row c o => cases o with
    | true => exact h.1
    | false => simp [own] at ho
  | trow c t => exact h.1
  | map es clock => exact h.1
  | iter str pos => exact h.1
  | loop st pend F ps as bd => exact h.1
  | deferred => exact h.1

theorem BRel.lt {P : Program} {base : Nat} {ρ : Ren} {w : World} {g s : Nat} {x : Blk} (h : BRel P base ρ w g s x) (ho : own x = true) : g < w.heap.size := by
  cases x with
  | dead => simp [own] at ho
  | row c o => cases o with
    | true => obtain ⟨_, cc, t, fr, h1, _⟩ := h; exact (Array.getElem?_eq_some_iff.1 h1).1
    | false => simp [own] at ho
  | trow c t => obtain ⟨_, _, cc, fr, h1, _⟩ := h; exact (Array.getElem?_eq_some_iff.1 h1).1
  | map es clock => obtain ⟨_, _, es', h1, _⟩ := h; exact (Array.getElem?_eq_some_iff.1 h1).1
  | iter str pos => exact (Array.getElem?_eq_some_iff.1 h.2.2).1
  | loop st pend F ps as bd => obtain ⟨_, _, l, h1, _⟩ := h; exact (Array.getElem?_eq_some_iff.1 h1).1
  | deferred => exact (Array.getElem?_eq_some_iff.1 h.2.2).1

/-- a row whose type is known is a row -/
theorem BRel.untype {P : Program} {base : Nat} {ρ : Ren} {w : World} {g s : Nat} {c : List Value} {t : TypeId} (h : BRel P base ρ w g s (.trow c t)) : BRel P base ρ w g s (.row c true) := by
  obtain ⟨hb, rfl, cc, fr, h1, h2, h3, h5, h4⟩ := h
  exact ⟨hb, cc, t, fr, h1, h2, by omega, h5, fun i v hv => by rw [Nat.zero_add]; exact h4 i v hv⟩
/-- the model's blocks that the abstract memory may write -/
def OwnAt (ρ : Ren) (H : Hp) (g : Nat) : Prop := ∃ b s, ρ b = some (g, s) ∧ own (H.get b) = true

structure Kp (X : Nat → Prop) (w w' : World) : Prop where
  size : w.heap.size ≤ w'.heap.size
  os : w'.os = w.os
  tape : w'.tape = w.tape
  output : w'.output = w.output
  same : ∀ g, g < w.heap.size → ¬ X g → w'.heap[g]? = w.heap[g]?

theorem Kp.refl (X : Nat → Prop) (w : World) : Kp X w w := ⟨Nat.le_refl _, rfl, rfl, rfl, fun _ _ _ => rfl⟩
theorem Kp.trans {X Y : Nat → Prop} {w w1 w2 : World} (h : Kp X w w1) (k : Kp Y w1 w2) (hxy : ∀ g, g < w.heap.size → Y g → X g) : Kp X w w2 :=
  ⟨Nat.le_trans h.size k.size, k.os.trans h.os, k.tape.trans h.tape, k.output.trans h.output, fun g hg hx =>
    (k.same g (Nat.lt_of_lt_of_le hg h.size) (fun hy => hx (hxy g hg hy))).trans (h.same g hg hx)⟩
theorem Kp.alloc (X : Nat → Prop) (w : World) (o : Obj) : Kp X w (w.alloc o) :=
  ⟨by simp, rfl, rfl, rfl, fun g hg _ => heap_alloc_old w o g hg⟩
theorem Kp.drew (X : Nat → Prop) (w : World) : Kp X w w.drew := ⟨Nat.le_refl _, rfl, rfl, rfl, fun _ _ _ => rfl⟩

/-- one step: names, memory and world before, and behind -/
structure Sim (P : Program) (base : Nat) (ρ : Ren) (H : Hp) (w : World) (ρ' : Ren) (H' : Hp) (w' : World) : Prop where
  le : Ren.le ρ ρ'
  rel : HRel P base ρ' H' w'
  kp : Kp (OwnAt ρ H) w w'
  ext : ∀ g, g < w.heap.size → OwnAt ρ' H' g → OwnAt ρ H g
  hsize : H.size ≤ H'.size
  new : ∀ b x, ρ' b = some x → ρ b = none → H.size ≤ b

theorem Sim.refl {P : Program} {base : Nat} {ρ : Ren} {H : Hp} {w : World} (h : HRel P base ρ H w) : Sim P base ρ H w ρ H w :=
  ⟨Ren.le_refl _, h, Kp.refl _ _, fun _ _ h => h, Nat.le_refl _, fun b x h k => by rw [h] at k; cases k⟩
theorem Sim.trans {P : Program} {base : Nat} {ρ ρ1 ρ2 : Ren} {H H1 H2 : Hp} {w w1 w2 : World} (h : Sim P base ρ H w ρ1 H1 w1) (k : Sim P base ρ1 H1 w1 ρ2 H2 w2) : Sim P base ρ H w ρ2 H2 w2 :=
  ⟨Ren.le_trans h.le k.le, k.rel, h.kp.trans k.kp (fun g hg ho => h.ext g hg ho), fun g hg ho => h.ext g hg (k.ext g (Nat.lt_of_lt_of_le hg h.kp.size) ho),
    Nat.le_trans h.hsize k.hsize, fun b x hb hn => by
      cases hx : ρ1 b with
      | none => exact Nat.le_trans h.hsize (k.new b x hb hx)
      | some y => exact h.new b y hx hn⟩

theorem HRel.heap {P : Program} {base : Nat} {ρ : Ren} {H : Hp} {w w' : World} (h : HRel P base ρ H w) (hw : w'.heap = w.heap) : HRel P base ρ H w' :=
  ⟨fun b g s hb => (h.blk b g s hb).keep (Ren.le_refl _) (by rw [hw]), h.inj, h.lt, by rw [hw]; exact h.nlt, by rw [hw]; exact h.sz⟩

/-- the count of writes says nothing of the model -/
theorem HRel.low {P : Program} {base : Nat} {ρ : Ren} {H : Hp} {w : World} (h : HRel P base ρ H w) (n : Nat) : HRel P base ρ { tr := H.tr, size := H.size, low := n } w :=
  ⟨h.blk, h.inj, h.lt, h.nlt, h.sz⟩

/-- a new block -/
theorem HRel.alloc {P : Program} {base : Nat} {ρ : Ren} {H : Hp} {w : World} (h : HRel P base ρ H w) (o : Obj) (x : Blk) (k : Option Nat)
    (hx : BRel P base (ρ.add H.size (w.heap.size, 0) k) (w.alloc o) w.heap.size 0 x) :
    Sim P base ρ H w (ρ.add H.size (w.heap.size, 0) k) (H.new x) (w.alloc o) := by
  have hn : ρ H.size = none := by
    cases e : ρ H.size with
    | none => rfl
    | some y => have := h.lt _ _ e; omega
  have hle := Ren.le_add (w.heap.size, 0) k hn
  have hold : ∀ b g s, ρ.add H.size (w.heap.size, 0) k b = some (g, s) → (b = H.size ∧ g = w.heap.size ∧ s = 0) ∨ (b ≠ H.size ∧ ρ b = some (g, s)) := by
    intro b g s hb
    by_cases e : b = H.size
    · subst e; rw [Ren.add_same] at hb; cases hb; exact .inl ⟨rfl, rfl, rfl⟩
    · rw [Ren.add_ne _ _ _ e] at hb; exact .inr ⟨e, hb⟩
  have hnl : ∀ g j, (ρ.add H.size (w.heap.size, 0) k).n g = some j → g < (w.alloc o).heap.size := by
    intro g j hj
    have hsz : (w.alloc o).heap.size = w.heap.size + 1 := by simp
    rw [hsz]
    by_cases e : g = w.heap.size ∧ ρ.n g = none
    · omega
    · have : (ρ.add H.size (w.heap.size, 0) k).n g = ρ.n g := by
        show (if g = w.heap.size ∧ ρ.n g = none then k else ρ.n g) = ρ.n g
        rw [if_neg e]
      rw [this] at hj
      have := h.nlt g j hj; omega
  refine ⟨hle, ⟨?_, ?_, ?_, hnl, by have := h.sz; simp; omega⟩, Kp.alloc _ _ _, ?_, by simp, ?_⟩
  · intro b g s hb
    rcases hold b g s hb with ⟨rfl, rfl, rfl⟩ | ⟨hne, hb'⟩
    · rw [Hp.get_new, if_pos rfl]; exact hx
    · rw [Hp.get_new, if_neg hne]
      have hk := h.blk b g s hb'
      by_cases ho : own (H.get b) = true
      · exact hk.keep hle (heap_alloc_old w o g (hk.lt ho))
      · cases hgb : H.get b with
        | dead => trivial
        | row c own' =>
          rw [hgb] at hk ho
          cases own' with
          | true => simp [own] at ho
          | false =>
            refine ⟨hk.1, fun i v hv => ?_⟩
            obtain ⟨v', a, b'⟩ := hk.2 i v hv
            exact ⟨v', by rw [World.cell?_alloc_lt (h := block_lt_of_cell a)]; exact a, b'.mono hle⟩
        | trow _ _ => rw [hgb] at ho; simp [own] at ho
        | map _ _ => rw [hgb] at ho; simp [own] at ho
        | iter _ _ => rw [hgb] at ho; simp [own] at ho
        | loop _ _ _ _ _ _ => rw [hgb] at ho; simp [own] at ho
        | deferred => rw [hgb] at ho; simp [own] at ho
  · intro b c g s s' hb hc hob hoc
    rcases hold b g s hb with ⟨rfl, rfl, rfl⟩ | ⟨hne, hb'⟩
    · rcases hold c _ s' hc with ⟨rfl, _, _⟩ | ⟨hnc, hc'⟩
      · rfl
      · rw [Hp.get_new, if_neg hnc] at hoc
        have := (h.blk c _ _ hc').lt hoc; omega
    · rcases hold c _ s' hc with ⟨rfl, rfl, _⟩ | ⟨hnc, hc'⟩
      · rw [Hp.get_new, if_neg hne] at hob
        have := (h.blk b _ _ hb').lt hob; omega
      · rw [Hp.get_new, if_neg hne] at hob
        rw [Hp.get_new, if_neg hnc] at hoc
        exact h.inj b c g s s' hb' hc' hob hoc
  · intro b y hb
    obtain ⟨g, s⟩ := y
    rcases hold b g s hb with ⟨rfl, _, _⟩ | ⟨_, hb'⟩
    · simp
    · have := h.lt _ _ hb'; simp; omega
  · rintro g hg ⟨b, s, hb, ho⟩
    rcases hold b g s hb with ⟨rfl, rfl, _⟩ | ⟨hne, hb'⟩
    · omega
    · exact ⟨b, s, hb', by rw [Hp.get_new, if_neg hne] at ho; exact ho⟩
  · intro b y hb hb0
    obtain ⟨g, s⟩ := y
    rcases hold b g s hb with ⟨rfl, _, _⟩ | ⟨_, hb'⟩
    · exact Nat.le_refl _
    · rw [hb'] at hb0; cases hb0

/-- a block of the call's own is written -/
theorem HRel.write {P : Program} {base : Nat} {ρ : Ren} {H : Hp} {w w' : World} (h : HRel P base ρ H w) {b g s : Nat} (hb : ρ b = some (g, s)) (ho : own (H.get b) = true)
    (hw : ∀ k, k ≠ g → w'.heap[k]? = w.heap[k]?) (hs : w'.heap.size = w.heap.size) (hos : w'.os = w.os) (htape : w'.tape = w.tape) (hout : w'.output = w.output) (x : Blk)
    (hx : BRel P base ρ w' g s x) : Sim P base ρ H w ρ (H.upd b x) w' := by
  refine ⟨Ren.le_refl _, ⟨?_, ?_, fun c y hc => h.lt c y hc, by rw [hs]; exact h.nlt, by rw [hs]; exact h.sz⟩, ⟨by omega, hos, htape, hout, ?_⟩, ?_, Nat.le_refl _, fun c y h1 h2 => by rw [h1] at h2; cases h2⟩
  · intro c g' s' hc
    rw [Hp.get_upd]
    split
    · rename_i e; subst e; rw [hb] at hc; cases hc; exact hx
    · rename_i hne
      have hk := h.blk c g' s' hc
      by_cases hoc : own (H.get c) = true
      · exact hk.keep (Ren.le_refl _) (hw g' (fun e => hne (by subst e; exact (h.inj b c g' s s' hb hc ho hoc).symm)))
      · have hbg := (h.blk b g s hb).base ho
        cases hgc : H.get c with
        | dead => trivial
        | row cs own' =>
          rw [hgc] at hk hoc
          cases own' with
          | true => simp [own] at hoc
          | false => exact BRel.keep (x := .row cs false) hk (Ren.le_refl _) (hw g' (fun e => by have := hk.1; omega))
        | trow _ _ => rw [hgc] at hoc; simp [own] at hoc
        | map _ _ => rw [hgc] at hoc; simp [own] at hoc
        | iter _ _ => rw [hgc] at hoc; simp [own] at hoc
        | loop _ _ _ _ _ _ => rw [hgc] at hoc; simp [own] at hoc
        | deferred => rw [hgc] at hoc; simp [own] at hoc
  · intro c d g' s1 s2 hc hd hoc hod
    rw [Hp.get_upd] at hoc hod
    refine h.inj c d g' s1 s2 hc hd ?_ ?_
    · split at hoc
      · rename_i e; rw [e]; exact ho
      · exact hoc
    · split at hod
      · rename_i e; rw [e]; exact ho
      · exact hod
  · intro k hk hx'
    exact hw k (fun e => hx' ⟨b, s, by rw [e]; exact hb, ho⟩)
  · rintro k hk ⟨c, s', hc, hoc⟩
    rw [Hp.get_upd] at hoc
    split at hoc
    · rename_i e; exact ⟨b, s', by rw [← e]; exact hc, ho⟩
    · exact ⟨c, s', hc, hoc⟩

/-- a block is forgotten -/
theorem HRel.kill {P : Program} {base : Nat} {ρ : Ren} {H : Hp} {w : World} (h : HRel P base ρ H w) (b : Nat) : Sim P base ρ H w ρ (H.upd b .dead) w := by
  refine ⟨Ren.le_refl _, ⟨?_, ?_, fun c y hc => h.lt c y hc, h.nlt, h.sz⟩, Kp.refl _ _, ?_, Nat.le_refl _, fun c y h1 h2 => by rw [h1] at h2; cases h2⟩
  · intro c g s hc
    rw [Hp.get_upd]
    split
    · trivial
    · exact h.blk c g s hc
  · intro c d g s1 s2 hc hd hoc hod
    rw [Hp.get_upd] at hoc hod
    split at hoc
    · simp [own] at hoc
    · split at hod
      · simp [own] at hod
      · exact h.inj c d g s1 s2 hc hd hoc hod
  · rintro k hk ⟨c, s', hc, hoc⟩
    rw [Hp.get_upd] at hoc
    split at hoc
    · simp [own] at hoc
    · exact ⟨c, s', hc, hoc⟩

end Go.Proofs.YtjmohjemgohlpaaGreatDoor.Am

/- The abstract machine: operations that look at no memory. -/
namespace Go.Proofs.YtjmohjemgohlpaaGreatDoor.Am
open Go

/-- operands, value for value -/
def EvR (okx : Operand → Bool) (ρ : Ren) (F : Fr) (a : Act) : Prop := ∀ x, okx x = true → VRel ρ (F.eval x) (a.eval x)

theorem evR {P : Program} {ρ : Ren} {F : Fr} {a : Act} (hF : FRel ρ F a.tmps) (hG : ∀ g, g < P.globals.size → ρ g = some (g, 0)) : EvR (okOpd P) ρ F a := by
  intro x hx
  cases x with
  | tmp t => exact hF.get t
  | const v => exact VRel.of_flat hx
  | global g =>
    have := VRel.pointer (a := ⟨g, 0, none⟩) (hG g (by simpa [okOpd] using hx))
    simpa [Fr.eval, Act.eval] using this
  | func f => exact .func rfl rfl (fun i v v' h _ => by simp at h) (fun i v v' h _ => by simp at h)

theorem EvR.mono {okx : Operand → Bool} {ρ ρ' : Ren} {F : Fr} {a : Act} (h : EvR okx ρ F a) (hl : Ren.le ρ ρ') : EvR okx ρ' F a := fun x hx => (h x hx).mono hl

/-! ### Inversions -/
section inv
variable {ρ : Ren} {v : Value}
theorem VRel.int {k : IntKind} {n : Int} (h : VRel ρ (.int k n) v) : v = .int k n := h.eq_of_flat0 rfl
theorem VRel.bool {b : Bool} (h : VRel ρ (.bool b) v) : v = .bool b := h.eq_of_flat0 rfl
theorem VRel.string {s : ByteArray} (h : VRel ρ (.string s) v) : v = .string s := h.eq_of_flat0 rfl
theorem VRel.inv_pointer {a : Addr} (h : VRel ρ (.pointer (some a)) v) : ∃ g s, ρ a.block = some (g, s) ∧ v = .pointer (some ⟨g, s + a.off, none⟩) := by
  cases h with
  | pointer h => exact ⟨_, _, h, rfl⟩
  | flat h => simp [flat0] at h
theorem VRel.inv_pnil (h : VRel ρ (.pointer none) v) : v = .pointer none := h.eq_of_flat0 rfl
theorem VRel.inv_snil {l c : Nat} (h : VRel ρ (.slice none l c) v) : v = .slice none l c := h.eq_of_flat0 rfl
theorem VRel.inv_slice {a : Addr} {l c : Nat} (h : VRel ρ (.slice (some a) l c) v) : ∃ a' c', v = .slice (some a') l c' ∧ l ≤ c ∧ c ≤ c' ∧ (isExact a = true → c = c') ∧
    (0 < c → ∃ g s, ρ a.block = some (g, s) ∧ a' = ⟨g, s + a.off, none⟩) ∧ (∀ k, isRoomy a k = true → 0 < c → ∃ N, ρ.n a'.block = some N ∧ a'.off + c' * k ≤ N) := by
  cases h with
  | slice h1 h2 h3 h4 h5 => exact ⟨_, _, rfl, h1, h2, h3, h4, h5⟩
  | flat h => simp [flat0] at h
theorem VRel.inv_agg {cs : List Value} (h : VRel ρ (.agg ⟨cs⟩) v) : ∃ cs', v = .agg ⟨cs'⟩ ∧ VsRel ρ cs cs' := by
  cases h with
  | agg h1 h2 => exact ⟨_, rfl, VsRel.array h1 h2⟩
  | flat h => simp [flat0] at h
theorem VRel.inv_tuple {cs : Array Value} (h : VRel ρ (.tuple cs) v) : ∃ cs', v = .tuple cs' ∧ VsRel ρ cs.toList cs'.toList := by
  cases h with
  | tuple h1 h2 => exact ⟨_, rfl, VsRel.array h1 h2⟩
  | flat h => simp [flat0] at h
theorem VRel.inv_map {r : Nat} (h : VRel ρ (.map (some r)) v) : ∃ r', v = .map (some r') ∧ ρ r = some (r', 0) := by
  cases h with
  | map h => exact ⟨_, rfl, h⟩
  | flat h => simp [flat0] at h
theorem VRel.inv_func {f : FuncId} {a b : Array Value} (h : VRel ρ (.func (.func f) a b) v) : ∃ a' b', v = .func (.func f) a' b' ∧ VsRel ρ a.toList a'.toList ∧ VsRel ρ b.toList b'.toList := by
  cases h with
  | func h1 h2 h3 h4 => exact ⟨_, _, rfl, VsRel.array h1 h3, VsRel.array h2 h4⟩
  | flat h => simp [flat0] at h
theorem VRel.inv_yield {l : Nat} {a b : Array Value} (h : VRel ρ (.func (.yield l) a b) v) : ∃ l', v = .func (.yield l') #[] #[] ∧ a = #[] ∧ b = #[] ∧ ρ l = some (l', 0) := by
  cases h with
  | yield h => exact ⟨_, rfl, rfl, rfl, h⟩
  | flat h => simp [flat0] at h
theorem VRel.inv_iface {t : TypeId} {x : Value} (h : VRel ρ (.iface t x) v) : ∃ y, v = .iface t y ∧ VRel ρ x y := by
  cases h with
  | iface h => exact ⟨_, rfl, h⟩
  | flat h => simp [flat0] at h
end inv

theorem VsRel.map_eval {okx : Operand → Bool} {ρ : Ren} {F : Fr} {a : Act} (he : EvR okx ρ F a) : ∀ (l : List Operand), (∀ x ∈ l, okx x = true) → VsRel ρ (l.map F.eval) (l.map a.eval) := by
  intro l
  induction l with
  | nil => intro _; exact VsRel.nil _
  | cons x r ih => intro h; exact VsRel.cons (he x (h x (by simp))) (ih (fun y hy => h y (by simp [hy])))

/-! ### What is asked of types -/
section types
variable {P : Program} {t : TypeId} (w : World)
theorem run_tySize {n : Nat} (h : tySize P t = some n) : (sizeOf t).run P w = .ok n w := by
  unfold tySize at h
  cases hi : P.info? t with
  | none => simp [hi] at h
  | some i => simp [hi] at h; simp [sizeOf, typeInfo, hi, h]
theorem tyZero_spec {z : Value} (h : tyZero P t = some z) : flat z = true ∧ (∀ cs, z ≠ .tuple cs) ∧ ∃ i, P.info? t = some i ∧ i.zero = some z := by
  unfold tyZero at h
  cases hi : P.info? t with
  | none => simp [hi] at h
  | some i =>
    simp only [hi, Option.bind_some] at h
    cases hz : i.zero with
    | none => simp [hz] at h
    | some z' =>
      simp only [hz] at h
      by_cases hc : (flat z' && notTuple z') = true
      · rw [if_pos hc] at h
        have e : z' = z := by simpa using h
        subst e
        simp only [Bool.and_eq_true] at hc
        refine ⟨hc.1, fun cs e => ?_, i, rfl, hz⟩
        subst e
        simp [notTuple] at hc
      · rw [if_neg hc] at h; cases h
theorem run_tyZero {z : Value} (h : tyZero P t = some z) : (zeroValue t).run P w = .ok z w := by
  obtain ⟨_, _, i, hi, hz⟩ := tyZero_spec h
  simp [zeroValue, typeInfo, hi, hz]
theorem run_tyAgg {b : Bool} (h : tyAgg P t = some b) : (isAgg t).run P w = .ok b w := by
  unfold tyAgg at h
  cases hu : P.underlying t with
  | none => simp [hu] at h
  | some d => cases d <;> simp [hu] at h <;> subst h <;> simp [isAgg, run_underlying hu]
end types

/-- a part of a struct's or an array's cells -/
theorem run_part_agg {P : Program} {t : TypeId} {n : Nat} (ha : tyAgg P t = some true) (hs : tySize P t = some n) (cs : List Value) (off : Nat) (w : World) :
    (part t ⟨cs⟩ off).run P w = .ok (.agg ⟨(cs.drop off).take n⟩) w := by
  simp [part, run_tyAgg w ha, run_tySize w hs, List.extract_eq_take_drop]
theorem run_part_one {P : Program} {t : TypeId} (ha : tyAgg P t = some false) (cs : List Value) (off : Nat) {v : Value} (hv : cs[off]? = some v) (w : World) :
    (part t ⟨cs⟩ off).run P w = .ok v w := by
  simp [part, run_tyAgg w ha, hv]

/-! ### Filling in -/
theorem setAll_spec (off : Nat) (vs : List Value) : ∀ (c : List Value), off + vs.length ≤ c.length → setAll c off vs = c.take off ++ vs ++ c.drop (off + vs.length) := by
  induction off with
  | zero => intro c h; simp [setAll]
  | succ off ih =>
    intro c h
    cases c with
    | nil => simp at h
    | cons x c =>
      rw [setAll, ih c (by simp at h; omega)]
      rw [show off + 1 + vs.length = (off + vs.length) + 1 from by omega]
      simp
theorem setAll_length (off : Nat) (vs : List Value) (c : List Value) (h : off + vs.length ≤ c.length) : (setAll c off vs).length = c.length := by
  rw [setAll_spec off vs c h]; simp; omega
theorem VsRel.setAll {ρ : Ren} {c c' vs vs' : List Value} (hc : VsRel ρ c c') (hv : VsRel ρ vs vs') {off : Nat} (h : off + vs.length ≤ c.length) : VsRel ρ (setAll c off vs) (setAll c' off vs') := by
  rw [setAll_spec _ _ _ h, setAll_spec _ _ _ (by rw [← hc.1, ← hv.1]; exact h), ← hv.1]
  exact ((hc.take off).append hv).append (hc.drop _)

theorem foldl_set (off : Nat) : ∀ (vs : List Value) (j : Nat) (c : Array Value), off + j + vs.length ≤ c.size →
    (vs.zipIdx j).foldl (fun cs (x : Value × Nat) => cs.setIfInBounds (off + x.2) x.1) c = ⟨setAll c.toList (off + j) vs⟩ := by
  intro vs
  induction vs with
  | nil => intro j c h; rw [setAll_spec _ _ _ (by simpa using h)]; simp
  | cons v vs ih =>
    intro j c h
    simp only [List.zipIdx_cons, List.foldl_cons]
    have h2 : off + (j + 1) + vs.length ≤ (c.setIfInBounds (off + j) v).size := by simp at h ⊢; omega
    rw [ih (j + 1) _ h2]
    congr 1
    rw [setAll_spec _ _ _ (by simpa using h2), setAll_spec _ _ _ (by simpa using h)]
    simp only [Array.toList_setIfInBounds]
    have hlt : off + j < c.toList.length := by simp at h ⊢; omega
    rw [List.take_set, List.drop_set_of_lt (by simp at *; omega)]
    rw [show off + (j + 1) = (off + j) + 1 from by omega, List.take_succ_eq_append_getElem hlt]
    have hm : min (off + j) c.size = off + j := Nat.min_eq_left (by simp at h; omega)
    rw [List.set_append_right _ _ (by simp; omega)]
    simp [hm]
    congr 1
    omega

end Go.Proofs.YtjmohjemgohlpaaGreatDoor.Am

/- The abstract machine: numbers, strings, comparisons. -/
namespace Go.Proofs.YtjmohjemgohlpaaGreatDoor.Am
open Go

theorem eqGuard_run_int {P : Program} (op : BinOp) (t : TypeId) (xo yo : Operand) (k : IntKind) (n : Int) (y : Value) (w : World) : (eqGuard op t xo yo (.int k n) y).run P w = .ok () w := by rw [eqGuard_at_int]; rfl

theorem binInt_run {P : Program} {op : BinOp} {k : IntKind} {p q : Int} {v : Value} (t : TypeId) (h : binInt op k p q = some v) (h1 : op ≠ .shl) (h2 : op ≠ .shr) (w : World) :
    (Go.binOp op t (.int k p) (.int k q)).run P w = .ok v w ∧ flat0 v = true := by
  cases op <;> simp [binInt] at h <;> first
    | (exact absurd rfl h1)
    | (exact absurd rfl h2)
    | (subst h; simp [binOp_add, binOp_sub, binOp_mul, binOp_and, binOp_or, binOp_xor, binOp_andNot, binOp_eql, binOp_neq, binOp_lss, binOp_leq, binOp_gtr, binOp_geq, Op.intArith, Op.intBits, flat0]; done)
    | (obtain ⟨hq, h⟩ := h; subst h; simp [binOp_quo, binOp_rem, Op.intDiv, hq, flat0])

theorem binV_run {P : Program} {op : BinOp} {x y v : Value} {t : TypeId} (h : binV op x y = some v) (xo yo : Operand) (w : World) :
    (do eqGuard op t xo yo x y; Go.binOp op t x y : Sem Value).run P w = .ok v w ∧ flat0 v = true ∧ flat0 x = true ∧ flat0 y = true := by
  cases x with
  | int k p =>
    cases y with
    | int k' q =>
      have hg : (do eqGuard op t xo yo (.int k p) (.int k' q); Go.binOp op t (.int k p) (.int k' q) : Sem Value).run P w = (Go.binOp op t (.int k p) (.int k' q)).run P w := by
        rw [eqGuard_at_int]; rfl
      rw [hg]
      by_cases h1 : op = .shl
      · subst h1
        simp only [binV] at h
        split at h
        · cases h
        · cases h
          have : ¬ q < 0 := by assumption
          simp [binOp_shl, Op.shift, this, flat0]
      · by_cases h2 : op = .shr
        · subst h2
          simp only [binV] at h
          split at h
          · cases h
          · cases h
            have : ¬ q < 0 := by assumption
            simp [binOp_shr, Op.shift, this, flat0]
        · have h' : (if k = k' then binInt op k p q else none) = some v := by
            cases op <;> first | exact absurd rfl h1 | exact absurd rfl h2 | exact h
          split at h'
          · rename_i hk; subst hk
            obtain ⟨a, b⟩ := binInt_run t h' h1 h2 w
            exact ⟨a, b, rfl, rfl⟩
          · cases h'
    | _ => simp [binV] at h
  | string p =>
    cases y with
    | string q =>
      have hg : (do eqGuard op t xo yo (.string p) (.string q); Go.binOp op t (.string p) (.string q) : Sem Value).run P w = (Go.binOp op t (.string p) (.string q)).run P w := by
        rw [eqGuard_at_string]; rfl
      rw [hg]
      cases op <;> simp [binV] at h <;> first
        | (subst h; simp [Go.binOp, Op.stringOp, flat0]; done)
        | (obtain ⟨hs, h⟩ := h
           subst h
           have : ¬ ((9223372036854775807 : Int) < ((p.size : Int) + (q.size : Int))) := by omega
           simp [Go.binOp, Op.stringOp, flat0, this])
    | _ => simp [binV] at h
  | _ => simp [binV] at h


theorem eqb_run {P : Program} {t : TypeId} (ht : P.underlying t = some .bool) (neg : Bool) (p q : Bool) (xo yo : Operand) (w : World) :
    (do eqGuard (if neg then .neq else .eql) t xo yo (.bool p) (.bool q); Go.binOp (if neg then .neq else .eql) t (.bool p) (.bool q) : Sem Value).run P w = .ok (.bool (if neg then !(p == q) else p == q)) w := by
  rw [eqGuard_at_bool]
  cases neg <;> simp [Go.binOp, run_equal_bool w t p q ht]

/-- what kind of type comparisons with nil are of -/
def kindOk (P : Program) (t : TypeId) : Nat → Prop
  | 0 => ∃ e j, P.underlying t = some (.pointer e) ∧ P.info? e = some j
  | 1 => ∃ e, P.underlying t = some (.slice e)
  | 2 => ∃ k e, P.underlying t = some (.map k e)
  | 3 => ∃ p q r, P.underlying t = some (.func p q r)
  | 4 => ∃ m, P.underlying t = some (.interface m)
  | _ => False

theorem equal_succ (P : Program) (t : TypeId) (x y : Value) (w : World) : (Op.equal t x y).run P w = (Op.equalIn (9999 + 1) t x y).run P w := rfl

theorem equal_of {P : Program} {t : TypeId} {x y : Value} {b : Bool} {w : World} (he : ∀ d, (Op.equalIn (d + 1) t x y).run P w = .ok b w) : (Op.equal t x y).run P w = .ok b w := (equal_succ P t x y w).trans (he 9999)

theorem eq_run {P : Program} {t : TypeId} {x y : Value} {b : Bool} {w : World} (neg : Bool) {xo yo : Operand}
    (h : ∀ op, (eqGuard op t xo yo x y).run P w = .ok () w) (hx : Go.binOp .eql t x y = (do pure (.bool (← Op.equal t x y)))) (hx' : Go.binOp .neq t x y = (do pure (.bool (!(← Op.equal t x y)))))
    (he' : (Op.equal t x y).run P w = .ok b w) :
    (do eqGuard (if neg then .neq else .eql) t xo yo x y; Go.binOp (if neg then .neq else .eql) t x y : Sem Value).run P w = .ok (.bool (if neg then !b else b)) w := by
  cases neg
  · rw [Sem.run_bind, h]; simp [hx, he']
  · rw [Sem.run_bind, h]; simp [hx', he']

/-- comparisons with nil, at values and those that they stand for -/
theorem eqNil_run {P : Program} {ρ : Ren} {t : TypeId} {k : Nat} {c : Bool} {x y x' y' : Value} {b : Bool} (h : eqNil k c x y = some b) (hx : VRel ρ x x') (hy : VRel ρ y y')
    (ht : kindOk P t k) (neg : Bool) (xo yo : Operand) (hc : c = true → isConst xo = true ∨ isConst yo = true) (w : World) :
    (do eqGuard (if neg then .neq else .eql) t xo yo x' y'; Go.binOp (if neg then .neq else .eql) t x' y' : Sem Value).run P w = .ok (.bool (if neg then !b else b)) w := by
  unfold eqNil at h
  split at h
  · obtain ⟨e, j, ht, hj⟩ := ht
    cases hx.inv_pnil
    cases h
    rename_i bb
    cases bb with
    | none => cases hy.inv_pnil; refine eq_run neg (fun op => by rw [eqGuard_at_pointer]; rfl) rfl rfl (equal_of fun d => by simp [Op.equalIn, run_underlying ht])
    | some a => obtain ⟨g, s, _, rfl⟩ := hy.inv_pointer; refine eq_run neg (fun op => by rw [eqGuard_at_pointer]; rfl) rfl rfl (equal_of fun d => by simp [Op.equalIn, run_underlying ht])
  · obtain ⟨e, j, ht, hj⟩ := ht
    obtain ⟨g, s, _, rfl⟩ := hx.inv_pointer
    cases hy.inv_pnil
    cases h
    refine eq_run neg (fun op => by rw [eqGuard_at_pointer]; rfl) rfl rfl (equal_of fun d => by simp [Op.equalIn, run_underlying ht])
  · obtain ⟨e, j, ht, hj⟩ := ht
    split at h
    · rename_i hab
      cases h
      obtain ⟨g, s, hg, rfl⟩ := hx.inv_pointer
      obtain ⟨g', s', hg', rfl⟩ := hy.inv_pointer
      rw [hab.1, hg'] at hg
      cases hg
      rw [hab.2]
      refine eq_run neg (fun op => by rw [eqGuard_at_pointer]; rfl) rfl rfl (equal_of fun d => by simp [Op.equalIn, run_underlying ht, sizeOf, typeInfo, hj, run_sameAddr_same])
    · cases h
  · obtain ⟨e, ht⟩ := ht
    cases hx.inv_snil
    cases h
    rename_i bb _ _
    cases bb with
    | none => cases hy.inv_snil; refine eq_run neg (fun op => by rw [eqGuard_at_slice]; rfl) rfl rfl (equal_of fun d => by simp [Op.equalIn, run_underlying ht])
    | some a => obtain ⟨a', c', rfl, _⟩ := hy.inv_slice; refine eq_run neg (fun op => by rw [eqGuard_at_slice]; rfl) rfl rfl (equal_of fun d => by simp [Op.equalIn, run_underlying ht])
  · obtain ⟨e, ht⟩ := ht
    obtain ⟨a', c', rfl, _⟩ := hx.inv_slice
    cases hy.inv_snil
    cases h
    refine eq_run neg (fun op => by rw [eqGuard_at_slice]; rfl) rfl rfl (equal_of fun d => by simp [Op.equalIn, run_underlying ht])
  · obtain ⟨k1, e, ht⟩ := ht
    cases hx.eq_of_flat0 rfl
    cases h
    rename_i bb
    cases bb with
    | none => cases hy.eq_of_flat0 rfl; refine eq_run neg (fun op => by rw [eqGuard_at_map]; rfl) rfl rfl (equal_of fun d => by simp [Op.equalIn, run_underlying ht])
    | some a => obtain ⟨a', rfl, _⟩ := hy.inv_map; refine eq_run neg (fun op => by rw [eqGuard_at_map]; rfl) rfl rfl (equal_of fun d => by simp [Op.equalIn, run_underlying ht])
  · obtain ⟨k1, e, ht⟩ := ht
    obtain ⟨a', rfl, _⟩ := hx.inv_map
    cases hy.eq_of_flat0 rfl
    cases h
    refine eq_run neg (fun op => by rw [eqGuard_at_map]; rfl) rfl rfl (equal_of fun d => by simp [Op.equalIn, run_underlying ht])
  · obtain ⟨p, q, r, ht⟩ := ht
    cases hx.eq_of_flat0 rfl
    cases hy.eq_of_flat0 rfl
    cases h
    refine eq_run neg (fun op => by rw [eqGuard_at_nilFunc]; rfl) rfl rfl (equal_of fun d => by simp [Op.equalIn, run_underlying ht])
  · obtain ⟨p, q, r, ht⟩ := ht
    cases hx.eq_of_flat0 rfl
    have : ∃ f a b, y' = .func f a b := by
      cases hy with
      | flat h => simp [flat0] at h
      | func _ _ _ _ => exact ⟨_, _, _, rfl⟩
      | yield _ => exact ⟨_, _, _, rfl⟩
    obtain ⟨f, a, b', rfl⟩ := this
    cases h
    refine eq_run neg (fun op => by rw [eqGuard_at_nilFunc]; rfl) rfl rfl (equal_of fun d => by simp [Op.equalIn, run_underlying ht])
  · obtain ⟨p, q, r, ht⟩ := ht
    cases hy.eq_of_flat0 rfl
    have : ∃ f a b, x' = .func f a b := by
      cases hx with
      | flat h => simp [flat0] at h
      | func _ _ _ _ => exact ⟨_, _, _, rfl⟩
      | yield _ => exact ⟨_, _, _, rfl⟩
    obtain ⟨f, a, b', rfl⟩ := this
    cases h
    refine eq_run neg (fun op => by rw [eqGuard_at_func]; rfl) rfl rfl (equal_of fun d => by simp [Op.equalIn, run_underlying ht])
  · obtain ⟨m, ht⟩ := ht
    cases hx.eq_of_flat0 rfl
    cases hy.eq_of_flat0 rfl
    split at h
    · cases h
      refine eq_run neg (fun op => ?_) rfl rfl (equal_of fun d => by simp [Op.equalIn, run_underlying ht])
      rcases hc ‹_› with h1 | h1
      · cases xo <;> simp [isConst] at h1
        rw [eqGuard_nil_constL]; rfl
      · cases yo <;> simp [isConst] at h1
        rw [eqGuard_nil_constR]; rfl
    · cases h
  · obtain ⟨m, ht⟩ := ht
    cases hx.eq_of_flat0 rfl
    obtain ⟨y, rfl, _⟩ := hy.inv_iface
    cases h
    refine eq_run neg (fun op => by rw [eqGuard_nil_iface]; rfl) rfl rfl (equal_of fun d => by simp [Op.equalIn, run_underlying ht])
  · obtain ⟨m, ht⟩ := ht
    cases hy.eq_of_flat0 rfl
    obtain ⟨y, rfl, _⟩ := hx.inv_iface
    cases h
    refine eq_run neg (fun op => by rw [eqGuard_at_iface]; rfl) rfl rfl (equal_of fun d => by simp [Op.equalIn, run_underlying ht])
  · cases h

end Go.Proofs.YtjmohjemgohlpaaGreatDoor.Am

/- The abstract machine: structs are compared. -/
namespace Go.Proofs.YtjmohjemgohlpaaGreatDoor.Am
open Go

theorem cellsEq_length : ∀ {ks : List Nat} {a a' : List Value} {r : Bool}, cellsEq ks a a' = some r → a.length = ks.length ∧ a'.length = ks.length := by
  intro ks
  induction ks with
  | nil => intro a a' r h; cases a <;> cases a' <;> simp_all [cellsEq]
  | cons k ks ih =>
    intro a a' r h
    cases a with
    | nil => simp [cellsEq] at h
    | cons x a => cases a' with
      | nil => simp [cellsEq] at h
      | cons y a' =>
        simp only [cellsEq] at h
        split at h
        · obtain ⟨h1, h2⟩ := ih ‹_›
          simp [h1, h2]
        · cases h

theorem cellsEq_append : ∀ {ks ls : List Nat} {a a' b b' : List Value} {r : Bool}, a.length = ks.length → a'.length = ks.length → cellsEq (ks ++ ls) (a ++ b) (a' ++ b') = some r →
    ∃ r1 r2, cellsEq ks a a' = some r1 ∧ cellsEq ls b b' = some r2 ∧ r = (r1 && r2) := by
  intro ks
  induction ks with
  | nil => intro ls a a' b b' r h h' hr; cases a with
    | nil => cases a' with
      | nil => exact ⟨true, r, rfl, hr, by simp⟩
      | cons x y => simp at h'
    | cons x y => simp at h
  | cons k ks ih =>
    intro ls a a' b b' r h h' hr
    cases a with
    | nil => simp at h
    | cons x a =>
      cases a' with
      | nil => simp at h'
      | cons y a' =>
        simp only [List.cons_append, cellsEq] at hr
        cases hc : cellEq k x y with
        | none => simp [hc] at hr
        | some c =>
          cases hd : cellsEq (ks ++ ls) (a ++ b) (a' ++ b') with
          | none => simp [hc, hd] at hr
          | some d =>
            simp [hc, hd] at hr
            obtain ⟨r1, r2, h1, h2, h3⟩ := ih (by simpa using h) (by simpa using h') hd
            exact ⟨c && r1, r2, by simp [cellsEq, hc, h1], h2, by rw [← hr, h3, Bool.and_assoc]⟩

/-- the value that a row of cells is -/
def valOf (ag : Bool) (xs : List Value) : Value := if ag then .agg ⟨xs⟩ else xs.headD undef

def EqOK (P : Program) (e : Nat) (t : TypeId) (ks : List Nat) : Prop :=
  ∀ (ag : Bool) (xs ys : List Value) (b : Bool) (w : World), tyAgg P t = some ag → cellsEq ks xs ys = some b → (Op.equalIn e t (valOf ag xs) (valOf ag ys)).run P w = .ok b w

theorem run_part_valOf {P : Program} {t : TypeId} {ag : Bool} {m : Nat} (ha : tyAgg P t = some ag) (hs : tySize P t = some m) (h1 : ag = false → m = 1) (cs : List Value) (off : Nat) (hl : off + m ≤ cs.length) (w : World) :
    (part t ⟨cs⟩ off).run P w = .ok (valOf ag ((cs.drop off).take m)) w := by
  cases ag with
  | true => rw [run_part_agg ha hs]; rfl
  | false =>
    have := h1 rfl
    subst this
    have hlt : off < cs.length := by omega
    rw [run_part_one ha cs off (List.getElem?_eq_getElem hlt)]
    rw [List.drop_eq_getElem_cons hlt]; rfl

theorem eqFields_run {P : Program} {e : Nat} (rec : TypeId → Option (List Nat)) (ih : ∀ t m, rec t = some m → EqOK P e t m) : ∀ (fs : List Field) (n : Nat) (ks : List Nat), plainFs P rec fs n = some ks →
    ∀ (xs ys : List Value) (b : Bool) (w : World), cellsEq ks (xs.drop n) (ys.drop n) = some b → (Op.eqFields e ⟨xs⟩ ⟨ys⟩ fs).run P w = .ok b w := by
  intro fs
  induction fs with
  | nil =>
    intro n ks h xs ys b w hc
    have h : some [] = some ks := h
    cases h
    have hl := cellsEq_length hc
    have h1 : xs.drop n = [] := List.length_eq_zero_iff.1 hl.1
    have h2 : ys.drop n = [] := List.length_eq_zero_iff.1 hl.2
    rw [h1, h2] at hc
    have hc : some true = some b := hc
    cases hc
    rfl
  | cons f fs ihf =>
    intro n ks h xs ys b w hc
    rw [plainFs] at h
    split at h
    · rename_i ks1 sz ag hr hs ha
      split at h
      · rename_i hcond
        obtain ⟨h1, h2, h3, h4⟩ := hcond
        subst h3
        split at h
        · rename_i l hpl
          cases h
          have hl := cellsEq_length hc
          simp only [List.length_drop, List.length_append] at hl
          by_cases hk0 : ks1.length = 0
          · have hk : ks1 = [] := List.length_eq_zero_iff.1 hk0
            subst hk
            have hp := ih _ _ hr ag [] [] true w ha rfl
            cases ag with
            | false => have := h4 rfl; simp at this
            | true =>
              simp only [Op.eqFields, h2, if_true, ne_eq, not_false_eq_true, h1]
              simp only [Sem.run_bind, run_part_agg ha hs, Result.andThen_ok, List.length_nil, List.take_zero]
              have hp' : (Op.equalIn e f.type (.agg ⟨[]⟩) (.agg ⟨[]⟩)).run P w = .ok true w := hp
              simp only [hp', Result.andThen_ok]
              simp
              exact ihf _ _ hpl xs ys b w (by simpa using hc)
          · have hxl : n + ks1.length ≤ xs.length := by omega
            have hyl : n + ks1.length ≤ ys.length := by omega
            have hsplit : ∀ l : List Value, l.drop n = (l.drop n).take ks1.length ++ l.drop (n + ks1.length) := fun l => by
              rw [← List.drop_drop]; exact (List.take_append_drop ks1.length (l.drop n)).symm
            rw [hsplit xs, hsplit ys] at hc
            obtain ⟨r1, r2, hc1, hc2, rfl⟩ := cellsEq_append (by simp; omega) (by simp; omega) hc
            have hp := ih _ _ hr ag _ _ _ w ha hc1
            simp only [Op.eqFields, h2, if_true, ne_eq, not_false_eq_true, h1]
            simp only [Sem.run_bind, run_part_valOf ha hs h4 xs n hxl, run_part_valOf ha hs h4 ys n hyl, Result.andThen_ok, hp]
            cases r1 with
            | false => simp
            | true => simp; exact ihf _ _ hpl xs ys r2 w hc2
        · cases h
      · cases h
    · cases h

theorem cellsEq_one {k : Nat} {x y : Value} {b : Bool} (h : cellsEq [k] [x] [y] = some b) : cellEq k x y = some b := by
  simp only [cellsEq] at h
  cases hc : cellEq k x y with
  | none => rw [hc] at h; simp at h
  | some c => rw [hc] at h; simpa using h
theorem cellEq_int {x y : Value} {b : Bool} (h : cellEq 0 x y = some b) : ∃ k p q, x = .int k p ∧ y = .int k q ∧ b = (p == q) := by
  unfold cellEq at h
  split at h
  · split at h
    · cases h; rename_i hk; subst hk; exact ⟨_, _, _, rfl, rfl, rfl⟩
    · cases h
  · rename_i h0; exact absurd h0 (by decide)
  · rename_i h0; exact absurd h0 (by decide)
  · cases h
theorem cellEq_string {x y : Value} {b : Bool} (h : cellEq 1 x y = some b) : ∃ p q, x = .string p ∧ y = .string q ∧ b = (p.toList == q.toList) := by
  unfold cellEq at h
  split at h
  · rename_i h0; exact absurd h0 (by decide)
  · cases h; exact ⟨_, _, rfl, rfl, rfl⟩
  · rename_i h0; exact absurd h0 (by decide)
  · cases h
theorem cellEq_bool {x y : Value} {b : Bool} (h : cellEq 2 x y = some b) : ∃ p q, x = .bool p ∧ y = .bool q ∧ b = (p == q) := by
  unfold cellEq at h
  split at h
  · rename_i h0; exact absurd h0 (by decide)
  · rename_i h0; exact absurd h0 (by decide)
  · cases h; exact ⟨_, _, rfl, rfl, rfl⟩
  · cases h

theorem plainTy_eq {P : Program} : ∀ (d : Nat) (t : TypeId) (ks : List Nat), plainTy P d t = some ks → ∀ e, d ≤ e → EqOK P e t ks := by
  intro d
  induction d with
  | zero => intro t m h; simp [plainTy] at h
  | succ d ih =>
    intro t ks h e he
    obtain ⟨e, rfl⟩ : ∃ k, e = k + 1 := ⟨e - 1, by omega⟩
    intro ag xs ys b w ha hc
    simp only [plainTy] at h
    have one : ∀ {v : List Value}, v.length = 1 → ∃ x, v = [x] := fun {v} h => by
      cases v with
      | nil => simp at h
      | cons x r => cases r with
        | nil => exact ⟨x, rfl⟩
        | cons _ _ => simp at h
    have hl := cellsEq_length hc
    split at h
    · rename_i k hu
      cases h
      have : ag = false := by simp [tyAgg, hu] at ha; exact ha
      subst this
      obtain ⟨x, rfl⟩ := one hl.1
      obtain ⟨y, rfl⟩ := one hl.2
      obtain ⟨kk, p, q, rfl, rfl, rfl⟩ := cellEq_int (cellsEq_one hc)
      simp [valOf, run_equalIn_int w e t _ k _ _ hu]
    · rename_i hu
      cases h
      have : ag = false := by simp [tyAgg, hu] at ha; exact ha
      subst this
      obtain ⟨x, rfl⟩ := one hl.1
      obtain ⟨y, rfl⟩ := one hl.2
      obtain ⟨p, q, rfl, rfl, rfl⟩ := cellEq_string (cellsEq_one hc)
      simp [valOf, run_equalIn_string w e t _ _ hu]
    · rename_i hu
      cases h
      have : ag = false := by simp [tyAgg, hu] at ha; exact ha
      subst this
      obtain ⟨x, rfl⟩ := one hl.1
      obtain ⟨y, rfl⟩ := one hl.2
      obtain ⟨p, q, rfl, rfl, rfl⟩ := cellEq_bool (cellsEq_one hc)
      simp [valOf, run_equalIn_bool w e t _ _ hu]
    · rename_i fs hu
      split at h
      · cases h
      · rename_i hst
        have : ag = true := by simp [tyAgg, hu] at ha; exact ha
        subst this
        have hf : P.fieldsOf t = fs := by simp [Program.fieldsOf, hu]
        show (Op.equalIn (e + 1) t (.agg ⟨xs⟩) (.agg ⟨ys⟩)).run P w = .ok b w
        rw [run_equalIn_struct w e t ⟨xs⟩ ⟨ys⟩ (by rw [hf]; exact hu) (by simpa using hst), hf]
        exact eqFields_run (plainTy P d) (fun t m h => ih t m h e (by omega)) fs.toList 0 ks h xs ys b w (by simpa using hc)
    · cases h

theorem cellEq_flat {k : Nat} {x y : Value} {b : Bool} (h : cellEq k x y = some b) : flat0 x = true ∧ flat0 y = true := by
  unfold cellEq at h
  split at h <;> first | exact ⟨rfl, rfl⟩ | cases h
theorem cellsEq_flat : ∀ {ks : List Nat} {xs ys : List Value} {b : Bool}, cellsEq ks xs ys = some b → (∀ v ∈ xs, flat0 v = true) ∧ ∀ v ∈ ys, flat0 v = true := by
  intro ks
  induction ks with
  | nil => intro xs ys b h; cases xs <;> cases ys <;> simp_all [cellsEq]
  | cons k ks ih =>
    intro xs ys b h
    cases xs with
    | nil => simp [cellsEq] at h
    | cons x xs => cases ys with
      | nil => simp [cellsEq] at h
      | cons y ys =>
        simp only [cellsEq] at h
        split at h
        · rename_i h1 h2
          obtain ⟨a, b'⟩ := ih h2
          obtain ⟨c, d⟩ := cellEq_flat h1
          exact ⟨fun v hv => by rcases List.mem_cons.1 hv with rfl | hv; exact c; exact a v hv, fun v hv => by rcases List.mem_cons.1 hv with rfl | hv; exact d; exact b' v hv⟩
        · cases h

theorem VsRel.eq_of_flat {ρ : Ren} {xs ys : List Value} (h : VsRel ρ xs ys) (hf : ∀ v ∈ xs, flat0 v = true) : ys = xs := by
  refine List.ext_getElem? fun i => ?_
  rcases Nat.lt_or_ge i xs.length with hi | hi
  · have hi' : i < ys.length := by rw [← h.1]; exact hi
    rw [List.getElem?_eq_getElem hi, List.getElem?_eq_getElem hi']
    have := (h.2 i xs[i] ys[i] (List.getElem?_eq_getElem hi) (List.getElem?_eq_getElem hi')).eq_of_flat0 (hf _ (List.getElem_mem hi))
    rw [this]
  · rw [List.getElem?_eq_none hi, List.getElem?_eq_none (by rw [← h.1]; exact hi)]

theorem eqc_run {P : Program} {ρ : Ren} {t : TypeId} {ks : List Nat} {xs ys : List Value} {x' y' : Value} {b : Bool} (h : cellsEq ks xs ys = some b) (ht : plainTy P 20 t = some ks) (hagg : tyAgg P t = some true)
    (hg : P.eqGuardType P.depth t = false) (hx : VRel ρ (.agg ⟨xs⟩) x') (hy : VRel ρ (.agg ⟨ys⟩) y') (neg : Bool) (xo yo : Operand) (w : World) :
    (do eqGuard (if neg then .neq else .eql) t xo yo x' y'; Go.binOp (if neg then .neq else .eql) t x' y' : Sem Value).run P w = .ok (.bool (if neg then !b else b)) w := by
  obtain ⟨xs', rfl, hx1⟩ := hx.inv_agg
  obtain ⟨ys', rfl, hy1⟩ := hy.inv_agg
  obtain ⟨f1, f2⟩ := cellsEq_flat h
  cases hx1.eq_of_flat f1
  cases hy1.eq_of_flat f2
  exact eq_run neg (fun op => run_eqGuard_agg w op t xo yo _ _ hg) rfl rfl (plainTy_eq 20 t ks ht 10000 (by omega) true xs ys b w hagg h)

end Go.Proofs.YtjmohjemgohlpaaGreatDoor.Am
