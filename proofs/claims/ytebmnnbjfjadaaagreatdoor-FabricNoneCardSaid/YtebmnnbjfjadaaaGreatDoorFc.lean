/- The abstract code: operations, their evaluation. -/
import Derived.Test.YtebmnnbjfjadaaaGreatDoorFb
namespace Go.Ab
open Go

inductive AOpd where
  | t (n : Nat)
  | c (v : Value)
  deriving Inhabited

abbrev Env := List (Nat × Value)

def Env.find : Env → Nat → Option Value
  | [], _ => none
  | (k, v) :: r, n => if k = n then some v else Env.find r n

def Env.put : Env → Nat → Value → Env
  | [], n, v => [(n, v)]
  | (k, u) :: r, n, v => if k = n then (k, v) :: r else (k, u) :: Env.put r n v

def Env.keep (σ : Env) (l : List Nat) : Env := σ.filter fun p => l.contains p.1

def Env.rd (σ : Env) : AOpd → Option Value
  | .t n => σ.find n
  | .c v => some v

def Env.rds (σ : Env) : List AOpd → Option (List Value)
  | [] => some []
  | x :: r => match σ.rd x with
    | none => none
    | some v => match Env.rds σ r with
      | none => none
      | some vs => some (v :: vs)

inductive NilKind where
  | ptr | sl | iface | fn
  deriving Inhabited

inductive AOp where
  | mov (x : AOpd)
  | pick (c a b : AOpd)
  | alloc (zero : List Value)
  | box (x : AOpd)
  | build (zero : Array Value) (parts : List ((Nat × Nat) × AOpd))
  | buildSlice (size : Nat) (zero : Array Value) (len : Nat) (parts : List (Nat × AOpd))
  | load (n : Option Nat) (x : AOpd)
  | store (n : Nat) (a x : AOpd)
  | nilChk (x : AOpd)
  | bin (op : BinOp) (x y : AOpd)
  | eqB (neg : Bool) (x y : AOpd)
  | isNil (k : NilKind) (neg : Bool) (x : AOpd)
  | un (op : UnOp) (x : AOpd)
  | conv (k : IntKind) (x : AOpd)
  | mkIface (t : TypeId) (x : AOpd)
  | mkFunc (fn : Fn) (first captured : List AOpd)
  | mkSlice (size bytes : Nat) (zero : Array Value) (l : AOpd)
  | slice (size : Nat) (x : AOpd) (lo hi : Option AOpd)
  | fieldAddr (off : Nat) (x : AOpd)
  | field (off : Nat) (n : Option Nat) (x : AOpd)
  | indexAddr (arr : Option Nat) (size : Nat) (x i : AOpd)
  | index (len size : Nat) (n : Option Nat) (x i : AOpd)
  | extract (x : AOpd) (i : Nat)
  | len (str : Bool) (x : AOpd)
  | append (size bytes : Nat) (x y : AOpd)
  | minmax (mx : Bool) (x y : AOpd)
  | call (f : FuncId) (args : List AOpd)
  | callQ (f : FuncId) (args : List AOpd)
  | callE (gl : Nat) (f : FuncId) (args : List AOpd)
  | invoke (m : String) (x : AOpd) (args : List AOpd)
  | callV (x : AOpd) (args : List AOpd)
  | hold (ds : List (Option Nat × AOpd)) (op : AOp)
  deriving Inhabited

structure AItem where
  dst : Option Nat
  guard : Option (Nat × Bool)
  op : AOp
  deriving Inhabited

inductive ACode where
  | skip
  | reg (ops : List AItem) (live : List Nat)
  | regd (ord : List Nat) (ops : List AItem) (live : List Nat)
  | seq (a b : ACode)
  | cond (c : AOpd) (a b : ACode)
  | block (id : Nat) (b : ACode)
  | loop (b : ACode)
  | exit (id : Nat)
  | scope (b : ACode)
  | label (l : Nat)
  | goto (l : Nat)
  | ret
  deriving Inhabited

inductive AEx where
  | norm
  | exit (id : Nat)
  | goto (l : Nat)
  | ret

abbrev ACall := FuncId → List Value → AHeap → Option (Value × AHeap)

/-- The cells from an offset on. -/
def readN (cells : List Value) (off n : Nat) : Option (List Value) :=
  if off + n ≤ cells.length then some ((cells.drop off).take n) else none

def writeN (cells : List Value) : Nat → List Value → List Value
  | _, [] => cells
  | off, v :: vs => writeN (cells.set off v) (off + 1) vs

def one : Value → Bool
  | .agg _ | .tuple _ => false
  | _ => true

def AHeap.read (H : AHeap) (i off n : Nat) : Option (List Value) :=
  match H.get i with
  | none => none
  | some o => readN o.cells off n

def aBinInt (op : BinOp) (k : IntKind) (a : Int) (yk : IntKind) (b : Int) : Option Value :=
  match op with
  | .add => if k = yk then some (.int k (k.wrap (a + b))) else none
  | .sub => if k = yk then some (.int k (k.wrap (a - b))) else none
  | .mul => if k = yk then some (.int k (k.wrap (a * b))) else none
  | .quo => if k = yk ∧ b ≠ 0 then some (.int k (k.wrap (a.tdiv b))) else none
  | .rem => if k = yk ∧ b ≠ 0 then some (.int k (a.tmod b)) else none
  | .and => if k = yk then some (.int k (k.wrap (BitVec.ofInt k.bits a &&& BitVec.ofInt k.bits b).toNat)) else none
  | .or => if k = yk then some (.int k (k.wrap (BitVec.ofInt k.bits a ||| BitVec.ofInt k.bits b).toNat)) else none
  | .xor => if k = yk then some (.int k (k.wrap (BitVec.ofInt k.bits a ^^^ BitVec.ofInt k.bits b).toNat)) else none
  | .andNot => if k = yk then some (.int k (k.wrap (BitVec.ofInt k.bits a &&& ~~~ BitVec.ofInt k.bits b).toNat)) else none
  | .shl => if 0 ≤ b then some (.int k (k.wrap (a * 2 ^ (min b.toNat k.bits)))) else none
  | .shr => if 0 ≤ b then some (.int k (a.fdiv (2 ^ (min b.toNat k.bits)))) else none
  | .eql => if k = yk then some (.bool (a == b)) else none
  | .neq => if k = yk then some (.bool (a != b)) else none
  | .lss => if k = yk then some (.bool (decide (a < b))) else none
  | .leq => if k = yk then some (.bool (decide (a ≤ b))) else none
  | .gtr => if k = yk then some (.bool (decide (a > b))) else none
  | .geq => if k = yk then some (.bool (decide (a ≥ b))) else none

/-- Is it nil? -/
def isNilV : NilKind → Value → Option Bool
  | .ptr, .pointer p => some p.isNone
  | .sl, .slice p _ _ => some p.isNone
  | .iface, .nilIface => some true
  | .iface, .iface _ _ => some false
  | .fn, .nilFunc => some true
  | .fn, .func .. => some false
  | _, _ => none

def aBin (op : BinOp) (x y : Value) : Option Value :=
  match x, y with
  | .int k a, .int yk b => aBinInt op k a yk b
  | .string a, .string b => match op with
    | .eql => some (.bool (a.toList == b.toList))
    | .neq => some (.bool (!(a.toList == b.toList)))
    | .add => if a.size + b.size ≤ 2 ^ 62 then some (.string (a ++ b)) else none
    | _ => none
  | _, _ => none

def aUn (op : UnOp) (x : Value) : Option Value :=
  match op, x with
  | .not, .bool b => some (.bool (!b))
  | .neg, .int k n => some (.int k (k.wrap (0 - n)))
  | .xor, .int k n => some (.int k (k.wrap (BitVec.ofInt k.bits (if k.signed then -1 else k.max) ^^^ BitVec.ofInt k.bits n).toNat))
  | _, _ => none

/-- A load's answer. -/
def aLoad (H : AHeap) (n : Option Nat) : Value → Option Value
  | .pointer (some ⟨i, off, none⟩) => match n with
    | none => match H.get i with
      | some o => o.cells[off]?
      | none => none
    | some n => match H.read i off n with
      | some cs => some (.agg cs.toArray)
      | none => none
  | _ => none

def eqVs (f : Value → Value → Bool) : List Value → List Value → Bool
  | [], [] => true
  | a :: as, b :: bs => f a b && eqVs f as bs
  | _, _ => false

def eqV : Nat → Value → Value → Bool
  | _, .bool a, .bool b => a == b
  | _, .int k a, .int k' b => decide (k = k') && decide (a = b)
  | _, .float k a, .float k' b => decide (k = k') && decide (a = b)
  | _, .complex k a c, .complex k' b d => decide (k = k') && decide (a = b) && decide (c = d)
  | _, .string a, .string b => decide (a = b)
  | _, .pointer a, .pointer b => decide (a = b)
  | _, .slice a n c, .slice b m d => decide (a = b) && decide (n = m) && decide (c = d)
  | _, .map a, .map b => decide (a = b)
  | _, .chan a, .chan b => decide (a = b)
  | _, .nilFunc, .nilFunc => true
  | _, .nilIface, .nilIface => true
  | d + 1, .func f a c, .func g b e => decide (f = g) && eqVs (eqV d) a.toList b.toList && eqVs (eqV d) c.toList e.toList
  | d + 1, .iface t a, .iface u b => decide (t = u) && eqV d a b
  | d + 1, .agg a, .agg b => eqVs (eqV d) a.toList b.toList
  | d + 1, .tuple a, .tuple b => eqVs (eqV d) a.toList b.toList
  | _, _, _ => false

/-- Does a load tell the same in two heaps? -/
def heldB (σ : Env) (H H' : AHeap) (d : Option Nat × AOpd) : Bool :=
  match σ.rd d.2 with
  | some p => match aLoad H d.1 p, aLoad H' d.1 p with
    | some u, some u' => eqV 4 u u'
    | _, _ => false
  | none => false

def vals (ps : List ((Nat × Nat) × AOpd)) : List AOpd := ps.map (·.2)

def zipParts : List ((Nat × Nat) × AOpd) → List Value → List ((Nat × Nat) × Value)
  | (p, _) :: r, v :: vs => (p, v) :: zipParts r vs
  | _, _ => []

def fillIn (cells : Array Value) : List ((Nat × Nat) × Value) → Option (Array Value)
  | [] => some cells
  | ((off, size), v) :: rest =>
    if v.cells.size ≠ size || off + v.cells.size > cells.size then none
    else fillIn (v.cells.zipIdx.foldl (fun cs (c, j) => cs.setIfInBounds (off + j) c) cells) rest

def repeatCells (zero : Array Value) (n : Nat) : Array Value := (Array.range n).map (zero[· % zero.size]!)

def aBound (v : Value) (y : Nat) : Option Nat :=
  match v with
  | .int _ i => if 0 ≤ i ∧ i ≤ y then some i.toNat else none
  | _ => none
def aHi (len : Nat) : Option Value → Option Nat
  | none => some len
  | some v => aBound v len
def aLo (h : Nat) : Option Value → Option Nat
  | none => some 0
  | some v => aBound v h
def aSliceBounds (len : Nat) (lo hi : Option Value) : Option (Nat × Nat) :=
  match aHi len hi with
  | none => none
  | some h => match aLo h lo with
    | none => none
    | some l => some (l, h)

def Env.rdo (σ : Env) : Option AOpd → Option (Option Value)
  | none => some none
  | some x => (σ.rd x).map some

def aAppend (H : AHeap) (size bytes : Nat) (a : Option Addr) (n c : Nat) (b : Option Addr) (m : Nat) : Option (Value × AHeap) :=
  if m = 0 then some (.slice a n c, H) else
  match b with
  | some ⟨j, joff, none⟩ => match H.read j joff (m * size) with
    | none => none
    | some news =>
      if !((n + m) * bytes ≤ 2 ^ 46 && 0 < bytes && 0 < size && (H.get j).any (fun o => o.esz == size) && news.all one) then none else
      match a with
      | none => if n = 0 then some (.slice (some ⟨H.next, 0, none⟩) m m, H.new ⟨news, size⟩) else none
      | some ⟨i, off, none⟩ => match H.get i with
        | none => none
        | some o => if H.lo ≤ i ∧ off + n * size = o.cells.length ∧ o.esz = size ∧ i ≠ j then
            some (.slice (some ⟨H.next, 0, none⟩) (n + m) (n + m), (H.del i).new ⟨o.cells.drop off ++ news, size⟩) else none
      | _ => none
  | _ => none

/-- The part of an aggregate: one cell, or a row of them. -/
def aPart (cs : Array Value) (off : Nat) : Option Nat → Option Value
  | none => cs[off]?
  | some n => if off + n ≤ cs.size then some (.agg (cs.extract off (off + n))) else none

def aCut (H : AHeap) (size : Nat) (a : Option Addr) (len l h : Nat) : Option Value :=
  match a with
  | some ⟨i, off, none⟩ => if (H.get i).any (fun o => o.esz == size) then some (.slice (some ⟨i, off + l * size, none⟩) (h - l) (h - l)) else none
  | none => if len = 0 then some (.slice none 0 0) else none
  | _ => none

/-- One operation, calls beside. -/
def evOp (call : ACall) (meth : TypeId → String → Option FuncId) (σ : Env) (H : AHeap) : AOp → Option (Value × AHeap)
  | .mov x => match σ.rd x with
    | some v => some (v, H)
    | none => none
  | .pick c a b => match σ.rd c with
    | some (.bool true) => match σ.rd a with | some v => some (v, H) | none => none
    | some (.bool false) => match σ.rd b with | some v => some (v, H) | none => none
    | _ => none
  | .alloc zero => some (.pointer (some ⟨H.next, 0, none⟩), H.new ⟨zero, zero.length⟩)
  | .box x => match σ.rd x with
    | some v => some (.pointer (some ⟨H.next, 0, none⟩), H.new ⟨v.cells.toList, v.cells.size⟩)
    | none => none
  | .build zero ps => match σ.rds (vals ps) with
    | some vs => match fillIn zero (zipParts ps vs) with
      | some cs => some (.agg cs, H)
      | none => none
    | none => none
  | .buildSlice size zero len ps => match σ.rds (ps.map (·.2)) with
    | some vs => match fillIn (repeatCells zero (len * size)) (zipParts (ps.map fun p => ((p.1 * size, size), p.2)) vs) with
      | some cs => if size = 0 then none else some (.slice (some ⟨H.next, 0, none⟩) len len, H.new ⟨cs.toList, size⟩)
      | none => none
    | none => none
  | .load n x => match σ.rd x with
    | some p => match aLoad H n p with
      | some v => some (v, H)
      | none => none
    | none => none
  | .store n a x => match σ.rd a, σ.rd x with
    | some (.pointer (some ⟨i, off, none⟩)), some v => match H.get i with
      | some o => if H.lo ≤ i ∧ v.cells.size = n ∧ off + n ≤ o.cells.length ∧ v.cells.toList.all one then some (undef, H.set i { o with cells := writeN o.cells off v.cells.toList }) else none
      | none => none
    | _, _ => none
  | .nilChk x => match σ.rd x with
    | some (.pointer (some a)) => some (.pointer (some a), H)
    | some (.func (.func f) a c) => some (.func (.func f) a c, H)
    | some (.iface t v) => some (.iface t v, H)
    | _ => none
  | .bin op x y => match σ.rd x, σ.rd y with
    | some a, some b => match aBin op a b with
      | some v => some (v, H)
      | none => none
    | _, _ => none
  | .eqB neg x y => match σ.rd x, σ.rd y with
    | some (.bool a), some (.bool b) => some (.bool (if neg then !(a == b) else a == b), H)
    | _, _ => none
  | .isNil k neg x => match σ.rd x with
    | some v => match isNilV k v with
      | some b => some (.bool (if neg then !b else b), H)
      | none => none
    | none => none
  | .un op x => match σ.rd x with
    | some a => match aUn op a with
      | some v => some (v, H)
      | none => none
    | none => none
  | .conv k x => match σ.rd x with
    | some (.int _ n) => some (.int k (k.wrap n), H)
    | _ => none
  | .mkIface t x => match σ.rd x with
    | some v => some (.iface t v, H)
    | none => none
  | .mkFunc fn a c => match σ.rds a, σ.rds c with
    | some a, some c => some (.func fn a.toArray c.toArray, H)
    | _, _ => none
  | .mkSlice size bytes zero l => match σ.rd l with
    | some (.int .i64 n) => if 0 ≤ n ∧ n * bytes ≤ 2 ^ 47 ∧ n < 2 ^ 63 ∧ 0 < size then
        some (.slice (some ⟨H.next, 0, none⟩) n.toNat n.toNat, H.new ⟨(repeatCells zero (n.toNat * size)).toList, size⟩) else none
    | _ => none
  | .slice size x lo hi => match σ.rd x, σ.rdo lo, σ.rdo hi with
    | some (.slice a len _), some lo, some hi => match aSliceBounds len lo hi with
      | some (l, h) => match aCut H size a len l h with
        | some v => some (v, H)
        | none => none
      | none => none
    | _, _, _ => none
  | .fieldAddr off x => match σ.rd x with
    | some (.pointer (some ⟨i, o, none⟩)) => some (.pointer (some ⟨i, o + off, none⟩), H)
    | _ => none
  | .field off n x => match σ.rd x with
    | some (.agg cs) => match aPart cs off n with
      | some v => some (v, H)
      | none => none
    | _ => none
  | .indexAddr arr size x i => match σ.rd i with
    | some (.int _ i) => match arr, σ.rd x with
      | some len, some (.pointer (some ⟨b, off, none⟩)) => if 0 ≤ i ∧ i < len then some (.pointer (some ⟨b, off + i.toNat * size, none⟩), H) else none
      | none, some (.slice (some ⟨b, off, none⟩) len _) => if 0 ≤ i ∧ i < len then some (.pointer (some ⟨b, off + i.toNat * size, none⟩), H) else none
      | _, _ => none
    | _ => none
  | .index len size n x i => match σ.rd x, σ.rd i with
    | some (.agg cs), some (.int _ i) => if 0 ≤ i ∧ i < len then
        match aPart cs (i.toNat * size) n with
        | some v => some (v, H)
        | none => none
      else none
    | _, _ => none
  | .extract x i => match σ.rd x with
    | some (.tuple vs) => match vs[i]? with | some v => some (v, H) | none => none
    | _ => none
  | .len str x => match str, σ.rd x with
    | false, some (.slice _ n _) => some (.int .i64 n, H)
    | true, some (.string s) => some (.int .i64 s.size, H)
    | _, _ => none
  | .append size bytes x y => match σ.rd x, σ.rd y with
    | some (.slice a n c), some (.slice b m _) => aAppend H size bytes a n c b m
    | _, _ => none
  | .minmax mx x y => match σ.rd x, σ.rd y with
    | some (.int k a), some (.int _ b) => some (.int k (if mx then (if b > a then b else a) else (if b < a then b else a)), H)
    | _, _ => none
  | .call f args => match σ.rds args with
    | some vs => call f vs H
    | none => none
  | .callQ f args => match σ.rds args with
    | some vs => match call f vs H.froz with
      | some (v, _) => if closedIn 4 v then some (v, H) else none
      | none => none
    | none => none
  | .callE gl f args => match σ.rds args with
    | some vs => match call f vs ⟨.nil, gl, gl⟩ with
      | some (v, _) => if closedIn 4 v && vs.all (closedIn 4) then some (v, H) else none
      | none => none
    | none => none
  | .invoke m x args => match σ.rd x, σ.rds args with
    | some (.iface t v), some vs => match meth t m with
      | some f => call f (v :: vs) H
      | none => none
    | _, _ => none
  | .callV x args => match σ.rd x, σ.rds args with
    | some (.func (.func f) a c), some vs => call f (a.toList ++ vs ++ c.toList) H
    | _, _ => none
  | .hold ds op => match evOp call meth σ H op with
    | some (v, H') => if ds.all (heldB σ H H') then some (v, H') else none
    | none => none

def evItems (call : ACall) (meth : TypeId → String → Option FuncId) : List AItem → Env → AHeap → Option (Env × AHeap)
  | [], σ, H => some (σ, H)
  | it :: rest, σ, H =>
    let go (σ : Env) (H : AHeap) (v : Value) := evItems call meth rest (match it.dst with | some d => σ.put d v | none => σ) H
    match it.guard with
    | none => match evOp call meth σ H it.op with
      | some (v, H') => go σ H' v
      | none => none
    | some (g, want) => match σ.find g with
      | some (.bool b) => if b = want then match evOp call meth σ H it.op with
          | some (v, H') => go σ H' v
          | none => none
        else go σ H undef
      | some _ => none
      | none => none

def hasLabel : ACode → Nat → Bool
  | .seq a b, l => hasLabel a l || hasLabel b l
  | .label l', l => l' == l
  | _, _ => false

abbrev I (d : Nat) (op : AOp) : AItem := ⟨some d, none, op⟩
abbrev I0 (op : AOp) : AItem := ⟨none, none, op⟩
abbrev IG (d : Option Nat) (g : Nat × Bool) (op : AOp) : AItem := ⟨d, some g, op⟩

abbrev ARes := Option (AEx × Env × AHeap)

def loopN (body : Env → AHeap → ARes) : Nat → Env → AHeap → ARes
  | 0, _, _ => none
  | k + 1, σ, H => match body σ H with
    | some (.norm, σ', H') => loopN body k σ' H'
    | r => r

def jumpN (body : Option Nat → Env → AHeap → ARes) (has : Nat → Bool) : Nat → Option Nat → Env → AHeap → ARes
  | 0, _, _, _ => none
  | k + 1, l, σ, H => match body l σ H with
    | some (.goto l', σ', H') => if has l' then jumpN body has k (some l') σ' H' else some (.goto l', σ', H')
    | r => r

def evC (call : ACall) (meth : TypeId → String → Option FuncId) (k : Nat) : ACode → Option Nat → Env → AHeap → ARes
  | .skip, none, σ, H => some (.norm, σ, H)
  | .reg ops live, none, σ, H => match evItems call meth ops σ H with
    | some (σ', H') => some (.norm, σ'.keep live, H')
    | none => none
  | .regd _ ops live, none, σ, H => match evItems call meth ops σ H with
    | some (σ', H') => some (.norm, σ'.keep live, H')
    | none => none
  | .seq a b, none, σ, H => match evC call meth k a none σ H with
    | some (.norm, σ', H') => evC call meth k b none σ' H'
    | r => r
  | .seq a b, some l, σ, H => if hasLabel a l then match evC call meth k a (some l) σ H with
      | some (.norm, σ', H') => evC call meth k b none σ' H'
      | r => r
    else evC call meth k b (some l) σ H
  | .cond c a b, none, σ, H => match σ.rd c with
    | some (.bool true) => evC call meth k a none σ H
    | some (.bool false) => evC call meth k b none σ H
    | _ => none
  | .block id b, none, σ, H => match evC call meth k b none σ H with
    | some (.exit id', σ', H') => if id' = id then some (.norm, σ', H') else some (.exit id', σ', H')
    | r => r
  | .loop b, none, σ, H => loopN (evC call meth k b none) k σ H
  | .exit id, none, σ, H => some (.exit id, σ, H)
  | .scope b, none, σ, H => jumpN (evC call meth k b) (hasLabel b) k none σ H
  | .label _, none, σ, H => some (.norm, σ, H)
  | .label l', some l, σ, H => if l' = l then some (.norm, σ, H) else none
  | .goto l, none, σ, H => some (.goto l, σ, H)
  | .ret, none, σ, H => some (.ret, σ, H)
  | _, some _, _, _ => none

inductive ARv where
  | tmp (t : Nat)
  | cell (a : Nat) (n : Option Nat)
  deriving Inhabited

structure AFn where
  nargs : Nat
  res : List ARv
  body : ACode
  deriving Inhabited

def argEnv : Nat → List Value → Env
  | _, [] => []
  | n, v :: vs => (n, v) :: argEnv (n + 1) vs

def evRes (σ : Env) (H : AHeap) : List ARv → Option (List Value)
  | [] => some []
  | r :: rs => match (match r with
      | .tmp t => σ.find t
      | .cell a n => match σ.find a with
        | some p => aLoad H n p
        | none => none) with
    | none => none
    | some v => match evRes σ H rs with
      | none => none
      | some vs => some (v :: vs)

def asResult : List Value → Value
  | [v] => v
  | vs => .tuple vs.toArray

structure AProg where
  fn : FuncId → Option AFn
  prim : FuncId → Option (List Value → AHeap → Option (Value × AHeap))
  meth : TypeId → String → Option FuncId

def evFn (T : AProg) : Nat → ACall
  | 0, _, _, _ => none
  | k + 1, f, args, H => match T.prim f with
    | some p => p args H
    | none => match T.fn f with
      | none => none
      | some fn => if args.length ≠ fn.nargs then none else match evC (evFn T k) T.meth k fn.body none (argEnv 0 args) H with
        | some (.norm, σ, H') => match evRes σ H' fn.res with
          | some vs => some (asResult vs, H')
          | none => none
        | some (.ret, σ, H') => match evRes σ H' fn.res with
          | some vs => some (asResult vs, H')
          | none => none
        | _ => none

end Go.Ab
