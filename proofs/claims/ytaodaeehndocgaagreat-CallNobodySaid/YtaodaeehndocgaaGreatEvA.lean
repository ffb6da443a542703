/- A deterministic evaluator of the model's code over numbered blocks: its definitions. -/
import Derived.Calls
import Derived.Orders
namespace Go.Ev

/-! tries over numbers -/
inductive T (α : Type) where
  | nil
  | node (l : T α) (v : Option α) (r : T α)

def T.get {α : Type} : T α → Nat → Option α
  | .nil, _ => none
  | .node l v r, k => match k with
    | 0 => v
    | k + 1 => cond (Nat.beq (k % 2) 0) (l.get (k / 2)) (r.get (k / 2))

def T.setK {α β : Type} (x : Option α) : Nat → T α → Nat → (T α → β) → β
  | 0, t, _, K => K t
  | d + 1, t, k, K => match t, k with
    | .nil, 0 => K (.node .nil x .nil)
    | .nil, k + 1 => cond (Nat.beq (k % 2) 0) (T.setK x d .nil (k / 2) fun l => K (.node l none .nil)) (T.setK x d .nil (k / 2) fun r => K (.node .nil none r))
    | .node l _ r, 0 => K (.node l x r)
    | .node l v r, k + 1 => cond (Nat.beq (k % 2) 0) (T.setK x d l (k / 2) fun l => K (.node l v r)) (T.setK x d r (k / 2) fun r => K (.node l v r))

def T.set {α : Type} (x : Option α) (t : T α) (k : Nat) : T α := T.setK x (k + 1) t k id

/-! values -/
inductive AV where
  | bool (b : Bool)
  | int (k : IntKind) (n : Int)
  | str (s : List UInt8)
  | ptr (a : Option (Nat × Nat))
  | slice (a : Option (Nat × Nat)) (len : Nat) (cap : Option Nat)
  | map (r : Option Nat)
  | chan (r : Option Nat)
  | func (f : FuncId) (first captured : List AV)
  | yield (l : Nat)
  | nilFunc
  | iface (t : TypeId) (v : AV)
  | nilIface
  | agg (cs : List AV)
  | tuple (vs : List AV)

inductive AObj where
  | cells (cs : List AV) (elem : TypeId) (ext : Option Nat) (wr : Bool)
  | map (es : List (AV × AV × Nat)) (clock : Nat)
  | chan (cap : Nat) (buf : List AV) (closed : Bool)
  | strIter (s : List UInt8) (pos : Nat)
  | mapIter (m : Option Nat) (since : Nat) (seen : List Nat) (last : Nat)
  | loop (st : LoopState) (pending : Option Code) (fn : FuncId) (nt : Nat) (tm : T AV) (params : Array Tmp) (assign body : Code) (defers : Nat)
  | deferred

structure H where
  next : Nat
  t : T AObj

structure TI where
  desc : TypeDesc
  size : Nat
  bytes : Nat
  agg : Bool
  zero : AV

/-- an operation of a region that draws its order: it leaves memory alone (asked at so many effects, with these new blocks); it makes a block; it is an effect (behind these new blocks) -/
inductive PE where
  | light (ks req : List Nat)
  | alloc
  | eff (req : List Nat)
structure Plan where
  ps : List PE
  fin : List Nat

structure Env where
  fs : T Func
  ts : T TI
  ms : TypeId → String → Option FuncId
  bx : TypeId → TypeId → Bool
  be : TypeId → Bool
  bs : TypeId → TypeId → Bool
  plan : Array Oper → Option Plan

inductive AItem where
  | code (c : Code)
  | inBlock (id : Nat)
  | inLoop (body : Code)
  | inScope (body : Code)
  | ops (ops : Array Oper) (rest : List Oper)
  | endRangeFunc (l : Nat)
  | beginRound

inductive ADf where
  | call (f : FuncId) (args : List AV)
  | collected (b : Nat)

structure AF where
  fn : FuncId
  nt : Nat
  tm : T AV
  todo : List AItem
  defers : List ADf
  roundOf : Option Nat
  deferred : Bool
  ret : Bool

inductive AN where
  | val (v : AV)
  | enter (f : FuncId) (args : List AV)
  | round (l : Nat) (args : List AV)
  | defer (f : FuncId) (args : List AV)
  | recover

/-! forcing, for the kernel -/
def fN {β : Type} (n : Nat) (K : Nat → β) : β := match n with
  | 0 => K 0
  | m + 1 => K (m + 1)
def fI {β : Type} (n : Int) (K : Int → β) : β := match n with
  | .ofNat m => fN m fun m => K (.ofNat m)
  | .negSucc m => fN m fun m => K (.negSucc m)
def fL {α β : Type} : List α → (List α → β) → β
  | [], K => K []
  | a :: l, K => fL l fun l => K (a :: l)

def nth {α : Type} : List α → Nat → Option α
  | [], _ => none
  | a :: l, n => match n with
    | 0 => some a
    | n + 1 => nth l n
def takeN {α : Type} : Nat → List α → Option (List α)
  | 0, _ => some []
  | _ + 1, [] => none
  | n + 1, a :: l => match takeN n l with
    | some r => some (a :: r)
    | none => none
def dropN {α : Type} : Nat → List α → List α
  | 0, l => l
  | _ + 1, [] => []
  | n + 1, _ :: l => dropN n l
def sub {α : Type} (off n : Nat) (l : List α) : Option (List α) := takeN n (dropN off l)
/-- vs written over l from place n on; all places are there -/
def write {α : Type} : Nat → List α → List α → Option (List α)
  | _, [], l => some l
  | _, _ :: _, [] => none
  | 0, v :: vs, _ :: l => match write 0 vs l with
    | some r => some (v :: r)
    | none => none
  | n + 1, v :: vs, a :: l => match write n (v :: vs) l with
    | some r => some (a :: r)
    | none => none
def rep {α : Type} : Nat → List α → List α
  | 0, _ => []
  | n + 1, l => l ++ rep n l
def modA {α : Type} (f : α → α) : Nat → List α → List α
  | _, [] => []
  | 0, a :: l => f a :: l
  | n + 1, a :: l => a :: modA f n l
def eraseA {α : Type} : Nat → List α → List α
  | _, [] => []
  | 0, _ :: l => l
  | n + 1, a :: l => a :: eraseA n l

/-! the heap -/
def newO {β : Type} (h : H) (o : AObj) (K : Nat → H → β) : β :=
  match h with
  | ⟨n, t⟩ => T.setK (some o) (n + 1) t n fun t => fN (n + 1) fun m => K n ⟨m, t⟩
def putO {β : Type} (h : H) (i : Nat) (o : Option AObj) (K : H → β) : β :=
  match h with
  | ⟨n, t⟩ => T.setK o (i + 1) t i fun t => K ⟨n, t⟩

/-! operands -/
def undefA : AV := .tuple []

def ofV1 : Value → Option AV
  | .bool b => some (.bool b)
  | .int k n => some (.int k n)
  | .string s => some (.str s.data.toList)
  | .pointer none => some (.ptr none)
  | .slice none n c => some (.slice none n (some c))
  | .map none => some (.map none)
  | .chan none => some (.chan none)
  | .nilFunc => some .nilFunc
  | .nilIface => some .nilIface
  | _ => none
def ofV1s : List Value → Option (List AV)
  | [] => some []
  | v :: l => match ofV1 v, ofV1s l with
    | some a, some r => some (a :: r)
    | _, _ => none
def ofV : Value → Option AV
  | .agg cs => match ofV1s cs.toList with
    | some l => some (.agg l)
    | none => none
  | v => ofV1 v

def aev (tm : T AV) : Operand → Option AV
  | .tmp t => match tm.get t with
    | some v => some v
    | none => some undefA
  | .const v => ofV v
  | .global _ => none
  | .func f => some (.func f [] [])

def aevL (tm : T AV) : List Operand → Option (List AV)
  | [] => some []
  | x :: l => match aev tm x with
    | none => none
    | some v => match aevL tm l with
      | some r => some (v :: r)
      | none => none

def AV.cells : AV → List AV
  | .agg cs => cs
  | v => [v]
def AV.one : AV → Bool
  | .agg _ => false
  | .tuple _ => false
  | _ => true
def allOne : List AV → Bool
  | [] => true
  | v :: l => cond v.one (allOne l) false

/-! numbers, strings -/
def inR (k : IntKind) (n : Int) : Bool :=
  match n with
  | .ofNat m => (match k with
    | .i64 => Nat.ble m 9223372036854775807
    | .u8 => Nat.ble m 255
    | .u32 => Nat.ble m 4294967295
    | .u64 => Nat.ble m 18446744073709551615
    | .i32 => Nat.ble m 2147483647
    | _ => false)
  | .negSucc m => (match k with
    | .i64 => Nat.ble m 9223372036854775807
    | .i32 => Nat.ble m 2147483647
    | _ => false)
def wrapA (k : IntKind) (n : Int) : Int := cond (inR k n) n (k.wrap n)
def intV (k : IntKind) (n : Int) : Option AV := fI n fun n => some (.int k n)

def ltL : List UInt8 → List UInt8 → Bool
  | _, [] => false
  | [], _ :: _ => true
  | a :: x, b :: y => cond (Nat.blt a.toNat b.toNat) true (cond (Nat.beq a.toNat b.toNat) (ltL x y) false)
def eqL : List UInt8 → List UInt8 → Bool
  | [], [] => true
  | a :: x, b :: y => cond (Nat.beq a.toNat b.toNat) (eqL x y) false
  | [], _ :: _ => false
  | _ :: _, [] => false
def eqI : Int → Int → Bool
  | .ofNat m, .ofNat n => Nat.beq m n
  | .negSucc m, .negSucc n => Nat.beq m n
  | _, _ => false
def ltI : Int → Int → Bool
  | .ofNat m, .ofNat n => Nat.blt m n
  | .negSucc m, .negSucc n => Nat.blt n m
  | .negSucc _, .ofNat _ => true
  | .ofNat _, .negSucc _ => false

def arithA (op : BinOp) (k : IntKind) (a b : Int) : Option AV :=
  match op with
  | .add => intV k (wrapA k (a + b))
  | .sub => intV k (wrapA k (a - b))
  | .mul => intV k (wrapA k (a * b))
  | .quo => cond (eqI b 0) none (intV k (wrapA k (a.tdiv b)))
  | .rem => cond (eqI b 0) none (intV k (a.tmod b))
  | .eql => some (.bool (eqI a b))
  | .neq => some (.bool (!eqI a b))
  | .lss => some (.bool (ltI a b))
  | .leq => some (.bool (!ltI b a))
  | .gtr => some (.bool (ltI b a))
  | .geq => some (.bool (!ltI a b))
  | _ => none
/-- bits of numbers that are not below 0 and in range -/
def bitsA (op : BinOp) (k : IntKind) (m n : Nat) : Option AV :=
  cond (inR k (.ofNat m) && inR k (.ofNat n)) (match op with
    | .and => intV k (.ofNat (m &&& n))
    | .or => intV k (.ofNat (m ||| n))
    | .xor => intV k (.ofNat (m ^^^ n))
    | _ => none) none
def shiftA (op : BinOp) (k : IntKind) (a : Int) (n : Nat) : Option AV :=
  match op with
  | .shl => intV k (wrapA k (a * (2 ^ (min n k.bits) : Nat)))
  | .shr => (match a with
    | .ofNat m => intV k (.ofNat (m / 2 ^ (min n k.bits)))
    | .negSucc _ => none)
  | _ => none
def strA (op : BinOp) (a b : List UInt8) : Option AV :=
  match op with
  | .add => cond (Nat.ble (a.length + b.length) 1000000) (fL (a ++ b) fun s => some (.str s)) none
  | .eql => some (.bool (eqL a b))
  | .neq => some (.bool (!eqL a b))
  | .lss => some (.bool (ltL a b))
  | .leq => some (.bool (ltL a b || eqL a b))
  | .gtr => some (.bool (!(ltL a b || eqL a b)))
  | .geq => some (.bool (!ltL a b))
  | _ => none

/-- equality of two values of one cell, at a type's description -/
def eqCell (d : TypeDesc) (x y : AV) : Option Bool :=
  match d, x, y with
  | .bool, .bool a, .bool b => some (a == b)
  | .int _, .int k a, .int k' b => if k = k' then some (eqI a b) else none
  | .string, .str a, .str b => some (eqL a b)
  | _, _, _ => none
def eqFields (E : Env) (xs ys : List AV) : List Field → Option Bool
  | [] => some true
  | f :: fs => if f.name = "_" then none else
    match E.ts.get f.type, nth xs f.offset, nth ys f.offset with
    | some t, some a, some b => (match eqCell t.desc a b with
      | some true => eqFields E xs ys fs
      | some false => some false
      | none => none)
    | _, _, _ => none
def eqArr (d : TypeDesc) : List AV → List AV → Option Bool
  | [], [] => some true
  | a :: xs, b :: ys => (match eqCell d a b with
    | some true => eqArr d xs ys
    | some false => some false
    | none => none)
  | _, _ => none

def eqV (E : Env) (t : TypeId) (x y : AV) : Option Bool :=
  match E.ts.get t with
  | none => none
  | some i => match i.desc, x, y with
    | .bool, .bool a, .bool b => some (a == b)
    | .pointer _, .ptr none, .ptr b => some b.isNone
    | .pointer _, .ptr (some _), .ptr none => some false
    | .pointer e, .ptr (some (a, o)), .ptr (some (b, p)) => (match E.ts.get e with
      | some ei => if ei.size = 0 then none else if a = b then some (Nat.beq o p) else none
      | none => none)
    | .interface _, .nilIface, .iface _ _ => some false
    | .interface _, .iface _ _, .nilIface => some false
    | .slice _, .slice none _ _, .slice b _ _ => some b.isNone
    | .slice _, .slice (some _) _ _, .slice none _ _ => some false
    | .map _ _, .map none, .map b => some b.isNone
    | .map _ _, .map (some _), .map none => some false
    | .chan _ _, .chan none, .chan b => some b.isNone
    | .chan _ _, .chan (some _), .chan none => some false
    | .func _ _ _, .nilFunc, .nilFunc => some true
    | .func _ _ _, .nilFunc, .func _ _ _ => some false
    | .func _ _ _, .func _ _ _, .nilFunc => some false
    | .struct fs, .agg xs, .agg ys => cond (E.be t) (eqFields E xs ys fs.toList) none
    | .array n e, .agg xs, .agg ys => (match E.ts.get e with
      | some ei => cond (E.be t && (Nat.beq xs.length n && (Nat.beq ys.length n && Nat.beq ei.size 1))) (eqArr ei.desc xs ys) none
      | none => none)
    | _, _, _ => none

def binA (E : Env) (op : BinOp) (t : TypeId) (x y : AV) : Option AV :=
  match x, y with
  | .int k a, .int yk b => (match op with
    | .shl => (match b with
      | .ofNat n => shiftA .shl k a n
      | .negSucc _ => none)
    | .shr => (match b with
      | .ofNat n => shiftA .shr k a n
      | .negSucc _ => none)
    | .and => if k = yk then (match a, b with
      | .ofNat m, .ofNat n => bitsA .and k m n
      | _, _ => none) else none
    | .or => if k = yk then (match a, b with
      | .ofNat m, .ofNat n => bitsA .or k m n
      | _, _ => none) else none
    | .xor => if k = yk then (match a, b with
      | .ofNat m, .ofNat n => bitsA .xor k m n
      | _, _ => none) else none
    | op => if k = yk then arithA op k a b else none)
  | .str a, .str b => strA op a b
  | x, y => (match op with
    | .eql => (match eqV E t x y with
      | some b => some (.bool b)
      | none => none)
    | .neq => (match eqV E t x y with
      | some b => some (.bool (!b))
      | none => none)
    | _ => none)

def unA (op : UnOp) (x : AV) : Option AV :=
  match op, x with
  | .neg, .int k n => intV k (wrapA k (0 - n))
  | .not, .bool b => some (.bool (!b))
  | _, _ => none

def natOf : AV → Option Nat
  | .int _ (.ofNat n) => some n
  | _ => none

def bytesOf : List AV → Option (List UInt8)
  | [] => some []
  | .int .u8 (.ofNat n) :: l => (match bytesOf l with
    | some r => some (UInt8.ofNat n :: r)
    | none => none)
  | _ => none
def cellsOfBytes : List UInt8 → List AV
  | [] => []
  | b :: l => .int .u8 (.ofNat b.toNat) :: cellsOfBytes l

/-! reading and writing memory -/
def loadA (x : TI) (h : H) (i o : Nat) : Option AV :=
  match h.t.get i with
  | some (.cells cs _ _ _) => cond x.agg (match sub o x.size cs with
      | some l => some (.agg l)
      | none => none) (nth cs o)
  | _ => none
def storeA (x : TI) (h : H) (i o : Nat) (v : AV) : Option (AV × H) :=
  match h.t.get i with
  | some (.cells cs e ext true) =>
    cond (Nat.beq v.cells.length x.size && allOne v.cells) (match write o v.cells cs with
      | some cs => putO h i (some (.cells cs e ext true)) fun h => some (undefA, h)
      | none => none) none
  | _ => none

def fillA (place : Nat → Option (Nat × Nat)) : List Nat → List AV → List AV → Option (List AV)
  | [], [], z => some z
  | i :: is, v :: vs, z => (match place i with
    | none => none
    | some (off, size) => cond (Nat.beq v.cells.length size && Nat.ble (off + size) z.length) (match write off v.cells z with
      | some z => fillA place is vs z
      | none => none) none)
  | _, _, _ => none
def fieldPlaceA (E : Env) (fs : Array Field) (i : Nat) : Option (Nat × Nat) :=
  match nth fs.toList i with
  | some f => (match E.ts.get f.type with
    | some x => some (f.offset, x.size)
    | none => none)
  | none => none

def buildA (E : Env) (t : TypeId) (is : List Nat) (vs : List AV) : Option AV :=
  match E.ts.get t with
  | some x => (match x.desc with
    | .struct fs => (match fillA (fieldPlaceA E fs) is vs x.zero.cells with
      | some cs => fL cs fun cs => some (.agg cs)
      | none => none)
    | .array _ e => (match E.ts.get e with
      | some y => (match fillA (fun i => some (i * y.size, y.size)) is vs x.zero.cells with
        | some cs => fL cs fun cs => some (.agg cs)
        | none => none)
      | none => none)
    | _ => none)
  | none => none
def buildSliceA (E : Env) (t : TypeId) (len : Nat) (is : List Nat) (vs : List AV) : Option (AObj × (Nat → AV)) :=
  match E.ts.get t with
  | some x => (match x.desc with
    | .slice e => (match E.ts.get e with
      | some y => cond (Nat.ble (len * y.size) 100000) (match fillA (fun i => some (i * y.size, y.size)) is vs (rep len y.zero.cells) with
        | some cs => fL cs fun cs => some (.cells cs e none true, fun j => .slice (some (j, 0)) len (some len))
        | none => none) none
      | none => none)
    | _ => none)
  | none => none

/-- conversions that leave memory alone -/
def convR (E : Env) (src dst : TypeId) (x : AV) (h : H) : Option AV :=
  match E.ts.get src, E.ts.get dst with
  | some s, some d => (match d.desc, x with
    | .int k, .int _ n => intV k (wrapA k n)
    | .string, .str s => some (.str s)
    | .string, .slice a n _ => (match s.desc with
      | .slice e => (match E.ts.get e with
        | some y => (match y.desc with
          | .int .u8 => (match a with
            | none => some (.str [])
            | some (i, o) => (match h.t.get i with
              | some (.cells cs _ _ _) => (match sub o n cs with
                | some l => (match bytesOf l with
                  | some s => some (.str s)
                  | none => none)
                | none => none)
              | _ => none))
          | _ => none)
        | none => none)
      | _ => none)
    | .unsafePointer, .ptr (some (i, 0)) => (match s.desc, h.t.get i with
      | .pointer t, some (.cells (_ :: _) e none _) => cond (E.bx t e) (some (.ptr (some (i, 0)))) none
      | _, _ => none)
    | .pointer u, .ptr (some (i, 0)) => (match s.desc, h.t.get i with
      | .unsafePointer, some (.cells cs e none _) => (match E.ts.get e with
        | some y => cond (E.bx u e && Nat.beq cs.length y.size) (some (.ptr (some (i, 0)))) none
        | none => none)
      | _, _ => none)
    | _, _ => none)
  | _, _ => none
/-- a text as bytes -/
def convN (E : Env) (src dst : TypeId) (x : AV) : Option (AObj × (Nat → AV)) :=
  match E.ts.get src, E.ts.get dst, x with
  | some _, some d, .str b => (match d.desc with
    | .slice e => (match E.ts.get e with
      | some y => (match y.desc with
        | .int .u8 => cond (Nat.ble b.length 1000000) (fN b.length fun n => some (.cells (cellsOfBytes b) e (some 1) true, fun j => .slice (some (j, 0)) n none)) none
        | _ => none)
      | none => none)
    | _ => none)
  | _, _, _ => none

/-- an optional bound, and the values behind it -/
def optV (o : Option Operand) (vs : List AV) : Option (Option AV × List AV) :=
  match o, vs with
  | none, vs => some (none, vs)
  | some _, v :: vs => some (some v, vs)
  | some _, [] => none
def boundA (d : Nat) : Option AV → Option Nat
  | none => some d
  | some v => natOf v
def moveA (a : Option (Nat × Nat)) (n : Nat) : Option (Nat × Nat) :=
  match a with
  | none => none
  | some (i, o) => fN (o + n) fun o => some (i, o)
def sliceB (E : Env) (t : TypeId) (x : AV) (lo hi mx : Option AV) : Option AV :=
  match E.ts.get t with
  | none => none
  | some ti => match ti.desc, x with
    | .string, .str s => (match boundA 0 lo, boundA s.length hi, mx with
      | some l, some h, none => cond (Nat.ble l h && Nat.ble h s.length) (match sub l (h - l) s with
        | some r => some (.str r)
        | none => none) none
      | _, _, _ => none)
    | .slice e, .slice a len cap => (match E.ts.get e, boundA 0 lo, boundA len hi, mx, cap with
      | some y, some l, some h, none, some c => cond (Nat.ble l h && Nat.ble h len && Nat.ble len c) (some (.slice (cond (Nat.beq c l) a (moveA a (l * y.size))) (h - l) (some (c - l)))) none
      | some y, some l, some h, some m, some c => (match natOf m with
        | some m => cond (hi.isSome && Nat.ble l h && Nat.ble h m && Nat.ble m c) (some (.slice (cond (Nat.beq m l) a (moveA a (l * y.size))) (h - l) (some (m - l)))) none
        | none => none)
      | some _, some 0, some h, none, none => cond (Nat.ble h len) (some (.slice a h none)) none
      | some y, some l, some h, some m, none => (match natOf m with
        | some m => cond (hi.isSome && Nat.ble l h && Nat.ble h m && Nat.ble m len) (some (.slice (cond (Nat.beq m l) a (moveA a (l * y.size))) (h - l) (some (m - l)))) none
        | none => none)
      | _, _, _, _, _ => none)
    | .array n e, .ptr (some a) => (match E.ts.get e, boundA 0 lo, boundA n hi, mx with
      | some y, some l, some h, none => cond (Nat.ble l h && Nat.ble h n) (some (.slice (cond (Nat.beq n l) (some a) (moveA (some a) (l * y.size))) (h - l) (some (n - l)))) none
      | _, _, _, _ => none)
    | _, _ => none
def sliceA (E : Env) (t : TypeId) (lo hi mx : Option Operand) (vs : List AV) : Option AV :=
  match vs with
  | [] => none
  | x :: vs => match optV lo vs with
    | none => none
    | some (l, vs) => match optV hi vs with
      | none => none
      | some (h, vs) => match optV mx vs with
        | some (m, []) => sliceB E t x l h m
        | _ => none

def fieldAddrA (E : Env) (s : TypeId) (x : AV) (f : Nat) : Option AV :=
  match E.ts.get s, x with
  | some t, .ptr (some (i, o)) => (match t.desc with
    | .struct fs => (match nth fs.toList f with
      | some f => (match E.ts.get f.type with
        | some y => cond (Nat.beq y.size 0) none (fN (o + f.offset) fun o => some (.ptr (some (i, o))))
        | none => none)
      | none => none)
    | _ => none)
  | _, _ => none
def partA (y : TI) (cs : List AV) (off : Nat) : Option AV :=
  cond y.agg (match sub off y.size cs with
    | some l => some (.agg l)
    | none => none) (nth cs off)
def fieldA (E : Env) (t : TypeId) (x : AV) (f : Nat) : Option AV :=
  match E.ts.get t, x with
  | some t, .agg cs => (match t.desc with
    | .struct fs => (match nth fs.toList f with
      | some f => (match E.ts.get f.type with
        | some y => partA y cs f.offset
        | none => none)
      | none => none)
    | _ => none)
  | _, _ => none
def indexAddrA (E : Env) (t : TypeId) (x ix : AV) : Option AV :=
  match E.ts.get t, natOf ix with
  | some t, some i => (match t.desc, x with
    | .array n e, .ptr (some (b, o)) => (match E.ts.get e with
      | some y => cond (Nat.blt i n) (fN (o + i * y.size) fun o => some (.ptr (some (b, o)))) none
      | none => none)
    | .slice e, .slice (some (b, o)) n _ => (match E.ts.get e with
      | some y => cond (Nat.blt i n) (fN (o + i * y.size) fun o => some (.ptr (some (b, o)))) none
      | none => none)
    | _, _ => none)
  | _, _ => none
def indexA (E : Env) (t : TypeId) (x ix : AV) : Option AV :=
  match E.ts.get t, natOf ix with
  | some t, some i => (match t.desc, x with
    | .array n e, .agg cs => (match E.ts.get e with
      | some y => cond (Nat.blt i n) (partA y cs (i * y.size)) none
      | none => none)
    | .string, .str s => (match nth s i with
      | some b => fN b.toNat fun n => some (.int .u8 (.ofNat n))
      | none => none)
    | _, _ => none)
  | _, _ => none

/-! maps -/
def keyEq (a b : AV) : Option Bool :=
  match a, b with
  | .int k m, .int k' n => if k = k' then some (eqI m n) else none
  | .str s, .str t => some (eqL s t)
  | _, _ => none
def findA (k : AV) : List (AV × AV × Nat) → Nat → Option (Option (Nat × AV × Nat))
  | [], _ => some none
  | (k', v, b) :: es, i => (match keyEq k k' with
    | some true => some (some (i, v, b))
    | some false => findA k es (i + 1)
    | none => none)
/-- is the key's type one of those that are treated: a map's key type -/
def keyT (E : Env) (t : TypeId) (k : AV) : Option TypeId :=
  match E.ts.get t with
  | some x => (match x.desc with
    | .map kt e => (match E.ts.get kt with
      | some y => (match y.desc, k with
        | .int _, .int _ _ => some e
        | .string, .str _ => some e
        | _, _ => none)
      | none => none)
    | _ => none)
  | none => none
def lookupA (E : Env) (t : TypeId) (m k : AV) (ok : Bool) (h : H) : Option AV :=
  match keyT E t k with
  | none => none
  | some e => match E.ts.get e with
    | none => none
    | some y =>
      let out (v : AV) (b : Bool) : Option AV := cond ok (some (.tuple [v, .bool b])) (some v)
      match m with
      | .map none => out y.zero false
      | .map (some r) => (match h.t.get r with
        | some (.map es _) => (match findA k es 0 with
          | some (some (_, v, _)) => out v true
          | some none => out y.zero false
          | none => none)
        | _ => none)
      | _ => none
def mapUpdateA (E : Env) (t : TypeId) (m k v : AV) (h : H) : Option (AV × H) :=
  match keyT E t k, m with
  | some _, .map (some r) => (match h.t.get r with
    | some (.map es c) => (match findA k es 0 with
      | some (some (i, _, _)) => fL (modA (fun q => (k, v, q.2.2)) i es) fun es => putO h r (some (.map es c)) fun h => some (undefA, h)
      | some none => fL (es ++ [(k, v, c)]) fun es => fN (c + 1) fun c => putO h r (some (.map es c)) fun h => some (undefA, h)
      | none => none)
    | _ => none)
  | _, _ => none
def mapEntryA (E : Env) (t : TypeId) (m k : AV) (h : H) : Option (AV × H) :=
  match keyT E t k, m with
  | some e, .map (some r) => (match h.t.get r, E.ts.get e with
    | some (.map es c), some y => (match findA k es 0 with
      | some (some (i, v, b)) => fL (modA (fun q => (k, q.2.1, q.2.2)) i es) fun es => putO h r (some (.map es c)) fun h => some (.tuple [v, .int .i64 (.ofNat b)], h)
      | some none => fL (es ++ [(k, y.zero, c)]) fun es => fN (c + 1) fun d => putO h r (some (.map es d)) fun h => some (.tuple [y.zero, .int .i64 (.ofNat c)], h)
      | none => none)
    | _, _ => none)
  | _, _ => none
def bornA (b : Nat) : List (AV × AV × Nat) → Nat → Option Nat
  | [], _ => none
  | e :: es, i => cond (Nat.beq e.2.2 b) (some i) (bornA b es (i + 1))
def entryStoreA (m s v : AV) (h : H) : Option (AV × H) :=
  match m, natOf s with
  | .map (some r), some b => (match h.t.get r with
    | some (.map es c) => (match bornA b es 0 with
      | some i => fL (modA (fun q => (q.1, v, q.2.2)) i es) fun es => putO h r (some (.map es c)) fun h => some (undefA, h)
      | none => none)
    | _ => none)
  | _, _ => none
def deleteA (E : Env) (t : TypeId) (m k : AV) (h : H) : Option (AV × H) :=
  match keyT E t k, m with
  | some _, .map (some r) => (match h.t.get r with
    | some (.map es c) => (match findA k es 0 with
      | some (some (i, _, _)) => fL (eraseA i es) fun es => putO h r (some (.map es c)) fun h => some (undefA, h)
      | some none => some (undefA, h)
      | none => none)
    | _ => none)
  | _, _ => none

def rangeA (E : Env) (t : TypeId) (x : AV) (h : H) : Option (AV × H) :=
  match E.ts.get t with
  | none => none
  | some ti => match ti.desc, x with
    | .string, .str s => newO h (.strIter s 0) fun j h => some (.ptr (some (j, 0)), h)
    | .map _ _, .map none => newO h (.mapIter none 0 [] 0) fun j h => some (.ptr (some (j, 0)), h)
    | .map _ _, .map (some r) => (match h.t.get r with
      | some (.map _ c) => newO h (.mapIter (some r) c [] c) fun j h => some (.ptr (some (j, 0)), h)
      | _ => none)
    | _, _ => none
def nextA (it : AV) (isS : Bool) (h : H) : Option (AV × H) :=
  match it with
  | .ptr (some (r, 0)) => (match h.t.get r with
    | some (.strIter s pos) => cond isS (cond (Nat.blt pos s.length)
        (match Utf8.decode ⟨⟨s⟩⟩ pos with
          | (c, w) => fN (pos + w) fun p => fI c fun c => putO h r (some (.strIter s p)) fun h => some (.tuple [.bool true, .int .i64 (.ofNat pos), .int .i32 c], h))
        (some (.tuple [.bool false], h))) none
    | some (.mapIter none _ _ _) => cond isS none (some (.tuple [.bool false], h))
    | some (.mapIter (some m) since seen last) => cond isS none (match h.t.get m with
      | some (.map es c) => (match es, seen with
        | [], _ => some (.tuple [.bool false], h)
        | [(k, v, b)], [] => cond (Nat.blt b since) (putO h r (some (.mapIter (some m) since [b] c)) fun h => some (.tuple [.bool true, k, v], h)) none
        | [(_, _, b)], [b'] => cond (Nat.beq b b' && Nat.blt b last) (some (.tuple [.bool false], h)) none
        | _, _ => none)
      | _ => none)
    | _ => none)
  | _ => none
def entryA (it : AV) (h : H) : Option AV :=
  match it with
  | .ptr (some (r, 0)) => (match h.t.get r with
    | some (.mapIter (some m) _ [b] st) => (match h.t.get m with
      | some (.map [(k, v, b')] c) => cond (Nat.beq b b' && Nat.beq c st) (some (.tuple [k, v])) none
      | _ => none)
    | _ => none)
  | _ => none

def isIfc : TypeDesc → Bool
  | .interface _ => true
  | _ => false
def typeAssertA (E : Env) (t : TypeId) (ok : Bool) (x : AV) : Option AV :=
  match E.ts.get t with
  | none => none
  | some ti => cond (isIfc ti.desc) none (match x with
      | .iface u y => if u = t then cond ok (some (.tuple [y, .bool true])) (some y) else cond ok (some (.tuple [ti.zero, .bool false])) none
      | .nilIface => cond ok (some (.tuple [ti.zero, .bool false])) none
      | _ => none)

/-! append, copy, the other builtins -/
def lenOfA : AV → Option Nat
  | .slice _ n _ => some n
  | .str s => some s.length
  | _ => none
def firstCellsA (h : H) (size n : Nat) : AV → Option (List AV)
  | .slice (some (i, o)) _ _ => (match h.t.get i with
    | some (.cells cs _ _ _) => sub o (n * size) cs
    | _ => none)
  | .slice none _ _ => some []
  | .str s => (match takeN n s with
    | some l => some (cellsOfBytes l)
    | none => none)
  | _ => none
def fitsA (cap : Option Nat) (len need : Nat) : Bool :=
  match cap with
  | some c => Nat.ble need c
  | none => Nat.ble need len
def extIs (ext : Option Nat) (n : Nat) : Bool :=
  match ext with
  | some z => Nat.beq z n
  | none => false
def appendA (E : Env) (sT : TypeId) (xT : TypeId) (s x : AV) (h : H) : Option (AV × H) :=
  match E.ts.get sT, E.ts.get xT, s, lenOfA x with
  | some ts, some tx, .slice base len cap, some n => (match ts.desc, tx.desc with
    | .slice _, .int _ => none
    | .slice elem, _ => (match E.ts.get elem with
      | none => none
      | some te =>
        match firstCellsA h te.size n x with
        | none => none
        | some new => fN (len + n) fun need => cond (Nat.ble (need * te.bytes) 1000000 && Nat.ble need 1000000 && allOne new && Nat.beq new.length (n * te.size)) (
          let grow (old : List AV) (h : H) : Option (AV × H) :=
            fL (old ++ new) fun cs => newO h (.cells cs elem (some te.size) true) fun j h => some (.slice (some (j, 0)) need none, h)
          match base with
          | none => (match cap with
            | some c => cond (Nat.ble need c) (some (.slice none need (some c), h)) (cond (Nat.beq len 0) (grow [] h) none)
            | none => none)
          | some (i, o) => (match h.t.get i with
            | some (.cells cs e ext wr) =>
              cond (fitsA cap len need)
                (cond wr (match write (o + len * te.size) new cs with
                  | some cs => putO h i (some (.cells cs e ext wr)) fun h => some (.slice base need cap, h)
                  | none => none) (cond (Nat.beq n 0) (some (.slice base need cap, h)) none))
                (match sub o (len * te.size) cs with
                  | none => none
                  | some old => match cap with
                    | some _ => grow old h
                    | none => cond (Nat.beq o 0 && Nat.beq cs.length (len * te.size) && wr && extIs ext te.size && Nat.beq e elem) (putO h i none fun h => grow old h) none)
            | _ => none)) none)
    | _, _ => none)
  | _, _, _, _ => none
def copyA (E : Env) (t : TypeId) (dst src : AV) (h : H) : Option (AV × H) :=
  match E.ts.get t, dst, lenOfA src with
  | some ti, .slice base dLen _, some m => (match ti.desc with
    | .slice e => (match E.ts.get e with
      | none => none
      | some y => fN (Nat.min m dLen) fun n => match firstCellsA h y.size n src with
        | none => none
        | some new => cond (allOne new && Nat.beq new.length (n * y.size)) (match base with
          | none => some (.int .i64 (.ofNat n), h)
          | some (i, o) => (match h.t.get i with
            | some (.cells cs e ext true) => (match write o new cs with
              | some cs => putO h i (some (.cells cs e ext true)) fun h => some (.int .i64 (.ofNat n), h)
              | none => none)
            | _ => none)) none)
    | _ => none)
  | _, _, _ => none
def lenA (E : Env) (t : TypeId) (x : AV) (h : H) : Option AV :=
  match E.ts.get t with
  | none => none
  | some ti => match ti.desc, x with
    | .string, .str s => fN s.length fun n => some (.int .i64 (.ofNat n))
    | .slice _, .slice _ n _ => some (.int .i64 (.ofNat n))
    | .map _ _, .map none => some (.int .i64 (.ofNat 0))
    | .map _ _, .map (some r) => (match h.t.get r with
      | some (.map es _) => fN es.length fun n => some (.int .i64 (.ofNat n))
      | _ => none)
    | .chan _ _, .chan (some r) => (match h.t.get r with
      | some (.chan _ b _) => fN b.length fun n => some (.int .i64 (.ofNat n))
      | _ => none)
    | .array n _, _ => some (.int .i64 (.ofNat n))
    | _, _ => none
def capA (E : Env) (t : TypeId) (x : AV) (h : H) : Option AV :=
  match E.ts.get t with
  | none => none
  | some ti => match ti.desc, x with
    | .slice _, .slice _ _ (some c) => some (.int .i64 (.ofNat c))
    | .chan _ _, .chan (some r) => (match h.t.get r with
      | some (.chan c _ _) => some (.int .i64 (.ofNat c))
      | _ => none)
    | _, _ => none
def unsafeStringA (E : Env) (t : TypeId) (p n : AV) (h : H) : Option (AV × H) :=
  match natOf n, p with
  | some 0, .ptr _ => some (.str [], h)
  | some n, .ptr (some (i, 0)) => (match h.t.get i with
    | some (.cells cs e ext _) => cond (E.bs t e && Nat.ble n 1000000) (match sub 0 n cs with
      | some l => (match bytesOf l with
        | some s => putO h i (some (.cells cs e ext false)) fun h => some (.str s, h)
        | none => none)
      | none => none) none
    | _ => none)
  | _, _ => none

def nv (r : Option (AV × H)) : Option (AN × H) :=
  match r with
  | some (v, h) => some (.val v, h)
  | none => none
def nh (h : H) (r : Option AV) : Option (AN × H) :=
  match r with
  | some v => some (.val v, h)
  | none => none

def builtinL (E : Env) (b : Builtin) (ats : Array TypeId) (vs : List AV) (h : H) : Option AV :=
  match b, ats.toList, vs with
  | .len, t :: _, [x] => lenA E t x h
  | .cap, t :: _, [x] => capA E t x h
  | .max, _, [.int k a, .int _ b] => some (.int k (cond (ltI a b) b a))
  | .min, _, [.int k a, .int _ b] => some (.int k (cond (ltI b a) b a))
  | .unsafeSliceData, _, [.slice none _ (some _)] => some (.ptr none)
  | .unsafeSliceData, _, [.slice (some a) n none] => cond (Nat.beq n 0) none (some (.ptr (some a)))
  | _, _, _ => none
def builtinA (E : Env) (b : Builtin) (ats : Array TypeId) (vs : List AV) (h : H) : Option (AN × H) :=
  match b, ats.toList, vs with
  | .append, [t, u], [s, x] => nv (appendA E t u s x h)
  | .copy, t :: _, [d, s] => nv (copyA E t d s h)
  | .recover, _, [] => some (.recover, h)
  | .close, _, [.chan (some r)] => (match h.t.get r with
    | some (.chan c b false) => putO h r (some (.chan c b true)) fun h => some (.val undefA, h)
    | _ => none)
  | .delete, t :: _, [m, k] => nv (deleteA E t m k h)
  | .unsafeString, t :: _, [p, n] => nv (unsafeStringA E t p n h)
  | _, _, _ => none

def indexByteA (c : Nat) : List UInt8 → Nat → Int
  | [], _ => -1
  | b :: l, i => cond (Nat.beq b.toNat c) (Int.ofNat i) (indexByteA c l (i + 1))

def callA (E : Env) (f : FuncId) (args : List AV) (h : H) : Option (AN × H) :=
  match E.fs.get f with
  | none => none
  | some fn => match fn.body with
    | some _ => some (.enter f args, h)
    | none =>
      if fn.name = "internal/abi.NoEscape" then (match args with
        | [x] => some (.val x, h)
        | _ => none)
      else if fn.name = "maps.clone" then (match args with
        | [.iface t (.map (some r))] => (match h.t.get r with
          | some (.map es c) => newO h (.map es c) fun j h => some (.val (.iface t (.map (some j))), h)
          | _ => none)
        | _ => none)
      else none

def splitN {α : Type} : Nat → List α → Option (List α × List α)
  | 0, l => some ([], l)
  | _ + 1, [] => none
  | n + 1, a :: l => match splitN n l with
    | some (x, y) => some (a :: x, y)
    | none => none

def valueCallA (E : Env) (f : AV) (args : List AV) (h : H) : Option (AN × H) :=
  match f with
  | .func f first cap => fL (first ++ args ++ cap) fun args => callA E f args h
  | .yield l => some (.round l args, h)
  | _ => none

def opCall (E : Env) (c : Call) (vs : List AV) (h : H) : Option (AN × H) :=
  match c.callee, vs with
  | .builtin b, vs => builtinA E b c.argTypes vs h
  | .value _, f :: args => valueCallA E f args h
  | .invoke _ name, r :: args => (match r with
    | .iface t v => (match E.ms t name with
      | some f => callA E f (v :: args) h
      | none => none)
    | _ => none)
  | _, [] => none

/-- operations that leave memory alone -/
def lightA (E : Env) (o : Op) (vs : List AV) (h : H) : Option AV :=
  match o, vs with
  | .move _, [x] => some x
  | .assign _, [x] => some x
  | .pick _ _ _, [.bool c, a, b] => cond c (some a) (some b)
  | .build t ps, vs => buildA E t (ps.toList.map (·.1)) vs
  | .load t _, [.ptr (some (i, o))] => (match E.ts.get t with
    | some x => loadA x h i o
    | none => none)
  | .nilCheck _, [x] => (match x with
    | .ptr (some a) => some (.ptr (some a))
    | .func f a b => some (.func f a b)
    | .yield l => some (.yield l)
    | _ => none)
  | .binOp op t _ _ _, [x, y] => binA E op t x y
  | .unOp op _ _, [x] => unA op x
  | .convert s d _, [x] => convR E s d x h
  | .sliceToArrayPointer arr _, [x] => (match E.ts.get arr with
    | some ti => (match ti.desc, x with
      | .array n _, .slice a len _ => cond (Nat.ble n len) (some (.ptr a)) none
      | _, _ => none)
    | none => none)
  | .makeInterface t _, [x] => (match E.ts.get t with
    | some ti => cond (isIfc ti.desc) none (some (.iface t x))
    | none => none)
  | .makeFunc fn first _, vs => (match fn, splitN first.size vs with
    | .func f, some (a, b) => some (.func f a b)
    | _, _ => none)
  | .slice t _ lo hi mx, vs => sliceA E t lo hi mx vs
  | .fieldAddr s _ f, [x] => fieldAddrA E s x f
  | .field t _ f, [x] => fieldA E t x f
  | .indexAddr t _ _, [x, i] => indexAddrA E t x i
  | .index t _ _, [x, i] => indexA E t x i
  | .lookup t _ _ ok, [m, k] => lookupA E t m k ok h
  | .entry _, [it] => entryA it h
  | .typeAssert _ _ t ok, [x] => typeAssertA E t ok x
  | .extract _ ix, [.tuple l] => nth l ix
  | .call c, vs => (match c.callee with
    | .builtin b => builtinL E b c.argTypes vs h
    | _ => none)
  | _, _ => none

/-- operations that make one block, out of their operands alone -/
def allocA (E : Env) (o : Op) (vs : List AV) : Option (AObj × (Nat → AV)) :=
  match o, vs with
  | .alloc t, [] => (match E.ts.get t with
    | some x => some (.cells x.zero.cells t none true, fun j => .ptr (some (j, 0)))
    | none => none)
  | .box t _, [v] => some (.cells v.cells t none true, fun j => .ptr (some (j, 0)))
  | .buildSlice t n ps, vs => buildSliceA E t n (ps.toList.map (·.1)) vs
  | .convert s d _, [x] => convN E s d x
  | .makeMap _ none, [] => some (.map [] 0, fun j => .map (some j))
  | .makeChan t _, [n] => (match E.ts.get t, natOf n with
    | some ti, some n => (match ti.desc with
      | .chan _ e => (match E.ts.get e with
        | some y => cond (Nat.ble n 1000000 && Nat.ble (y.bytes * n) 1000000) (some (.chan n [] false, fun j => .chan (some j))) none
        | none => none)
      | _ => none)
    | _, _ => none)
  | .makeSlice t _ _, [l, c] => (match E.ts.get t, natOf l, natOf c with
    | some ti, some l, some c => (match ti.desc with
      | .slice e => (match E.ts.get e with
        | some y => cond (Nat.ble l c && Nat.ble c 1000000 && Nat.ble (y.bytes * c) 1000000) (fL (rep c y.zero.cells) fun cs => some (.cells cs e none true, fun j => .slice (some (j, 0)) l (some c))) none
        | none => none)
      | _ => none)
    | _, _, _ => none)
  | _, _ => none

/-- all others -/
def effA (E : Env) (o : Op) (vs : List AV) (h : H) : Option (AN × H) :=
  match o, vs with
  | .store t _ _, [.ptr (some (i, o)), v] => (match E.ts.get t with
    | some x => nv (storeA x h i o v)
    | none => none)
  | .mapUpdate t _ _ _, [m, k, v] => nv (mapUpdateA E t m k v h)
  | .insert t _ _ _, [m, k, v] => nv (mapUpdateA E t m k v h)
  | .mapEntry t _ _, [m, k] => nv (mapEntryA E t m k h)
  | .entryStore _ _ _ _, [m, s, v] => nv (entryStoreA m s v h)
  | .range t _, [x] => nv (rangeA E t x h)
  | .next _ isS, [it] => nv (nextA it isS h)
  | .call c, vs => opCall E c vs h
  | .defer c, f :: args => (match c.callee, f with
    | .value _, .func f first cap => fL (first ++ args ++ cap) fun args => some (.defer f args, h)
    | _, _ => none)
  | o, vs => (match allocA E o vs with
    | some (ob, mk) => newO h ob fun j h => some (.val (mk j), h)
    | none => none)

/-- a communication, in a machine of one -/
def chanA (c : AV) (h : H) : Option (Nat × Nat × List AV × Bool) :=
  match c with
  | .chan (some r) => (match h.t.get r with
    | some (.chan cap buf cl) => some (r, cap, buf, cl)
    | _ => none)
  | _ => none
def sendA (c x : AV) (h : H) : Option (AV × H) :=
  match chanA c h with
  | some (r, cap, buf, cl) => cond cl none (cond (Nat.blt buf.length cap) (fL (buf ++ [x]) fun buf => putO h r (some (.chan cap buf false)) fun h => some (undefA, h)) none)
  | none => none
def recvA (E : Env) (t : TypeId) (ok : Bool) (c : AV) (h : H) : Option (AV × H) :=
  match E.ts.get t with
  | none => none
  | some ti => match ti.desc with
    | .chan _ e => (match E.ts.get e with
      | none => none
      | some y => match chanA c h with
        | none => none
        | some (r, cap, buf, cl) => match buf with
          | x :: buf => putO h r (some (.chan cap buf cl)) fun h => cond ok (some (.tuple [x, .bool true], h)) (some (x, h))
          | [] => cond cl (cond ok (some (.tuple [y.zero, .bool false], h)) (some (y.zero, h))) none)
    | _ => none
def selRecvA (E : Env) (bl : Bool) (e : TypeId) (c : AV) (h : H) : Option (AV × H) :=
  match E.ts.get e with
  | none => none
  | some y => match chanA c h with
    | none => none
    | some (r, cap, buf, cl) => match buf with
      | x :: buf => putO h r (some (.chan cap buf cl)) fun h => some (.tuple [.int .i64 0, .bool true, x], h)
      | [] => cond cl (some (.tuple [.int .i64 0, .bool false, y.zero], h)) (cond bl none (some (.tuple [.int .i64 (-1), .bool false, y.zero], h)))
def selSendA (E : Env) (e : TypeId) (c x : AV) (h : H) : Option (AV × H) :=
  match E.ts.get e with
  | none => none
  | some _ => match chanA c h with
    | none => none
    | some (r, cap, buf, cl) => cond cl none (cond (Nat.blt buf.length cap) (fL (buf ++ [x]) fun buf => putO h r (some (.chan cap buf false)) fun h => some (.tuple [.int .i64 0, .bool false], h)) (some (.tuple [.int .i64 (-1), .bool false], h)))
def selA (E : Env) (cs : List SelectCase) (bl : Bool) (vs : List AV) (h : H) : Option (AV × H) :=
  match cs with
  | [c] => (match c.send with
    | none => (match vs with
      | [a] => selRecvA E bl c.elem a h
      | _ => none)
    | some _ => cond bl none (match vs with
      | [a, x] => selSendA E c.elem a x h
      | _ => none))
  | _ => none
def commA (E : Env) (o : Op) (vs : List AV) (h : H) : Option (AV × H) :=
  match o with
  | .send _ _ => (match vs with
    | [c, x] => sendA c x h
    | _ => none)
  | .recv t _ ok => (match vs with
    | [c] => recvA E t ok c h
    | _ => none)
  | .select cs bl => selA E cs.toList bl vs h
  | _ => none

def isComm : Op → Bool
  | .send _ _ => true
  | .recv _ _ _ => true
  | .select _ _ => true
  | _ => false

/-! frames -/
def exitToA (id : Nat) : List AItem → Option (List AItem)
  | [] => none
  | .inBlock id' :: k => cond (Nat.beq id' id) (some k) (exitToA id k)
  | _ :: k => exitToA id k
def gotoInA (l : Nat) : List AItem → Option (List AItem)
  | [] => none
  | .inScope body :: k => (match findLabel body l with
    | some rest => some (.code rest :: .inScope body :: k)
    | none => gotoInA l k)
  | _ :: k => gotoInA l k

def wantedA (ops : Array Oper) (tm : T AV) (o : Oper) : Bool :=
  match o.guard with
  | none => true
  | some (j, want) => match nth ops.toList j with
    | some q => (match q.dst with
      | some d => (match tm.get d with
        | some (.bool b) => b == want
        | _ => false)
      | none => false)
    | none => false

def initTm {β : Type} : Nat → List AV → T AV → (T AV → β) → β
  | _, [], t, K => K t
  | i, v :: vs, t, K => T.setK (some v) (i + 1) t i fun t => initTm (i + 1) vs t K

def enterA {β : Type} (E : Env) (f : FuncId) (args : List AV) (dfr : Bool) (K : AF → Option β) : Option β :=
  match E.fs.get f with
  | some fn => (match fn.body with
    | some c => cond (Nat.ble args.length fn.ntmps) (initTm 0 args .nil fun tm =>
      K { fn := f, nt := fn.ntmps, tm := tm, todo := [.code c], defers := [], roundOf := none, deferred := dfr, ret := false }) none
    | none => none)
  | none => none

def resultA (E : Env) (tm : T AV) (h : H) : ResultVar → Option AV
  | .tmp t => aev tm (.tmp t)
  | .cell a t => (match tm.get a, E.ts.get t with
    | some (.ptr (some (i, o))), some x => loadA x h i o
    | _, _ => none)
def resultsA (E : Env) (tm : T AV) (h : H) : List ResultVar → Option (List AV)
  | [] => some []
  | r :: l => match resultA E tm h r with
    | none => none
    | some v => match resultsA E tm h l with
      | some vs => some (v :: vs)
      | none => none

def setParams {β : Type} (nt : Nat) : List Tmp → List AV → T AV → (T AV → Option β) → Option β
  | [], [], t, K => K t
  | p :: ps, v :: vs, t, K => cond (Nat.blt p nt) (T.setK (some v) (p + 1) t p fun t => setParams nt ps vs t K) none
  | _, _, _, _ => none

def putDst {β : Type} (nt : Nat) (dst : Option Tmp) (v : AV) (tm : T AV) (K : T AV → Option β) : Option β :=
  match dst with
  | none => K tm
  | some d => cond (Nat.blt d nt) (T.setK (some v) (d + 1) tm d K) none

/-! a run of a frame to its end -/
def endRoundA (l : Nat) (jump : Option Code) (h : H) : Option (AV × H) :=
  match h.t.get l with
  | some (.loop _ _ fn nt tm ps a b d) => putO h l (some (.loop (cond jump.isNone .ready .done) jump fn nt tm ps a b d)) fun h => some (.bool jump.isNone, h)
  | _ => none
def leaveA (rc : AF → H → Option (AV × H)) (fr : AF) (jump : Option Code) (h : H) : Option (AV × H) :=
  match fr.roundOf with
  | some l => endRoundA l jump h
  | none => (match jump with
    | none => rc { fr with ret := true } h
    | some .ret => rc { fr with ret := true } h
    | _ => none)

/-- what an operation that is no communication comes to, a call carried out wholly -/
def stepA (E : Env) (rc : AF → H → Option (AV × H)) (r : Option (AN × H)) : Option (AV × H) :=
  match r with
  | some (.val v, h) => some (v, h)
  | some (.enter f args, h) => enterA E f args false fun cf => rc cf h
  | some (.round l args, h) => (match h.t.get l with
    | some (.loop _ _ fn nt tm ps a b _) => setParams nt ps.toList args tm fun tm =>
      rc { fn := fn, nt := nt, tm := tm, todo := [.code a, .beginRound, .code b], defers := [], roundOf := some l, deferred := false, ret := false } h
    | _ => none)
  | _ => none

def eqAV : AV → AV → Bool
  | .bool a, .bool b => a == b
  | .int k a, .int j b => decide (k = j) && eqI a b
  | .str a, .str b => eqL a b
  | .ptr none, .ptr none => true
  | .ptr (some (a, o)), .ptr (some (b, p)) => Nat.beq a b && Nat.beq o p
  | .slice none n (some c), .slice none m (some d) => Nat.beq n m && Nat.beq c d
  | .slice (some (a, o)) n (some c), .slice (some (b, p)) m (some d) => Nat.beq a b && Nat.beq o p && Nat.beq n m && Nat.beq c d
  | .slice (some (a, o)) n none, .slice (some (b, p)) m none => Nat.beq a b && Nat.beq o p && Nat.beq n m
  | .map (some a), .map (some b) => Nat.beq a b
  | .map none, .map none => true
  | .chan (some a), .chan (some b) => Nat.beq a b
  | .nilFunc, .nilFunc => true
  | .nilIface, .nilIface => true
  | .agg xs, .agg ys => eqAVs xs ys
  | .tuple xs, .tuple ys => eqAVs xs ys
  | .func f [] [], .func g [] [] => Nat.beq f g
  | .iface t x, .iface u y => Nat.beq t u && eqAV x y
  | _, _ => false
where
  eqAVs : List AV → List AV → Bool
    | [], [] => true
    | x :: xs, y :: ys => cond (eqAV x y) (eqAVs xs ys) false
    | _, _ => false

/-- what came of an operation of a region that draws its order: the operands (none: it was not wanted), the value, the block -/
structure RR where
  vs : Option (List AV)
  v : AV
  ob : Option AObj

/-- the new blocks of these operations laid into a heap -/
def mergeA (base : Nat) (rs : List RR) (h : H) : List Nat → (H → Option (AV × H)) → Option (AV × H)
  | [], K => K h
  | x :: xs, K => match nth rs x with
    | some ⟨_, _, some ob⟩ => putO h (base + x) (some ob) fun h => mergeA base rs h xs K
    | some ⟨_, _, none⟩ => mergeA base rs h xs K
    | none => none
def mergeL (base : Nat) (rs : List RR) (h : H) : List Nat → (H → Bool) → Bool
  | [], K => K h
  | x :: xs, K => match nth rs x with
    | some ⟨_, _, some ob⟩ => putO h (base + x) (some ob) fun h => mergeL base rs h xs K
    | some ⟨_, _, none⟩ => mergeL base rs h xs K
    | none => false

def snoc {α β : Type} (l : List α) (a : α) (K : List α → β) : β := fL (l ++ [a]) K

/-- the operations of such a region, in the text's order: what came of each, and the heaps behind each effect -/
def regD (E : Env) (rc : AF → H → Option (AV × H)) (nt base : Nat) (ops : Array Oper) : List Oper → List PE → T AV → H → List H → List RR → (T AV → H → List H → List RR → Option (AV × H)) → Option (AV × H)
  | [], [], tm, h, hs, rs, K => K tm h hs rs
  | o :: os, p :: ps, tm, h, hs, rs, K =>
    cond (isComm o.op) none <| cond (wantedA ops tm o)
      (match aevL tm o.op.operands.toList with
        | none => none
        | some vs => (match p with
          | .eff req => mergeA base rs h req fun h => (match stepA E rc (effA E o.op vs h) with
            | none => none
            | some (v, h) => putDst nt o.dst v tm fun tm => snoc hs h fun hs => snoc rs ⟨some vs, v, none⟩ fun rs => regD E rc nt base ops os ps tm h hs rs K)
          | .alloc => (match allocA E o.op vs with
            | none => none
            | some (ob, mk) => fN (base + rs.length) fun j => putDst nt o.dst (mk j) tm fun tm => snoc rs ⟨some vs, mk j, some ob⟩ fun rs => regD E rc nt base ops os ps tm h hs rs K)
          | .light _ req => mergeA base rs h req fun h' => (match lightA E o.op vs h' with
            | none => none
            | some v => putDst nt o.dst v tm fun tm => snoc rs ⟨some vs, v, none⟩ fun rs => regD E rc nt base ops os ps tm h hs rs K)))
      (match p with
        | .eff req => mergeA base rs h req fun h => putDst nt o.dst undefA tm fun tm => snoc hs h fun hs => snoc rs ⟨none, undefA, none⟩ fun rs => regD E rc nt base ops os ps tm h hs rs K
        | _ => putDst nt o.dst undefA tm fun tm => snoc rs ⟨none, undefA, none⟩ fun rs => regD E rc nt base ops os ps tm h hs rs K)
  | _, _, _, _, _, _, _ => none

/-- a light operation comes to the same at each of these heaps -/
def sameAt (E : Env) (base : Nat) (o : Op) (vs : List AV) (v : AV) (hs : List H) (rs : List RR) (req : List Nat) : List Nat → Bool
  | [] => true
  | k :: ks => (match nth hs k with
    | none => false
    | some h => mergeL base rs h req fun h => (match lightA E o vs h with
      | none => false
      | some u => cond (eqAV u v) (sameAt E base o vs v hs rs req ks) false))
/-- all of a region -/
def sameAll (E : Env) (base : Nat) (hs : List H) (rs : List RR) : List Oper → List PE → List RR → Bool
  | o :: os, p :: ps, r :: rs' => cond (match p, r.vs with
      | .light ks req, some vs => sameAt E base o.op vs r.v hs rs req ks
      | _, _ => true) (sameAll E base hs rs os ps rs') false
  | [], [], [] => true
  | _, _, _ => false

/-! what a plan owes -/
def directs (o : Oper) : List Nat := o.after.toList.filterMap fun e => if Region.binds .any e then some e.on else none
def masks : List Oper → List Nat → List Nat
  | [], acc => acc
  | o :: os, acc => snoc acc ((directs o).foldl (fun s d => s ||| 2 ^ d ||| (acc.getD d 0)) 0) fun acc => masks os acc
def isEff : PE → Bool
  | .eff _ => true
  | _ => false
def isAlloc : PE → Bool
  | .alloc => true
  | _ => false
def bef (M : List Nat) (i j : Nat) : Bool := (M.getD j 0).testBit i
def slotsOk (M : List Nat) (ops : Array Oper) (i j : Nat) : Bool :=
  match ops[i]?, ops[j]? with
  | some a, some b => (match a.dst with
    | none => true
    | some d => (b.dst != some d) && (!(b.looksAt ops).contains d || bef M i j || bef M j i))
  | _, _ => false
def effAt (ps : List PE) (i : Nat) : Bool := match ps[i]? with
  | some p => isEff p
  | none => false
def allocAt (ps : List PE) (i : Nat) : Bool := match ps[i]? with
  | some p => isAlloc p
  | none => false
def planOp (M : List Nat) (ps : List PE) (n j : Nat) : Bool :=
  match ps[j]? with
  | some (.light ks req) =>
    ((List.range (n + 1)).all fun k => ks.contains k || Nat.blt k ((List.range n).countP fun i => effAt ps i && bef M i j) || Nat.blt ((List.range n).countP fun i => effAt ps i && !bef M j i) k) &&
    req.all fun x => allocAt ps x && bef M x j && (List.range n).all fun e => !effAt ps e || !bef M x e || bef M j e
  | some .alloc => true
  | some (.eff req) => req.all fun x => allocAt ps x && bef M x j && (List.range j).all fun e => !effAt ps e || !bef M x e
  | none => false
def planOk (ops : Array Oper) (pl : Plan) : Bool :=
  let n := ops.size
  let M := masks ops.toList []
  decide (pl.ps.length = n) && (decide (M.length = n) &&
  ((List.range n).all (fun j => match ops[j]? with
    | some o => (directs o).all fun d => Nat.blt d j
    | none => false) &&
  ((List.range n).all (fun j => (List.range j).all fun i => !effAt pl.ps i || !effAt pl.ps j || bef M i j) &&
  ((List.range n).all (fun j => (List.range n).all fun i => decide (i = j) || slotsOk M ops i j) &&
  ((List.range n).all (fun j => planOp M pl.ps n j) &&
  pl.fin.all fun x => allocAt pl.ps x && (List.range n).all fun e => !effAt pl.ps e || !bef M x e)))))

/-- rc: calls; rcN: what is left of the region -/
def opsA2 (E : Env) (rc rcN : AF → H → Option (AV × H)) (fr : AF) (h : H) (ops : Array Oper) (o : Oper) (rest : List Oper) (k : List AItem) : Option (AV × H) :=
  let go (v : AV) (h : H) : Option (AV × H) := putDst fr.nt o.dst v fr.tm fun tm => rcN { fr with tm := tm, todo := .ops ops rest :: k } h
  cond (wantedA ops fr.tm o)
    (match aevL fr.tm o.op.operands.toList with
      | none => none
      | some vs => cond (isComm o.op)
        (match commA E o.op vs h with
          | some (v, h) => go v h
          | none => none)
        (match lightA E o.op vs h with
          | some v => go v h
          | none => (match effA E o.op vs h with
            | some (.defer f args, h) => (match fr.roundOf with
              | some _ => none
              | none => putDst fr.nt o.dst undefA fr.tm fun tm => rcN { fr with tm := tm, todo := .ops ops rest :: k, defers := .call f args :: fr.defers } h)
            | some (.recover, h) => cond fr.deferred (match fr.roundOf with
              | some _ => none
              | none => go .nilIface h) none
            | r => (match stepA E rc r with
              | some (v, h) => go v h
              | none => none))))
    (go undefA h)

def opsA (E : Env) (rc : AF → H → Option (AV × H)) (fr : AF) (h : H) (ops : Array Oper) (o : Oper) (rest : List Oper) (k : List AItem) : Option (AV × H) := opsA2 E rc rc fr h ops o rest k

def codeA (E : Env) (rc : AF → H → Option (AV × H)) (fr : AF) (h : H) (c : Code) (k : List AItem) : Option (AV × H) :=
  match c with
  | .ret => leaveA rc fr (some .ret) h
  | .skip => rc { fr with todo := k } h
  | .label _ => rc { fr with todo := k } h
  | .seq a b => rc { fr with todo := .code a :: .code b :: k } h
  | .cond c a b => (match aev fr.tm c with
    | some (.bool t) => rc { fr with todo := .code (cond t a b) :: k } h
    | _ => none)
  | .block id body => rc { fr with todo := .code body :: .inBlock id :: k } h
  | .loop body => rc { fr with todo := .code body :: .inLoop body :: k } h
  | .scope body => rc { fr with todo := .code body :: .inScope body :: k } h
  | .exit id => (match exitToA id k with
    | some k => rc { fr with todo := k } h
    | none => leaveA rc fr (some (.exit id)) h)
  | .goto l => (match gotoInA l k with
    | some k => rc { fr with todo := k } h
    | none => leaveA rc fr (some (.goto l)) h)
  | .region id ops draw => cond draw
    (match E.plan ops with
      | none => none
      | some pl => cond (planOk ops pl) (match h with
        | ⟨base, t⟩ => fN (base + ops.size) fun next => regD E rc fr.nt base ops ops.toList pl.ps fr.tm ⟨next, t⟩ [⟨next, t⟩] [] fun tm h hs rs =>
          cond (sameAll E base hs rs ops.toList pl.ps rs) (mergeA base rs h pl.fin fun h => rc { fr with tm := tm, todo := k } h) none) none)
    (rc { fr with todo := .ops ops ops.toList :: k } h)
  | .rangeFunc f params assign body =>
    let go (d : Nat) (mark : List ADf) (h : H) : Option (AV × H) :=
      newO h (.loop .ready none fr.fn fr.nt fr.tm params assign body d) fun l h =>
      match aev fr.tm f with
      | some fv => (match stepA E rc (valueCallA E fv [.yield l] h) with
        | some (_, h) => rc { fr with todo := .endRangeFunc l :: k, defers := mark ++ fr.defers } h
        | none => none)
      | none => none
    (match fr.roundOf with
      | some l => (match h.t.get l with
        | some (.loop _ _ _ _ _ _ _ _ d) => go d [] h
        | _ => none)
      | none => newO h .deferred fun d h => go d [.collected d] h)
  | .refuse _ => none

def bodyA (E : Env) (rc : AF → H → Option (AV × H)) (fr : AF) (h : H) : Option (AV × H) :=
  cond fr.ret
    (match fr.defers with
      | [] => (match E.fs.get fr.fn with
        | some fn => (match resultsA E fr.tm h fn.results.toList with
          | some [v] => some (v, h)
          | some vs => some (.tuple vs, h)
          | none => none)
        | none => none)
      | .collected b :: ds => (match h.t.get b with
        | some .deferred => putO h b none fun h => rc { fr with defers := ds } h
        | _ => none)
      | .call f args :: ds => (match enterA E f args true fun cf => rc cf h with
        | some (_, h) => rc { fr with defers := ds } h
        | none => none))
    (match fr.todo with
      | [] => leaveA rc fr none h
      | .inBlock _ :: k => rc { fr with todo := k } h
      | .inScope _ :: k => rc { fr with todo := k } h
      | .inLoop body :: k => rc { fr with todo := .code body :: .inLoop body :: k } h
      | .code c :: k => codeA E rc fr h c k
      | .ops _ [] :: k => rc { fr with todo := k } h
      | .ops ops (o :: rest) :: k => opsA E rc fr h ops o rest k
      | .endRangeFunc l :: k => (match h.t.get l with
        | some (.loop st pend fn nt tm ps a b d) => if st = .busy then none else
          putO h l (some (.loop .exhausted pend fn nt tm ps a b d)) fun h =>
          rc { fr with todo := match pend with
            | some c => .code c :: k
            | none => k } h
        | _ => none)
      | .beginRound :: k => (match fr.roundOf with
        | some l => (match h.t.get l with
          | some (.loop .ready pend fn nt tm ps a b d) => putO h l (some (.loop .busy pend fn nt tm ps a b d)) fun h => rc { fr with todo := k } h
          | _ => none)
        | none => none))

def runA (E : Env) : Nat → AF → H → Option (AV × H)
  | 0, _, _ => none
  | n + 1, fr, h => bodyA E (runA E n) fr h

def callF (E : Env) (n : Nat) (f : FuncId) (args : List AV) (h : H) : Option (AV × H) := enterA E f args false fun cf => runA E n cf h

end Go.Ev
