/- A deterministic evaluator of the model's code over numbered blocks: its definitions. -/
import Derived.Calls
import Derived.Orders
import Derived.Below
import Derived.Laws.StructEq
namespace Go.Ev

/-! tries over numbers -/
inductive T (α : Type) where
  | nil
  | node (l : T α) (v : Option α) (r : T α)

def T.get {α : Type} : T α → Nat → Option α
  | .nil, _ => none
  | .node l v r, k => match k with
    | 0 => v
    | k + 1 => cond (Nat.beq (k % 2) 0) (l.get (k / 2)) (r.get (k / 2))

def T.setK {α β : Type} (x : Option α) : Nat → T α → Nat → (T α → β) → β
  | 0, t, _, K => K t
  | d + 1, t, k, K => match t, k with
    | .nil, 0 => K (.node .nil x .nil)
    | .nil, k + 1 => cond (Nat.beq (k % 2) 0) (T.setK x d .nil (k / 2) fun l => K (.node l none .nil)) (T.setK x d .nil (k / 2) fun r => K (.node .nil none r))
    | .node l _ r, 0 => K (.node l x r)
    | .node l v r, k + 1 => cond (Nat.beq (k % 2) 0) (T.setK x d l (k / 2) fun l => K (.node l v r)) (T.setK x d r (k / 2) fun r => K (.node l v r))

def T.set {α : Type} (x : Option α) (t : T α) (k : Nat) : T α := T.setK x (k + 1) t k id

/-! values -/
inductive AV where
  | bool (b : Bool)
  | int (k : IntKind) (n : Int)
  | str (s : List UInt8)
  | ptr (a : Option (Nat × Nat))
  | slice (a : Option (Nat × Nat)) (len : Nat) (cap : Option Nat)
  | map (r : Option Nat)
  | chan (r : Option Nat)
  | func (f : FuncId) (first captured : List AV)
  | yield (l : Nat)
  | nilFunc
  | iface (t : TypeId) (v : AV)
  | nilIface
  | agg (cs : List AV)
  | tuple (vs : List AV)

inductive AObj where
  | cells (cs : List AV) (elem : TypeId) (ext : Option Nat) (wr : Bool)
  | map (es : List (AV × AV × Nat)) (clock : Nat)
  | chan (cap : Nat) (buf : List AV) (closed : Bool)
  | strIter (s : List UInt8) (pos : Nat)
  | mapIter (m : Option Nat) (since : Nat) (seen : List Nat) (last : Nat)
  | loop (st : LoopState) (pending : Option Code) (fn : FuncId) (nt : Nat) (tm : T AV) (params : Array Tmp) (assign body : Code) (defers : Nat)
  | deferred

structure H where
  next : Nat
  t : T AObj

structure TI where
  desc : TypeDesc
  size : Nat
  bytes : Nat
  agg : Bool
  zero : AV

/-- an operation of a region that draws its order: it leaves memory alone (asked at so many effects, with these new blocks); it makes a block; it is an effect (behind these new blocks) -/
inductive PE where
  | light (ks req : List Nat)
  | alloc
  | eff (req : List Nat)
structure Plan where
  ps : List PE
  fin : List Nat

structure Env where
  fs : T Func
  ts : T TI
  ms : TypeId → String → Option FuncId
  bx : TypeId → TypeId → Bool
  be : TypeId → Bool
  bs : TypeId → TypeId → Bool
  plan : Array Oper → Option Plan
  /-- functions that are answered out of contracts, not run -/
  orc : T (List AV → H → Option (AV × H))

inductive AItem where
  | code (c : Code)
  | inBlock (id : Nat)
  | inLoop (body : Code)
  | inScope (body : Code)
  | ops (ops : Array Oper) (rest : List Oper)
  | endRangeFunc (l : Nat)
  | beginRound

inductive ADf where
  | call (f : FuncId) (args : List AV)
  | collected (b : Nat)

structure AF where
  fn : FuncId
  nt : Nat
  tm : T AV
  todo : List AItem
  defers : List ADf
  roundOf : Option Nat
  deferred : Bool
  ret : Bool

inductive AN where
  | val (v : AV)
  | enter (f : FuncId) (args : List AV)
  | round (l : Nat) (args : List AV)
  | defer (f : FuncId) (args : List AV)
  | recover

/-! forcing, for the kernel -/
def fN {β : Type} (n : Nat) (K : Nat → β) : β := match n with
  | 0 => K 0
  | m + 1 => K (m + 1)
def fI {β : Type} (n : Int) (K : Int → β) : β := match n with
  | .ofNat m => fN m fun m => K (.ofNat m)
  | .negSucc m => fN m fun m => K (.negSucc m)
def fL {α β : Type} : List α → (List α → β) → β
  | [], K => K []
  | a :: l, K => fL l fun l => K (a :: l)

def nth {α : Type} : List α → Nat → Option α
  | [], _ => none
  | a :: l, n => match n with
    | 0 => some a
    | n + 1 => nth l n
def takeN {α : Type} : Nat → List α → Option (List α)
  | 0, _ => some []
  | _ + 1, [] => none
  | n + 1, a :: l => match takeN n l with
    | some r => some (a :: r)
    | none => none
def dropN {α : Type} : Nat → List α → List α
  | 0, l => l
  | _ + 1, [] => []
  | n + 1, _ :: l => dropN n l
def sub {α : Type} (off n : Nat) (l : List α) : Option (List α) := takeN n (dropN off l)
/-- vs written over l from place n on; all places are there -/
def write {α : Type} : Nat → List α → List α → Option (List α)
  | _, [], l => some l
  | _, _ :: _, [] => none
  | 0, v :: vs, _ :: l => match write 0 vs l with
    | some r => some (v :: r)
    | none => none
  | n + 1, v :: vs, a :: l => match write n (v :: vs) l with
    | some r => some (a :: r)
    | none => none
def rep {α : Type} : Nat → List α → List α
  | 0, _ => []
  | n + 1, l => l ++ rep n l
def modA {α : Type} (f : α → α) : Nat → List α → List α
  | _, [] => []
  | 0, a :: l => f a :: l
  | n + 1, a :: l => a :: modA f n l
def eraseA {α : Type} : Nat → List α → List α
  | _, [] => []
  | 0, _ :: l => l
  | n + 1, a :: l => a :: eraseA n l

/-! the heap -/
def newO {β : Type} (h : H) (o : AObj) (K : Nat → H → β) : β :=
  match h with
  | ⟨n, t⟩ => T.setK (some o) (n + 1) t n fun t => fN (n + 1) fun m => K n ⟨m, t⟩
def putO {β : Type} (h : H) (i : Nat) (o : Option AObj) (K : H → β) : β :=
  match h with
  | ⟨n, t⟩ => T.setK o (i + 1) t i fun t => K ⟨n, t⟩

/-! operands -/
def undefA : AV := .tuple []

def ofV1 : Value → Option AV
  | .bool b => some (.bool b)
  | .int k n => some (.int k n)
  | .string s => some (.str s.data.toList)
  | .pointer none => some (.ptr none)
  | .slice none n c => some (.slice none n (some c))
  | .map none => some (.map none)
  | .chan none => some (.chan none)
  | .nilFunc => some .nilFunc
  | .nilIface => some .nilIface
  | _ => none
def ofV1s : List Value → Option (List AV)
  | [] => some []
  | v :: l => match ofV1 v, ofV1s l with
    | some a, some r => some (a :: r)
    | _, _ => none
def ofV : Value → Option AV
  | .agg cs => match ofV1s cs.toList with
    | some l => some (.agg l)
    | none => none
  | v => ofV1 v

def aev (tm : T AV) : Operand → Option AV
  | .tmp t => match tm.get t with
    | some v => some v
    | none => some undefA
  | .const v => ofV v
  | .global _ => none
  | .func f => some (.func f [] [])

def aevL (tm : T AV) : List Operand → Option (List AV)
  | [] => some []
  | x :: l => match aev tm x with
    | none => none
    | some v => match aevL tm l with
      | some r => some (v :: r)
      | none => none

def AV.cells : AV → List AV
  | .agg cs => cs
  | v => [v]
def AV.one : AV → Bool
  | .agg _ => false
  | .tuple _ => false
  | _ => true
def allOne : List AV → Bool
  | [] => true
  | v :: l => cond v.one (allOne l) false

/-! numbers, strings -/
def inR (k : IntKind) (n : Int) : Bool :=
  match n with
  | .ofNat m => (match k with
    | .i64 => Nat.ble m 9223372036854775807
    | .u8 => Nat.ble m 255
    | .u32 => Nat.ble m 4294967295
    | .u64 => Nat.ble m 18446744073709551615
    | .i32 => Nat.ble m 2147483647
    | _ => false)
  | .negSucc m => (match k with
    | .i64 => Nat.ble m 9223372036854775807
    | .i32 => Nat.ble m 2147483647
    | _ => false)
def wrapA (k : IntKind) (n : Int) : Int := cond (inR k n) n (k.wrap n)
def intV (k : IntKind) (n : Int) : Option AV := fI n fun n => some (.int k n)

def ltL : List UInt8 → List UInt8 → Bool
  | _, [] => false
  | [], _ :: _ => true
  | a :: x, b :: y => cond (Nat.blt a.toNat b.toNat) true (cond (Nat.beq a.toNat b.toNat) (ltL x y) false)
def eqL : List UInt8 → List UInt8 → Bool
  | [], [] => true
  | a :: x, b :: y => cond (Nat.beq a.toNat b.toNat) (eqL x y) false
  | [], _ :: _ => false
  | _ :: _, [] => false
def eqI : Int → Int → Bool
  | .ofNat m, .ofNat n => Nat.beq m n
  | .negSucc m, .negSucc n => Nat.beq m n
  | _, _ => false
def ltI : Int → Int → Bool
  | .ofNat m, .ofNat n => Nat.blt m n
  | .negSucc m, .negSucc n => Nat.blt n m
  | .negSucc _, .ofNat _ => true
  | .ofNat _, .negSucc _ => false

def arithA (op : BinOp) (k : IntKind) (a b : Int) : Option AV :=
  match op with
  | .add => intV k (wrapA k (a + b))
  | .sub => intV k (wrapA k (a - b))
  | .mul => intV k (wrapA k (a * b))
  | .quo => cond (eqI b 0) none (intV k (wrapA k (a.tdiv b)))
  | .rem => cond (eqI b 0) none (intV k (a.tmod b))
  | .eql => some (.bool (eqI a b))
  | .neq => some (.bool (!eqI a b))
  | .lss => some (.bool (ltI a b))
  | .leq => some (.bool (!ltI b a))
  | .gtr => some (.bool (ltI b a))
  | .geq => some (.bool (!ltI a b))
  | _ => none
/-- bits of numbers that are not below 0 and in range -/
def bitsA (op : BinOp) (k : IntKind) (m n : Nat) : Option AV :=
  cond (inR k (.ofNat m) && inR k (.ofNat n)) (match op with
    | .and => intV k (.ofNat (m &&& n))
    | .or => intV k (.ofNat (m ||| n))
    | .xor => intV k (.ofNat (m ^^^ n))
    | _ => none) none
def shiftA (op : BinOp) (k : IntKind) (a : Int) (n : Nat) : Option AV :=
  match op with
  | .shl => intV k (wrapA k (a * (2 ^ (min n k.bits) : Nat)))
  | .shr => (match a with
    | .ofNat m => intV k (.ofNat (m / 2 ^ (min n k.bits)))
    | .negSucc _ => none)
  | _ => none
def strA (op : BinOp) (a b : List UInt8) : Option AV :=
  match op with
  | .add => cond (Nat.ble (a.length + b.length) 1000000) (fL (a ++ b) fun s => some (.str s)) none
  | .eql => some (.bool (eqL a b))
  | .neq => some (.bool (!eqL a b))
  | .lss => some (.bool (ltL a b))
  | .leq => some (.bool (ltL a b || eqL a b))
  | .gtr => some (.bool (!(ltL a b || eqL a b)))
  | .geq => some (.bool (!ltL a b))
  | _ => none

/-- equality of two values of one cell, at a type's description -/
def eqCell (d : TypeDesc) (x y : AV) : Option Bool :=
  match d, x, y with
  | .bool, .bool a, .bool b => some (a == b)
  | .int _, .int k a, .int k' b => if k = k' then some (eqI a b) else none
  | .string, .str a, .str b => some (eqL a b)
  | _, _, _ => none
def eqFields (E : Env) (xs ys : List AV) : List Field → Option Bool
  | [] => some true
  | f :: fs => if f.name = "_" then none else
    match E.ts.get f.type, nth xs f.offset, nth ys f.offset with
    | some t, some a, some b => (match eqCell t.desc a b with
      | some true => eqFields E xs ys fs
      | some false => some false
      | none => none)
    | _, _, _ => none
def eqArr (d : TypeDesc) : List AV → List AV → Option Bool
  | [], [] => some true
  | a :: xs, b :: ys => (match eqCell d a b with
    | some true => eqArr d xs ys
    | some false => some false
    | none => none)
  | _, _ => none

def eqV (E : Env) (t : TypeId) (x y : AV) : Option Bool :=
  match E.ts.get t with
  | none => none
  | some i => match i.desc, x, y with
    | .bool, .bool a, .bool b => some (a == b)
    | .pointer _, .ptr none, .ptr b => some b.isNone
    | .pointer _, .ptr (some _), .ptr none => some false
    | .pointer e, .ptr (some (a, o)), .ptr (some (b, p)) => (match E.ts.get e with
      | some ei => if ei.size = 0 then none else if a = b then some (Nat.beq o p) else none
      | none => none)
    | .interface _, .nilIface, .iface _ _ => some false
    | .interface _, .iface _ _, .nilIface => some false
    | .slice _, .slice none _ _, .slice b _ _ => some b.isNone
    | .slice _, .slice (some _) _ _, .slice none _ _ => some false
    | .map _ _, .map none, .map b => some b.isNone
    | .map _ _, .map (some _), .map none => some false
    | .chan _ _, .chan none, .chan b => some b.isNone
    | .chan _ _, .chan (some _), .chan none => some false
    | .func _ _ _, .nilFunc, .nilFunc => some true
    | .func _ _ _, .nilFunc, .func _ _ _ => some false
    | .func _ _ _, .func _ _ _, .nilFunc => some false
    | .struct fs, .agg xs, .agg ys => cond (E.be t) (eqFields E xs ys fs.toList) none
    | .array n e, .agg xs, .agg ys => (match E.ts.get e with
      | some ei => cond (E.be t && (Nat.beq xs.length n && (Nat.beq ys.length n && Nat.beq ei.size 1))) (eqArr ei.desc xs ys) none
      | none => none)
    | _, _, _ => none

def binA (E : Env) (op : BinOp) (t : TypeId) (x y : AV) : Option AV :=
  match x, y with
  | .int k a, .int yk b => (match op with
    | .shl => (match b with
      | .ofNat n => shiftA .shl k a n
      | .negSucc _ => none)
    | .shr => (match b with
      | .ofNat n => shiftA .shr k a n
      | .negSucc _ => none)
    | .and => if k = yk then (match a, b with
      | .ofNat m, .ofNat n => bitsA .and k m n
      | _, _ => none) else none
    | .or => if k = yk then (match a, b with
      | .ofNat m, .ofNat n => bitsA .or k m n
      | _, _ => none) else none
    | .xor => if k = yk then (match a, b with
      | .ofNat m, .ofNat n => bitsA .xor k m n
      | _, _ => none) else none
    | op => if k = yk then arithA op k a b else none)
  | .str a, .str b => strA op a b
  | x, y => (match op with
    | .eql => (match eqV E t x y with
      | some b => some (.bool b)
      | none => none)
    | .neq => (match eqV E t x y with
      | some b => some (.bool (!b))
      | none => none)
    | _ => none)

def unA (op : UnOp) (x : AV) : Option AV :=
  match op, x with
  | .neg, .int k n => intV k (wrapA k (0 - n))
  | .not, .bool b => some (.bool (!b))
  | _, _ => none

def natOf : AV → Option Nat
  | .int _ (.ofNat n) => some n
  | _ => none

def bytesOf : List AV → Option (List UInt8)
  | [] => some []
  | .int .u8 (.ofNat n) :: l => (match bytesOf l with
    | some r => some (UInt8.ofNat n :: r)
    | none => none)
  | _ => none
def cellsOfBytes : List UInt8 → List AV
  | [] => []
  | b :: l => .int .u8 (.ofNat b.toNat) :: cellsOfBytes l

/-! reading and writing memory -/
def loadA (x : TI) (h : H) (i o : Nat) : Option AV :=
  match h.t.get i with
  | some (.cells cs _ _ _) => cond x.agg (match sub o x.size cs with
      | some l => some (.agg l)
      | none => none) (nth cs o)
  | _ => none
def storeA (x : TI) (h : H) (i o : Nat) (v : AV) : Option (AV × H) :=
  match h.t.get i with
  | some (.cells cs e ext true) =>
    cond (Nat.beq v.cells.length x.size && allOne v.cells) (match write o v.cells cs with
      | some cs => putO h i (some (.cells cs e ext true)) fun h => some (undefA, h)
      | none => none) none
  | _ => none

def fillA (place : Nat → Option (Nat × Nat)) : List Nat → List AV → List AV → Option (List AV)
  | [], [], z => some z
  | i :: is, v :: vs, z => (match place i with
    | none => none
    | some (off, size) => cond (Nat.beq v.cells.length size && Nat.ble (off + size) z.length) (match write off v.cells z with
      | some z => fillA place is vs z
      | none => none) none)
  | _, _, _ => none
def fieldPlaceA (E : Env) (fs : Array Field) (i : Nat) : Option (Nat × Nat) :=
  match nth fs.toList i with
  | some f => (match E.ts.get f.type with
    | some x => some (f.offset, x.size)
    | none => none)
  | none => none

def buildA (E : Env) (t : TypeId) (is : List Nat) (vs : List AV) : Option AV :=
  match E.ts.get t with
  | some x => (match x.desc with
    | .struct fs => (match fillA (fieldPlaceA E fs) is vs x.zero.cells with
      | some cs => fL cs fun cs => some (.agg cs)
      | none => none)
    | .array _ e => (match E.ts.get e with
      | some y => (match fillA (fun i => some (i * y.size, y.size)) is vs x.zero.cells with
        | some cs => fL cs fun cs => some (.agg cs)
        | none => none)
      | none => none)
    | _ => none)
  | none => none
def buildSliceA (E : Env) (t : TypeId) (len : Nat) (is : List Nat) (vs : List AV) : Option (AObj × (Nat → AV)) :=
  match E.ts.get t with
  | some x => (match x.desc with
    | .slice e => (match E.ts.get e with
      | some y => cond (Nat.ble (len * y.size) 100000) (match fillA (fun i => some (i * y.size, y.size)) is vs (rep len y.zero.cells) with
        | some cs => fL cs fun cs => some (.cells cs e none true, fun j => .slice (some (j, 0)) len (some len))
        | none => none) none
      | none => none)
    | _ => none)
  | none => none

/-- conversions that leave memory alone -/
def convR (E : Env) (src dst : TypeId) (x : AV) (h : H) : Option AV :=
  match E.ts.get src, E.ts.get dst with
  | some s, some d => (match d.desc, x with
    | .int k, .int _ n => intV k (wrapA k n)
    | .string, .str s => some (.str s)
    | .string, .slice a n _ => (match s.desc with
      | .slice e => (match E.ts.get e with
        | some y => (match y.desc with
          | .int .u8 => (match a with
            | none => some (.str [])
            | some (i, o) => (match h.t.get i with
              | some (.cells cs _ _ _) => (match sub o n cs with
                | some l => (match bytesOf l with
                  | some s => some (.str s)
                  | none => none)
                | none => none)
              | _ => none))
          | _ => none)
        | none => none)
      | _ => none)
    | .unsafePointer, .ptr (some (i, 0)) => (match s.desc, h.t.get i with
      | .pointer t, some (.cells (_ :: _) e none _) => cond (E.bx t e) (some (.ptr (some (i, 0)))) none
      | _, _ => none)
    | .pointer u, .ptr (some (i, 0)) => (match s.desc, h.t.get i with
      | .unsafePointer, some (.cells cs e none _) => (match E.ts.get e with
        | some y => cond (E.bx u e && Nat.beq cs.length y.size) (some (.ptr (some (i, 0)))) none
        | none => none)
      | _, _ => none)
    | _, _ => none)
  | _, _ => none
/-- a text as bytes -/
def convN (E : Env) (src dst : TypeId) (x : AV) : Option (AObj × (Nat → AV)) :=
  match E.ts.get src, E.ts.get dst, x with
  | some _, some d, .str b => (match d.desc with
    | .slice e => (match E.ts.get e with
      | some y => (match y.desc with
        | .int .u8 => cond (Nat.ble b.length 1000000) (fN b.length fun n => some (.cells (cellsOfBytes b) e (some 1) true, fun j => .slice (some (j, 0)) n none)) none
        | _ => none)
      | none => none)
    | _ => none)
  | _, _, _ => none

/-- an optional bound, and the values behind it -/
def optV (o : Option Operand) (vs : List AV) : Option (Option AV × List AV) :=
  match o, vs with
  | none, vs => some (none, vs)
  | some _, v :: vs => some (some v, vs)
  | some _, [] => none
def boundA (d : Nat) : Option AV → Option Nat
  | none => some d
  | some v => natOf v
def moveA (a : Option (Nat × Nat)) (n : Nat) : Option (Nat × Nat) :=
  match a with
  | none => none
  | some (i, o) => fN (o + n) fun o => some (i, o)
def sliceB (E : Env) (t : TypeId) (x : AV) (lo hi mx : Option AV) : Option AV :=
  match E.ts.get t with
  | none => none
  | some ti => match ti.desc, x with
    | .string, .str s => (match boundA 0 lo, boundA s.length hi, mx with
      | some l, some h, none => cond (Nat.ble l h && Nat.ble h s.length) (match sub l (h - l) s with
        | some r => some (.str r)
        | none => none) none
      | _, _, _ => none)
    | .slice e, .slice a len cap => (match E.ts.get e, boundA 0 lo, boundA len hi, mx, cap with
      | some y, some l, some h, none, some c => cond (Nat.ble l h && Nat.ble h len && Nat.ble len c) (some (.slice (cond (Nat.beq c l) a (moveA a (l * y.size))) (h - l) (some (c - l)))) none
      | some y, some l, some h, some m, some c => (match natOf m with
        | some m => cond (hi.isSome && Nat.ble l h && Nat.ble h m && Nat.ble m c) (some (.slice (cond (Nat.beq m l) a (moveA a (l * y.size))) (h - l) (some (m - l)))) none
        | none => none)
      | some _, some 0, some h, none, none => cond (Nat.ble h len) (some (.slice a h none)) none
      | some y, some l, some h, some m, none => (match natOf m with
        | some m => cond (hi.isSome && Nat.ble l h && Nat.ble h m && Nat.ble m len) (some (.slice (cond (Nat.beq m l) a (moveA a (l * y.size))) (h - l) (some (m - l)))) none
        | none => none)
      | _, _, _, _, _ => none)
    | .array n e, .ptr (some a) => (match E.ts.get e, boundA 0 lo, boundA n hi, mx with
      | some y, some l, some h, none => cond (Nat.ble l h && Nat.ble h n) (some (.slice (cond (Nat.beq n l) (some a) (moveA (some a) (l * y.size))) (h - l) (some (n - l)))) none
      | _, _, _, _ => none)
    | _, _ => none
def sliceA (E : Env) (t : TypeId) (lo hi mx : Option Operand) (vs : List AV) : Option AV :=
  match vs with
  | [] => none
  | x :: vs => match optV lo vs with
    | none => none
    | some (l, vs) => match optV hi vs with
      | none => none
      | some (h, vs) => match optV mx vs with
        | some (m, []) => sliceB E t x l h m
        | _ => none

def fieldAddrA (E : Env) (s : TypeId) (x : AV) (f : Nat) : Option AV :=
  match E.ts.get s, x with
  | some t, .ptr (some (i, o)) => (match t.desc with
    | .struct fs => (match nth fs.toList f with
      | some f => (match E.ts.get f.type with
        | some y => cond (Nat.beq y.size 0) none (fN (o + f.offset) fun o => some (.ptr (some (i, o))))
        | none => none)
      | none => none)
    | _ => none)
  | _, _ => none
def partA (y : TI) (cs : List AV) (off : Nat) : Option AV :=
  cond y.agg (match sub off y.size cs with
    | some l => some (.agg l)
    | none => none) (nth cs off)
def fieldA (E : Env) (t : TypeId) (x : AV) (f : Nat) : Option AV :=
  match E.ts.get t, x with
  | some t, .agg cs => (match t.desc with
    | .struct fs => (match nth fs.toList f with
      | some f => (match E.ts.get f.type with
        | some y => partA y cs f.offset
        | none => none)
      | none => none)
    | _ => none)
  | _, _ => none
def indexAddrA (E : Env) (t : TypeId) (x ix : AV) : Option AV :=
  match E.ts.get t, natOf ix with
  | some t, some i => (match t.desc, x with
    | .array n e, .ptr (some (b, o)) => (match E.ts.get e with
      | some y => cond (Nat.blt i n) (fN (o + i * y.size) fun o => some (.ptr (some (b, o)))) none
      | none => none)
    | .slice e, .slice (some (b, o)) n _ => (match E.ts.get e with
      | some y => cond (Nat.blt i n) (fN (o + i * y.size) fun o => some (.ptr (some (b, o)))) none
      | none => none)
    | _, _ => none)
  | _, _ => none
def indexA (E : Env) (t : TypeId) (x ix : AV) : Option AV :=
  match E.ts.get t, natOf ix with
  | some t, some i => (match t.desc, x with
    | .array n e, .agg cs => (match E.ts.get e with
      | some y => cond (Nat.blt i n) (partA y cs (i * y.size)) none
      | none => none)
    | .string, .str s => (match nth s i with
      | some b => fN b.toNat fun n => some (.int .u8 (.ofNat n))
      | none => none)
    | _, _ => none)
  | _, _ => none

/-! maps -/
def keyEq (a b : AV) : Option Bool :=
  match a, b with
  | .int k m, .int k' n => if k = k' then some (eqI m n) else none
  | .str s, .str t => some (eqL s t)
  | _, _ => none
def findA (k : AV) : List (AV × AV × Nat) → Nat → Option (Option (Nat × AV × Nat))
  | [], _ => some none
  | (k', v, b) :: es, i => (match keyEq k k' with
    | some true => some (some (i, v, b))
    | some false => findA k es (i + 1)
    | none => none)
/-- is the key's type one of those that are treated: a map's key type -/
def keyT (E : Env) (t : TypeId) (k : AV) : Option TypeId :=
  match E.ts.get t with
  | some x => (match x.desc with
    | .map kt e => (match E.ts.get kt with
      | some y => (match y.desc, k with
        | .int _, .int _ _ => some e
        | .string, .str _ => some e
        | _, _ => none)
      | none => none)
    | _ => none)
  | none => none
def lookupA (E : Env) (t : TypeId) (m k : AV) (ok : Bool) (h : H) : Option AV :=
  match keyT E t k with
  | none => none
  | some e => match E.ts.get e with
    | none => none
    | some y =>
      let out (v : AV) (b : Bool) : Option AV := cond ok (some (.tuple [v, .bool b])) (some v)
      match m with
      | .map none => out y.zero false
      | .map (some r) => (match h.t.get r with
        | some (.map es _) => (match findA k es 0 with
          | some (some (_, v, _)) => out v true
          | some none => out y.zero false
          | none => none)
        | _ => none)
      | _ => none
def mapUpdateA (E : Env) (t : TypeId) (m k v : AV) (h : H) : Option (AV × H) :=
  match keyT E t k, m with
  | some _, .map (some r) => (match h.t.get r with
    | some (.map es c) => (match findA k es 0 with
      | some (some (i, _, _)) => fL (modA (fun q => (k, v, q.2.2)) i es) fun es => putO h r (some (.map es c)) fun h => some (undefA, h)
      | some none => fL (es ++ [(k, v, c)]) fun es => fN (c + 1) fun c => putO h r (some (.map es c)) fun h => some (undefA, h)
      | none => none)
    | _ => none)
  | _, _ => none
def mapEntryA (E : Env) (t : TypeId) (m k : AV) (h : H) : Option (AV × H) :=
  match keyT E t k, m with
  | some e, .map (some r) => (match h.t.get r, E.ts.get e with
    | some (.map es c), some y => (match findA k es 0 with
      | some (some (i, v, b)) => fL (modA (fun q => (k, q.2.1, q.2.2)) i es) fun es => putO h r (some (.map es c)) fun h => some (.tuple [v, .int .i64 (.ofNat b)], h)
      | some none => fL (es ++ [(k, y.zero, c)]) fun es => fN (c + 1) fun d => putO h r (some (.map es d)) fun h => some (.tuple [y.zero, .int .i64 (.ofNat c)], h)
      | none => none)
    | _, _ => none)
  | _, _ => none
def bornA (b : Nat) : List (AV × AV × Nat) → Nat → Option Nat
  | [], _ => none
  | e :: es, i => cond (Nat.beq e.2.2 b) (some i) (bornA b es (i + 1))
def entryStoreA (m s v : AV) (h : H) : Option (AV × H) :=
  match m, natOf s with
  | .map (some r), some b => (match h.t.get r with
    | some (.map es c) => (match bornA b es 0 with
      | some i => fL (modA (fun q => (q.1, v, q.2.2)) i es) fun es => putO h r (some (.map es c)) fun h => some (undefA, h)
      | none => none)
    | _ => none)
  | _, _ => none
def deleteA (E : Env) (t : TypeId) (m k : AV) (h : H) : Option (AV × H) :=
  match keyT E t k, m with
  | some _, .map (some r) => (match h.t.get r with
    | some (.map es c) => (match findA k es 0 with
      | some (some (i, _, _)) => fL (eraseA i es) fun es => putO h r (some (.map es c)) fun h => some (undefA, h)
      | some none => some (undefA, h)
      | none => none)
    | _ => none)
  | _, _ => none

def rangeA (E : Env) (t : TypeId) (x : AV) (h : H) : Option (AV × H) :=
  match E.ts.get t with
  | none => none
  | some ti => match ti.desc, x with
    | .string, .str s => newO h (.strIter s 0) fun j h => some (.ptr (some (j, 0)), h)
    | .map _ _, .map none => newO h (.mapIter none 0 [] 0) fun j h => some (.ptr (some (j, 0)), h)
    | .map _ _, .map (some r) => (match h.t.get r with
      | some (.map _ c) => newO h (.mapIter (some r) c [] c) fun j h => some (.ptr (some (j, 0)), h)
      | _ => none)
    | _, _ => none
def nextA (it : AV) (isS : Bool) (h : H) : Option (AV × H) :=
  match it with
  | .ptr (some (r, 0)) => (match h.t.get r with
    | some (.strIter s pos) => cond isS (cond (Nat.blt pos s.length)
        (match Utf8.decode ⟨⟨s⟩⟩ pos with
          | (c, w) => fN (pos + w) fun p => fI c fun c => putO h r (some (.strIter s p)) fun h => some (.tuple [.bool true, .int .i64 (.ofNat pos), .int .i32 c], h))
        (some (.tuple [.bool false], h))) none
    | some (.mapIter none _ _ _) => cond isS none (some (.tuple [.bool false], h))
    | some (.mapIter (some m) since seen last) => cond isS none (match h.t.get m with
      | some (.map es c) => (match es, seen with
        | [], _ => some (.tuple [.bool false], h)
        | [(k, v, b)], [] => cond (Nat.blt b since) (putO h r (some (.mapIter (some m) since [b] c)) fun h => some (.tuple [.bool true, k, v], h)) none
        | [(_, _, b)], [b'] => cond (Nat.beq b b' && Nat.blt b last) (some (.tuple [.bool false], h)) none
        | _, _ => none)
      | _ => none)
    | _ => none)
  | _ => none
def entryA (it : AV) (h : H) : Option AV :=
  match it with
  | .ptr (some (r, 0)) => (match h.t.get r with
    | some (.mapIter (some m) _ [b] st) => (match h.t.get m with
      | some (.map [(k, v, b')] c) => cond (Nat.beq b b' && Nat.beq c st) (some (.tuple [k, v])) none
      | _ => none)
    | _ => none)
  | _ => none

def isIfc : TypeDesc → Bool
  | .interface _ => true
  | _ => false
def typeAssertA (E : Env) (t : TypeId) (ok : Bool) (x : AV) : Option AV :=
  match E.ts.get t with
  | none => none
  | some ti => cond (isIfc ti.desc) none (match x with
      | .iface u y => if u = t then cond ok (some (.tuple [y, .bool true])) (some y) else cond ok (some (.tuple [ti.zero, .bool false])) none
      | .nilIface => cond ok (some (.tuple [ti.zero, .bool false])) none
      | _ => none)

/-! append, copy, the other builtins -/
def lenOfA : AV → Option Nat
  | .slice _ n _ => some n
  | .str s => some s.length
  | _ => none
def firstCellsA (h : H) (size n : Nat) : AV → Option (List AV)
  | .slice (some (i, o)) _ _ => (match h.t.get i with
    | some (.cells cs _ _ _) => sub o (n * size) cs
    | _ => none)
  | .slice none _ _ => some []
  | .str s => (match takeN n s with
    | some l => some (cellsOfBytes l)
    | none => none)
  | _ => none
def fitsA (cap : Option Nat) (len need : Nat) : Bool :=
  match cap with
  | some c => Nat.ble need c
  | none => Nat.ble need len
def extIs (ext : Option Nat) (n : Nat) : Bool :=
  match ext with
  | some z => Nat.beq z n
  | none => false
def appendXA (E : Env) (sT : TypeId) (xT : TypeId) (s x : AV) (h : H) : Option (AV × H) :=
  match E.ts.get sT, E.ts.get xT, s, lenOfA x with
  | some ts, some tx, .slice base len cap, some n => (match ts.desc, tx.desc with
    | .slice _, .int _ => none
    | .slice elem, _ => (match E.ts.get elem with
      | none => none
      | some te =>
        match firstCellsA h te.size n x with
        | none => none
        | some new => fN (len + n) fun need => cond (Nat.ble (need * te.bytes) 1000000 && Nat.ble need 1000000 && allOne new && Nat.beq new.length (n * te.size)) (
          let grow (old : List AV) (h : H) : Option (AV × H) :=
            fL (old ++ new) fun cs => newO h (.cells cs elem (some te.size) true) fun j h => some (.slice (some (j, 0)) need none, h)
          match base with
          | none => (match cap with
            | some c => cond (Nat.ble need c) (some (.slice none need (some c), h)) (cond (Nat.beq len 0) (grow [] h) none)
            | none => none)
          | some (i, o) => (match h.t.get i with
            | some (.cells cs e ext wr) =>
              cond (fitsA cap len need)
                (cond wr (match write (o + len * te.size) new cs with
                  | some cs => putO h i (some (.cells cs e ext wr)) fun h => some (.slice base need cap, h)
                  | none => none) (cond (Nat.beq n 0) (some (.slice base need cap, h)) none))
                (match sub o (len * te.size) cs with
                  | none => none
                  | some old => match cap with
                    | some _ => grow old h
                    | none => cond (Nat.beq o 0 && Nat.beq cs.length (len * te.size) && wr && extIs ext te.size && Nat.beq e elem) (putO h i none fun h => grow old h) none)
            | _ => none)) none)
    | _, _ => none)
  | _, _, _, _ => none
/-- append(nil, make([]T, n)...) -/
def appendZA (E : Env) (sT : TypeId) (xT : TypeId) (s : AV) (n : Nat) (h : H) : Option (AV × H) :=
  match E.ts.get sT, E.ts.get xT, s with
  | some ts, some tx, .slice none 0 (some c) => (match ts.desc, tx.desc with
    | .slice elem, .int _ => (match E.ts.get elem with
      | none => none
      | some te => cond (Nat.ble (n * te.bytes) 1000000 && Nat.ble n 1000000 && Nat.blt c n && Nat.blt 0 te.size)
          (fL (rep n te.zero.cells) fun cs => newO h (.cells cs elem (some te.size) true) fun j h => some (.slice (some (j, 0)) n none, h)) none)
    | _, _ => none)
  | _, _, _ => none
def appendA (E : Env) (sT : TypeId) (xT : TypeId) (s x : AV) (h : H) : Option (AV × H) :=
  match x with
  | .int _ (.ofNat n) => appendZA E sT xT s n h
  | _ => appendXA E sT xT s x h
def copyA (E : Env) (t : TypeId) (dst src : AV) (h : H) : Option (AV × H) :=
  match E.ts.get t, dst, lenOfA src with
  | some ti, .slice base dLen _, some m => (match ti.desc with
    | .slice e => (match E.ts.get e with
      | none => none
      | some y => fN (Nat.min m dLen) fun n => match firstCellsA h y.size n src with
        | none => none
        | some new => cond (allOne new && Nat.beq new.length (n * y.size)) (match base with
          | none => some (.int .i64 (.ofNat n), h)
          | some (i, o) => (match h.t.get i with
            | some (.cells cs e ext true) => (match write o new cs with
              | some cs => putO h i (some (.cells cs e ext true)) fun h => some (.int .i64 (.ofNat n), h)
              | none => none)
            | _ => none)) none)
    | _ => none)
  | _, _, _ => none
def lenA (E : Env) (t : TypeId) (x : AV) (h : H) : Option AV :=
  match E.ts.get t with
  | none => none
  | some ti => match ti.desc, x with
    | .string, .str s => fN s.length fun n => some (.int .i64 (.ofNat n))
    | .slice _, .slice _ n _ => some (.int .i64 (.ofNat n))
    | .map _ _, .map none => some (.int .i64 (.ofNat 0))
    | .map _ _, .map (some r) => (match h.t.get r with
      | some (.map es _) => fN es.length fun n => some (.int .i64 (.ofNat n))
      | _ => none)
    | .chan _ _, .chan (some r) => (match h.t.get r with
      | some (.chan _ b _) => fN b.length fun n => some (.int .i64 (.ofNat n))
      | _ => none)
    | .array n _, _ => some (.int .i64 (.ofNat n))
    | _, _ => none
def capA (E : Env) (t : TypeId) (x : AV) (h : H) : Option AV :=
  match E.ts.get t with
  | none => none
  | some ti => match ti.desc, x with
    | .slice _, .slice _ _ (some c) => some (.int .i64 (.ofNat c))
    | .chan _ _, .chan (some r) => (match h.t.get r with
      | some (.chan c _ _) => some (.int .i64 (.ofNat c))
      | _ => none)
    | _, _ => none
def unsafeStringA (E : Env) (t : TypeId) (p n : AV) (h : H) : Option (AV × H) :=
  match natOf n, p with
  | some 0, .ptr _ => some (.str [], h)
  | some n, .ptr (some (i, 0)) => (match h.t.get i with
    | some (.cells cs e ext _) => cond (E.bs t e && Nat.ble n 1000000) (match sub 0 n cs with
      | some l => (match bytesOf l with
        | some s => putO h i (some (.cells cs e ext false)) fun h => some (.str s, h)
        | none => none)
      | none => none) none
    | _ => none)
  | _, _ => none

def nv (r : Option (AV × H)) : Option (AN × H) :=
  match r with
  | some (v, h) => some (.val v, h)
  | none => none
def nh (h : H) (r : Option AV) : Option (AN × H) :=
  match r with
  | some v => some (.val v, h)
  | none => none

def builtinL (E : Env) (b : Builtin) (ats : Array TypeId) (vs : List AV) (h : H) : Option AV :=
  match b, ats.toList, vs with
  | .len, t :: _, [x] => lenA E t x h
  | .cap, t :: _, [x] => capA E t x h
  | .max, _, [.int k a, .int _ b] => some (.int k (cond (ltI a b) b a))
  | .min, _, [.int k a, .int _ b] => some (.int k (cond (ltI b a) b a))
  | .unsafeSliceData, _, [.slice none _ (some _)] => some (.ptr none)
  | .unsafeSliceData, _, [.slice (some a) n none] => cond (Nat.beq n 0) none (some (.ptr (some a)))
  | _, _, _ => none
def builtinA (E : Env) (b : Builtin) (ats : Array TypeId) (vs : List AV) (h : H) : Option (AN × H) :=
  match b, ats.toList, vs with
  | .append, [t, u], [s, x] => nv (appendA E t u s x h)
  | .copy, t :: _, [d, s] => nv (copyA E t d s h)
  | .recover, _, [] => some (.recover, h)
  | .close, _, [.chan (some r)] => (match h.t.get r with
    | some (.chan c b false) => putO h r (some (.chan c b true)) fun h => some (.val undefA, h)
    | _ => none)
  | .delete, t :: _, [m, k] => nv (deleteA E t m k h)
  | .unsafeString, t :: _, [p, n] => nv (unsafeStringA E t p n h)
  | _, _, _ => none

def indexByteA (c : Nat) : List UInt8 → Nat → Int
  | [], _ => -1
  | b :: l, i => cond (Nat.beq b.toNat c) (Int.ofNat i) (indexByteA c l (i + 1))

def callA (E : Env) (f : FuncId) (args : List AV) (h : H) : Option (AN × H) :=
  match E.fs.get f with
  | none => none
  | some fn => match fn.body with
    | some _ => some (.enter f args, h)
    | none =>
      if fn.name = "internal/abi.NoEscape" then (match args with
        | [x] => some (.val x, h)
        | _ => none)
      else if fn.name = "maps.clone" then (match args with
        | [.iface t (.map (some r))] => (match h.t.get r with
          | some (.map es c) => newO h (.map es c) fun j h => some (.val (.iface t (.map (some j))), h)
          | _ => none)
        | _ => none)
      else if fn.name = "internal/bytealg.IndexByteString" then (match args with
        | [.str s, .int .u8 (.ofNat c)] => cond (Nat.blt c 256) (fI (indexByteA c s 0) fun r => some (.val (.int .i64 r), h)) none
        | _ => none)
      else none

def splitN {α : Type} : Nat → List α → Option (List α × List α)
  | 0, l => some ([], l)
  | _ + 1, [] => none
  | n + 1, a :: l => match splitN n l with
    | some (x, y) => some (a :: x, y)
    | none => none

def valueCallA (E : Env) (f : AV) (args : List AV) (h : H) : Option (AN × H) :=
  match f with
  | .func f first cap => fL (first ++ args ++ cap) fun args => callA E f args h
  | .yield l => some (.round l args, h)
  | _ => none

def opCall (E : Env) (c : Call) (vs : List AV) (h : H) : Option (AN × H) :=
  match c.callee, vs with
  | .builtin b, vs => builtinA E b c.argTypes vs h
  | .value _, f :: args => valueCallA E f args h
  | .invoke _ name, r :: args => (match r with
    | .iface t v => (match E.ms t name with
      | some f => callA E f (v :: args) h
      | none => none)
    | _ => none)
  | _, [] => none

/-- operations that leave memory alone -/
def lightA (E : Env) (o : Op) (vs : List AV) (h : H) : Option AV :=
  match o, vs with
  | .move _, [x] => some x
  | .assign _, [x] => some x
  | .pick _ _ _, [.bool c, a, b] => cond c (some a) (some b)
  | .build t ps, vs => buildA E t (ps.toList.map (·.1)) vs
  | .load t _, [.ptr (some (i, o))] => (match E.ts.get t with
    | some x => loadA x h i o
    | none => none)
  | .nilCheck _, [x] => (match x with
    | .ptr (some a) => some (.ptr (some a))
    | .func f a b => some (.func f a b)
    | .yield l => some (.yield l)
    | _ => none)
  | .binOp op t _ _ _, [x, y] => binA E op t x y
  | .unOp op _ _, [x] => unA op x
  | .convert s d _, [x] => convR E s d x h
  | .sliceToArrayPointer arr _, [x] => (match E.ts.get arr with
    | some ti => (match ti.desc, x with
      | .array n _, .slice a len _ => cond (Nat.ble n len) (some (.ptr a)) none
      | _, _ => none)
    | none => none)
  | .makeInterface t _, [x] => (match E.ts.get t with
    | some ti => cond (isIfc ti.desc) none (some (.iface t x))
    | none => none)
  | .makeFunc fn first _, vs => (match fn, splitN first.size vs with
    | .func f, some (a, b) => some (.func f a b)
    | _, _ => none)
  | .slice t _ lo hi mx, vs => sliceA E t lo hi mx vs
  | .fieldAddr s _ f, [x] => fieldAddrA E s x f
  | .field t _ f, [x] => fieldA E t x f
  | .indexAddr t _ _, [x, i] => indexAddrA E t x i
  | .index t _ _, [x, i] => indexA E t x i
  | .lookup t _ _ ok, [m, k] => lookupA E t m k ok h
  | .entry _, [it] => entryA it h
  | .typeAssert _ _ t ok, [x] => typeAssertA E t ok x
  | .extract _ ix, [.tuple l] => nth l ix
  | .call c, vs => (match c.callee with
    | .builtin b => builtinL E b c.argTypes vs h
    | _ => none)
  | _, _ => none

/-- operations that make one block, out of their operands alone -/
def allocA (E : Env) (o : Op) (vs : List AV) : Option (AObj × (Nat → AV)) :=
  match o, vs with
  | .alloc t, [] => (match E.ts.get t with
    | some x => some (.cells x.zero.cells t none true, fun j => .ptr (some (j, 0)))
    | none => none)
  | .box t _, [v] => some (.cells v.cells t none true, fun j => .ptr (some (j, 0)))
  | .buildSlice t n ps, vs => buildSliceA E t n (ps.toList.map (·.1)) vs
  | .convert s d _, [x] => convN E s d x
  | .makeMap _ none, [] => some (.map [] 0, fun j => .map (some j))
  | .makeChan t _, [n] => (match E.ts.get t, natOf n with
    | some ti, some n => (match ti.desc with
      | .chan _ e => (match E.ts.get e with
        | some y => cond (Nat.ble n 1000000 && Nat.ble (y.bytes * n) 1000000) (some (.chan n [] false, fun j => .chan (some j))) none
        | none => none)
      | _ => none)
    | _, _ => none)
  | .makeSlice t _ _, [l, c] => (match E.ts.get t, natOf l, natOf c with
    | some ti, some l, some c => (match ti.desc with
      | .slice e => (match E.ts.get e with
        | some y => cond (Nat.ble l c && Nat.ble c 1000000 && Nat.ble (y.bytes * c) 1000000) (fL (rep c y.zero.cells) fun cs => some (.cells cs e none true, fun j => .slice (some (j, 0)) l (some c))) none
        | none => none)
      | _ => none)
    | _, _, _ => none)
  | _, _ => none

/-- all others -/
def effA (E : Env) (o : Op) (vs : List AV) (h : H) : Option (AN × H) :=
  match o, vs with
  | .store t _ _, [.ptr (some (i, o)), v] => (match E.ts.get t with
    | some x => nv (storeA x h i o v)
    | none => none)
  | .mapUpdate t _ _ _, [m, k, v] => nv (mapUpdateA E t m k v h)
  | .insert t _ _ _, [m, k, v] => nv (mapUpdateA E t m k v h)
  | .mapEntry t _ _, [m, k] => nv (mapEntryA E t m k h)
  | .entryStore _ _ _ _, [m, s, v] => nv (entryStoreA m s v h)
  | .range t _, [x] => nv (rangeA E t x h)
  | .next _ isS, [it] => nv (nextA it isS h)
  | .call c, vs => opCall E c vs h
  | .defer c, f :: args => (match c.callee, f with
    | .value _, .func f first cap => fL (first ++ args ++ cap) fun args => some (.defer f args, h)
    | _, _ => none)
  | o, vs => (match allocA E o vs with
    | some (ob, mk) => newO h ob fun j h => some (.val (mk j), h)
    | none => none)

/-- a communication, in a machine of one -/
def chanA (c : AV) (h : H) : Option (Nat × Nat × List AV × Bool) :=
  match c with
  | .chan (some r) => (match h.t.get r with
    | some (.chan cap buf cl) => some (r, cap, buf, cl)
    | _ => none)
  | _ => none
def sendA (c x : AV) (h : H) : Option (AV × H) :=
  match chanA c h with
  | some (r, cap, buf, cl) => cond cl none (cond (Nat.blt buf.length cap) (fL (buf ++ [x]) fun buf => putO h r (some (.chan cap buf false)) fun h => some (undefA, h)) none)
  | none => none
def recvA (E : Env) (t : TypeId) (ok : Bool) (c : AV) (h : H) : Option (AV × H) :=
  match E.ts.get t with
  | none => none
  | some ti => match ti.desc with
    | .chan _ e => (match E.ts.get e with
      | none => none
      | some y => match chanA c h with
        | none => none
        | some (r, cap, buf, cl) => match buf with
          | x :: buf => putO h r (some (.chan cap buf cl)) fun h => cond ok (some (.tuple [x, .bool true], h)) (some (x, h))
          | [] => cond cl (cond ok (some (.tuple [y.zero, .bool false], h)) (some (y.zero, h))) none)
    | _ => none
def selRecvA (E : Env) (bl : Bool) (e : TypeId) (c : AV) (h : H) : Option (AV × H) :=
  match E.ts.get e with
  | none => none
  | some y => match chanA c h with
    | none => none
    | some (r, cap, buf, cl) => match buf with
      | x :: buf => putO h r (some (.chan cap buf cl)) fun h => some (.tuple [.int .i64 0, .bool true, x], h)
      | [] => cond cl (some (.tuple [.int .i64 0, .bool false, y.zero], h)) (cond bl none (some (.tuple [.int .i64 (-1), .bool false, y.zero], h)))
def selSendA (E : Env) (e : TypeId) (c x : AV) (h : H) : Option (AV × H) :=
  match E.ts.get e with
  | none => none
  | some _ => match chanA c h with
    | none => none
    | some (r, cap, buf, cl) => cond cl none (cond (Nat.blt buf.length cap) (fL (buf ++ [x]) fun buf => putO h r (some (.chan cap buf false)) fun h => some (.tuple [.int .i64 0, .bool false], h)) (some (.tuple [.int .i64 (-1), .bool false], h)))
def selA (E : Env) (cs : List SelectCase) (bl : Bool) (vs : List AV) (h : H) : Option (AV × H) :=
  match cs with
  | [c] => (match c.send with
    | none => (match vs with
      | [a] => selRecvA E bl c.elem a h
      | _ => none)
    | some _ => cond bl none (match vs with
      | [a, x] => selSendA E c.elem a x h
      | _ => none))
  | _ => none
def commA (E : Env) (o : Op) (vs : List AV) (h : H) : Option (AV × H) :=
  match o with
  | .send _ _ => (match vs with
    | [c, x] => sendA c x h
    | _ => none)
  | .recv t _ ok => (match vs with
    | [c] => recvA E t ok c h
    | _ => none)
  | .select cs bl => selA E cs.toList bl vs h
  | _ => none

def isComm : Op → Bool
  | .send _ _ => true
  | .recv _ _ _ => true
  | .select _ _ => true
  | _ => false

/-! frames -/
def exitToA (id : Nat) : List AItem → Option (List AItem)
  | [] => none
  | .inBlock id' :: k => cond (Nat.beq id' id) (some k) (exitToA id k)
  | _ :: k => exitToA id k
def gotoInA (l : Nat) : List AItem → Option (List AItem)
  | [] => none
  | .inScope body :: k => (match findLabel body l with
    | some rest => some (.code rest :: .inScope body :: k)
    | none => gotoInA l k)
  | _ :: k => gotoInA l k

def wantedA (ops : Array Oper) (tm : T AV) (o : Oper) : Bool :=
  match o.guard with
  | none => true
  | some (j, want) => match nth ops.toList j with
    | some q => (match q.dst with
      | some d => (match tm.get d with
        | some (.bool b) => b == want
        | _ => false)
      | none => false)
    | none => false

def initTm {β : Type} : Nat → List AV → T AV → (T AV → β) → β
  | _, [], t, K => K t
  | i, v :: vs, t, K => T.setK (some v) (i + 1) t i fun t => initTm (i + 1) vs t K

def enterA {β : Type} (E : Env) (f : FuncId) (args : List AV) (dfr : Bool) (K : AF → Option β) : Option β :=
  match E.fs.get f with
  | some fn => (match fn.body with
    | some c => cond (Nat.ble args.length fn.ntmps) (initTm 0 args .nil fun tm =>
      K { fn := f, nt := fn.ntmps, tm := tm, todo := [.code c], defers := [], roundOf := none, deferred := dfr, ret := false }) none
    | none => none)
  | none => none

def resultA (E : Env) (tm : T AV) (h : H) : ResultVar → Option AV
  | .tmp t => aev tm (.tmp t)
  | .cell a t => (match tm.get a, E.ts.get t with
    | some (.ptr (some (i, o))), some x => loadA x h i o
    | _, _ => none)
def resultsA (E : Env) (tm : T AV) (h : H) : List ResultVar → Option (List AV)
  | [] => some []
  | r :: l => match resultA E tm h r with
    | none => none
    | some v => match resultsA E tm h l with
      | some vs => some (v :: vs)
      | none => none

def setParams {β : Type} (nt : Nat) : List Tmp → List AV → T AV → (T AV → Option β) → Option β
  | [], [], t, K => K t
  | p :: ps, v :: vs, t, K => cond (Nat.blt p nt) (T.setK (some v) (p + 1) t p fun t => setParams nt ps vs t K) none
  | _, _, _, _ => none

def putDst {β : Type} (nt : Nat) (dst : Option Tmp) (v : AV) (tm : T AV) (K : T AV → Option β) : Option β :=
  match dst with
  | none => K tm
  | some d => cond (Nat.blt d nt) (T.setK (some v) (d + 1) tm d K) none

/-! a run of a frame to its end -/
def endRoundA (l : Nat) (jump : Option Code) (h : H) : Option (AV × H) :=
  match h.t.get l with
  | some (.loop _ _ fn nt tm ps a b d) => putO h l (some (.loop (cond jump.isNone .ready .done) jump fn nt tm ps a b d)) fun h => some (.bool jump.isNone, h)
  | _ => none
def leaveA (rc : AF → H → Option (AV × H)) (fr : AF) (jump : Option Code) (h : H) : Option (AV × H) :=
  match fr.roundOf with
  | some l => endRoundA l jump h
  | none => (match jump with
    | none => rc { fr with ret := true } h
    | some .ret => rc { fr with ret := true } h
    | _ => none)

/-- a call that is answered out of a contract -/
def orcR (E : Env) (f : FuncId) (args : List AV) (h : H) : Option (AV × H) :=
  match E.orc.get f with
  | some g => g args h
  | none => none
/-- what an operation that is no communication comes to, a call carried out wholly -/
def stepA (E : Env) (rc : AF → H → Option (AV × H)) (r : Option (AN × H)) : Option (AV × H) :=
  match r with
  | some (.val v, h) => some (v, h)
  | some (.enter f args, h) => (match orcR E f args h with
    | some r => some r
    | none => enterA E f args false fun cf => rc cf h)
  | some (.round l args, h) => (match h.t.get l with
    | some (.loop _ _ fn nt tm ps a b _) => setParams nt ps.toList args tm fun tm =>
      rc { fn := fn, nt := nt, tm := tm, todo := [.code a, .beginRound, .code b], defers := [], roundOf := some l, deferred := false, ret := false } h
    | _ => none)
  | _ => none

def eqAV : AV → AV → Bool
  | .bool a, .bool b => a == b
  | .int k a, .int j b => decide (k = j) && eqI a b
  | .str a, .str b => eqL a b
  | .ptr none, .ptr none => true
  | .ptr (some (a, o)), .ptr (some (b, p)) => Nat.beq a b && Nat.beq o p
  | .slice none n (some c), .slice none m (some d) => Nat.beq n m && Nat.beq c d
  | .slice (some (a, o)) n (some c), .slice (some (b, p)) m (some d) => Nat.beq a b && Nat.beq o p && Nat.beq n m && Nat.beq c d
  | .slice (some (a, o)) n none, .slice (some (b, p)) m none => Nat.beq a b && Nat.beq o p && Nat.beq n m
  | .map (some a), .map (some b) => Nat.beq a b
  | .map none, .map none => true
  | .chan (some a), .chan (some b) => Nat.beq a b
  | .nilFunc, .nilFunc => true
  | .nilIface, .nilIface => true
  | .agg xs, .agg ys => eqAVs xs ys
  | .tuple xs, .tuple ys => eqAVs xs ys
  | .func f a b, .func g c d => Nat.beq f g && eqAVs a c && eqAVs b d
  | .iface t x, .iface u y => Nat.beq t u && eqAV x y
  | _, _ => false
where
  eqAVs : List AV → List AV → Bool
    | [], [] => true
    | x :: xs, y :: ys => cond (eqAV x y) (eqAVs xs ys) false
    | _, _ => false

/-- what came of an operation of a region that draws its order: the operands (none: it was not wanted), the value, the block -/
structure RR where
  vs : Option (List AV)
  v : AV
  ob : Option AObj

/-- the new blocks of these operations laid into a heap -/
def mergeA (base : Nat) (rs : List RR) (h : H) : List Nat → (H → Option (AV × H)) → Option (AV × H)
  | [], K => K h
  | x :: xs, K => match nth rs x with
    | some ⟨_, _, some ob⟩ => putO h (base + x) (some ob) fun h => mergeA base rs h xs K
    | some ⟨_, _, none⟩ => mergeA base rs h xs K
    | none => none
def mergeL (base : Nat) (rs : List RR) (h : H) : List Nat → (H → Bool) → Bool
  | [], K => K h
  | x :: xs, K => match nth rs x with
    | some ⟨_, _, some ob⟩ => putO h (base + x) (some ob) fun h => mergeL base rs h xs K
    | some ⟨_, _, none⟩ => mergeL base rs h xs K
    | none => false

def snoc {α β : Type} (l : List α) (a : α) (K : List α → β) : β := fL (l ++ [a]) K

/-- the operations of such a region, in the text's order: what came of each, and the heaps behind each effect -/
def regD (E : Env) (rc : AF → H → Option (AV × H)) (nt base : Nat) (ops : Array Oper) : List Oper → List PE → T AV → H → List H → List RR → (T AV → H → List H → List RR → Option (AV × H)) → Option (AV × H)
  | [], [], tm, h, hs, rs, K => K tm h hs rs
  | o :: os, p :: ps, tm, h, hs, rs, K =>
    cond (isComm o.op) none <| cond (wantedA ops tm o)
      (match aevL tm o.op.operands.toList with
        | none => none
        | some vs => (match p with
          | .eff req => mergeA base rs h req fun h => (match stepA E rc (effA E o.op vs h) with
            | none => none
            | some (v, h) => putDst nt o.dst v tm fun tm => snoc hs h fun hs => snoc rs ⟨some vs, v, none⟩ fun rs => regD E rc nt base ops os ps tm h hs rs K)
          | .alloc => (match allocA E o.op vs with
            | none => none
            | some (ob, mk) => fN (base + rs.length) fun j => putDst nt o.dst (mk j) tm fun tm => snoc rs ⟨some vs, mk j, some ob⟩ fun rs => regD E rc nt base ops os ps tm h hs rs K)
          | .light _ req => mergeA base rs h req fun h' => (match lightA E o.op vs h' with
            | none => none
            | some v => putDst nt o.dst v tm fun tm => snoc rs ⟨some vs, v, none⟩ fun rs => regD E rc nt base ops os ps tm h hs rs K)))
      (match p with
        | .eff req => mergeA base rs h req fun h => putDst nt o.dst undefA tm fun tm => snoc hs h fun hs => snoc rs ⟨none, undefA, none⟩ fun rs => regD E rc nt base ops os ps tm h hs rs K
        | _ => putDst nt o.dst undefA tm fun tm => snoc rs ⟨none, undefA, none⟩ fun rs => regD E rc nt base ops os ps tm h hs rs K)
  | _, _, _, _, _, _, _ => none

/-- a light operation comes to the same at each of these heaps -/
def sameAt (E : Env) (base : Nat) (o : Op) (vs : List AV) (v : AV) (hs : List H) (rs : List RR) (req : List Nat) : List Nat → Bool
  | [] => true
  | k :: ks => (match nth hs k with
    | none => false
    | some h => mergeL base rs h req fun h => (match lightA E o vs h with
      | none => false
      | some u => cond (eqAV u v) (sameAt E base o vs v hs rs req ks) false))
/-- all of a region -/
def sameAll (E : Env) (base : Nat) (hs : List H) (rs : List RR) : List Oper → List PE → List RR → Bool
  | o :: os, p :: ps, r :: rs' => cond (match p, r.vs with
      | .light ks req, some vs => sameAt E base o.op vs r.v hs rs req ks
      | _, _ => true) (sameAll E base hs rs os ps rs') false
  | [], [], [] => true
  | _, _, _ => false

/-! what a plan owes -/
def directs (o : Oper) : List Nat := o.after.toList.filterMap fun e => if Region.binds .any e then some e.on else none
def masks : List Oper → List Nat → List Nat
  | [], acc => acc
  | o :: os, acc => snoc acc ((directs o).foldl (fun s d => s ||| 2 ^ d ||| (acc.getD d 0)) 0) fun acc => masks os acc
def isEff : PE → Bool
  | .eff _ => true
  | _ => false
def isAlloc : PE → Bool
  | .alloc => true
  | _ => false
def bef (M : List Nat) (i j : Nat) : Bool := (M.getD j 0).testBit i
def slotsOk (M : List Nat) (ops : Array Oper) (i j : Nat) : Bool :=
  match ops[i]?, ops[j]? with
  | some a, some b => (match a.dst with
    | none => true
    | some d => (b.dst != some d) && (!(b.looksAt ops).contains d || bef M i j || bef M j i))
  | _, _ => false
def effAt (ps : List PE) (i : Nat) : Bool := match ps[i]? with
  | some p => isEff p
  | none => false
def allocAt (ps : List PE) (i : Nat) : Bool := match ps[i]? with
  | some p => isAlloc p
  | none => false
def planOp (M : List Nat) (ps : List PE) (n j : Nat) : Bool :=
  match ps[j]? with
  | some (.light ks req) =>
    ((List.range (n + 1)).all fun k => ks.contains k || Nat.blt k ((List.range n).countP fun i => effAt ps i && bef M i j) || Nat.blt ((List.range n).countP fun i => effAt ps i && !bef M j i) k) &&
    req.all fun x => allocAt ps x && bef M x j && (List.range n).all fun e => !effAt ps e || !bef M x e || bef M j e
  | some .alloc => true
  | some (.eff req) => req.all fun x => allocAt ps x && bef M x j && (List.range j).all fun e => !effAt ps e || !bef M x e
  | none => false
def planOk (ops : Array Oper) (pl : Plan) : Bool :=
  let n := ops.size
  let M := masks ops.toList []
  decide (pl.ps.length = n) && (decide (M.length = n) &&
  ((List.range n).all (fun j => match ops[j]? with
    | some o => (directs o).all fun d => Nat.blt d j
    | none => false) &&
  ((List.range n).all (fun j => (List.range j).all fun i => !effAt pl.ps i || !effAt pl.ps j || bef M i j) &&
  ((List.range n).all (fun j => (List.range n).all fun i => decide (i = j) || slotsOk M ops i j) &&
  ((List.range n).all (fun j => planOp M pl.ps n j) &&
  pl.fin.all fun x => allocAt pl.ps x && (List.range n).all fun e => !effAt pl.ps e || !bef M x e)))))

/-- rc: calls; rcN: what is left of the region -/
def opsA2 (E : Env) (rc rcN : AF → H → Option (AV × H)) (fr : AF) (h : H) (ops : Array Oper) (o : Oper) (rest : List Oper) (k : List AItem) : Option (AV × H) :=
  let go (v : AV) (h : H) : Option (AV × H) := putDst fr.nt o.dst v fr.tm fun tm => rcN { fr with tm := tm, todo := .ops ops rest :: k } h
  cond (wantedA ops fr.tm o)
    (match aevL fr.tm o.op.operands.toList with
      | none => none
      | some vs => cond (isComm o.op)
        (match commA E o.op vs h with
          | some (v, h) => go v h
          | none => none)
        (match lightA E o.op vs h with
          | some v => go v h
          | none => (match effA E o.op vs h with
            | some (.defer f args, h) => (match fr.roundOf with
              | some _ => none
              | none => putDst fr.nt o.dst undefA fr.tm fun tm => rcN { fr with tm := tm, todo := .ops ops rest :: k, defers := .call f args :: fr.defers } h)
            | some (.recover, h) => cond fr.deferred (match fr.roundOf with
              | some _ => none
              | none => go .nilIface h) none
            | r => (match stepA E rc r with
              | some (v, h) => go v h
              | none => none))))
    (go undefA h)

def opsA (E : Env) (rc : AF → H → Option (AV × H)) (fr : AF) (h : H) (ops : Array Oper) (o : Oper) (rest : List Oper) (k : List AItem) : Option (AV × H) := opsA2 E rc rc fr h ops o rest k

def codeA (E : Env) (rc : AF → H → Option (AV × H)) (fr : AF) (h : H) (c : Code) (k : List AItem) : Option (AV × H) :=
  match c with
  | .ret => leaveA rc fr (some .ret) h
  | .skip => rc { fr with todo := k } h
  | .label _ => rc { fr with todo := k } h
  | .seq a b => rc { fr with todo := .code a :: .code b :: k } h
  | .cond c a b => (match aev fr.tm c with
    | some (.bool t) => rc { fr with todo := .code (cond t a b) :: k } h
    | _ => none)
  | .block id body => rc { fr with todo := .code body :: .inBlock id :: k } h
  | .loop body => rc { fr with todo := .code body :: .inLoop body :: k } h
  | .scope body => rc { fr with todo := .code body :: .inScope body :: k } h
  | .exit id => (match exitToA id k with
    | some k => rc { fr with todo := k } h
    | none => leaveA rc fr (some (.exit id)) h)
  | .goto l => (match gotoInA l k with
    | some k => rc { fr with todo := k } h
    | none => leaveA rc fr (some (.goto l)) h)
  | .region _ ops draw => cond draw
    (match E.plan ops with
      | none => none
      | some pl => cond (planOk ops pl) (match h with
        | ⟨base, t⟩ => fN (base + ops.size) fun next => regD E rc fr.nt base ops ops.toList pl.ps fr.tm ⟨next, t⟩ [⟨next, t⟩] [] fun tm h hs rs =>
          cond (sameAll E base hs rs ops.toList pl.ps rs) (mergeA base rs h pl.fin fun h => rc { fr with tm := tm, todo := k } h) none) none)
    (rc { fr with todo := .ops ops ops.toList :: k } h)
  | .rangeFunc f params assign body =>
    let go (d : Nat) (mark : List ADf) (h : H) : Option (AV × H) :=
      newO h (.loop .ready none fr.fn fr.nt fr.tm params assign body d) fun l h =>
      match aev fr.tm f with
      | some fv => (match stepA E rc (valueCallA E fv [.yield l] h) with
        | some (_, h) => rc { fr with todo := .endRangeFunc l :: k, defers := mark ++ fr.defers } h
        | none => none)
      | none => none
    (match fr.roundOf with
      | some l => (match h.t.get l with
        | some (.loop _ _ _ _ _ _ _ _ d) => go d [] h
        | _ => none)
      | none => newO h .deferred fun d h => go d [.collected d] h)
  | .refuse _ => none

def bodyA (E : Env) (rc : AF → H → Option (AV × H)) (fr : AF) (h : H) : Option (AV × H) :=
  cond fr.ret
    (match fr.defers with
      | [] => (match E.fs.get fr.fn with
        | some fn => (match resultsA E fr.tm h fn.results.toList with
          | some [v] => some (v, h)
          | some vs => some (.tuple vs, h)
          | none => none)
        | none => none)
      | .collected b :: ds => (match h.t.get b with
        | some .deferred => putO h b none fun h => rc { fr with defers := ds } h
        | _ => none)
      | .call f args :: ds => (match enterA E f args true fun cf => rc cf h with
        | some (_, h) => rc { fr with defers := ds } h
        | none => none))
    (match fr.todo with
      | [] => leaveA rc fr none h
      | .inBlock _ :: k => rc { fr with todo := k } h
      | .inScope _ :: k => rc { fr with todo := k } h
      | .inLoop body :: k => rc { fr with todo := .code body :: .inLoop body :: k } h
      | .code c :: k => codeA E rc fr h c k
      | .ops _ [] :: k => rc { fr with todo := k } h
      | .ops ops (o :: rest) :: k => opsA E rc fr h ops o rest k
      | .endRangeFunc l :: k => (match h.t.get l with
        | some (.loop st pend fn nt tm ps a b d) => if st = .busy then none else
          putO h l (some (.loop .exhausted pend fn nt tm ps a b d)) fun h =>
          rc { fr with todo := match pend with
            | some c => .code c :: k
            | none => k } h
        | _ => none)
      | .beginRound :: k => (match fr.roundOf with
        | some l => (match h.t.get l with
          | some (.loop .ready pend fn nt tm ps a b d) => putO h l (some (.loop .busy pend fn nt tm ps a b d)) fun h => rc { fr with todo := k } h
          | _ => none)
        | none => none))

def runA (E : Env) : Nat → AF → H → Option (AV × H)
  | 0, _, _ => none
  | n + 1, fr, h => bodyA E (runA E n) fr h

def callF (E : Env) (n : Nat) (f : FuncId) (args : List AV) (h : H) : Option (AV × H) := enterA E f args false fun cf => runA E n cf h

end Go.Ev
/- The evaluator's soundness: tries, values, relations. -/
namespace Go.Ev

/-! forcing -/
theorem fN_eq {β : Type} (n : Nat) (K : Nat → β) : fN n K = K n := by cases n <;> rfl
theorem fI_eq {β : Type} (n : Int) (K : Int → β) : fI n K = K n := by cases n <;> simp [fI, fN_eq]
theorem fL_eq {α β : Type} (l : List α) : ∀ K : List α → β, fL l K = K l := by
  induction l with
  | nil => intro K; rfl
  | cons a l ih => intro K; simp [fL, ih]
theorem snoc_eq {α β : Type} (l : List α) (a : α) (K : List α → β) : snoc l a K = K (l ++ [a]) := fL_eq _ _
theorem intV_eq (k : IntKind) (n : Int) : intV k n = some (.int k n) := fI_eq _ _

/-! tries -/
theorem setK_eq' {α : Type} (x : Option α) : ∀ (d : Nat) (t : T α) (k : Nat) (β : Type) (K : T α → β), T.setK x d t k K = K (T.setK x d t k id) := by
  intro d
  induction d with
  | zero => intro t k β K; rfl
  | succ d ih =>
    intro t k β K
    cases t with
    | nil =>
      cases k with
      | zero => rfl
      | succ k =>
        simp only [T.setK]
        cases Nat.beq (k % 2) 0
        · simp only [cond_false]; rw [ih _ _ β, ih _ _ (T α) (fun r => id (T.node T.nil none r))]; rfl
        · simp only [cond_true]; rw [ih _ _ β, ih _ _ (T α) (fun l => id (T.node l none T.nil))]; rfl
    | node l v r =>
      cases k with
      | zero => rfl
      | succ k =>
        simp only [T.setK]
        cases Nat.beq (k % 2) 0
        · simp only [cond_false]; rw [ih _ _ β, ih _ _ (T α) (fun r => id (T.node l v r))]; rfl
        · simp only [cond_true]; rw [ih _ _ β, ih _ _ (T α) (fun l => id (T.node l v r))]; rfl
theorem setK_eq {α β : Type} (x : Option α) (d : Nat) (t : T α) (k : Nat) (K : T α → β) : T.setK x d t k K = K (T.setK x d t k id) := setK_eq' x d t k β K

theorem get_nil {α : Type} (k : Nat) : (T.nil : T α).get k = none := rfl

theorem get_setK {α : Type} (x : Option α) : ∀ (d : Nat) (t : T α) (k j : Nat), k < d → (T.setK x d t k id).get j = if j = k then x else t.get j := by
  intro d
  induction d with
  | zero => intro t k j h; omega
  | succ d ih =>
    intro t k j h
    have two : ∀ a b : Nat, a % 2 = b % 2 → a / 2 = b / 2 → a = b := by omega
    cases t with
    | nil =>
      cases k with
      | zero =>
        cases j with
        | zero => simp [T.setK, T.get]
        | succ j => simp [T.setK, T.get]
      | succ k =>
        simp only [T.setK]
        cases hb : Nat.beq (k % 2) 0
        · simp only [cond_false]
          rw [setK_eq]
          simp only [id]
          cases j with
          | zero => simp [T.get]
          | succ j =>
            simp only [T.get]
            cases hj : Nat.beq (j % 2) 0
            · simp only [cond_false]
              rw [ih _ _ _ (by omega)]
              have h1 : k % 2 ≠ 0 := fun e => by simp [e] at hb
              have h2 : j % 2 ≠ 0 := fun e => by simp [e] at hj
              by_cases e : j = k
              · subst e; simp
              · have : j / 2 ≠ k / 2 := fun q => e (two _ _ (by omega) q)
                simp [e, this, T.get]
            · simp only [cond_true]
              have h1 : k % 2 ≠ 0 := fun e => by simp [e] at hb
              have h2 : j % 2 = 0 := Nat.eq_of_beq_eq_true hj
              have e : j ≠ k := fun e => by subst e; exact h1 h2
              simp [e]
        · simp only [cond_true]
          rw [setK_eq]
          simp only [id]
          cases j with
          | zero => simp [T.get]
          | succ j =>
            simp only [T.get]
            have h1 : k % 2 = 0 := Nat.eq_of_beq_eq_true hb
            cases hj : Nat.beq (j % 2) 0
            · simp only [cond_false]
              have h2 : j % 2 ≠ 0 := fun e => by simp [e] at hj
              have e : j ≠ k := fun e => by subst e; exact h2 h1
              simp [e]
            · simp only [cond_true]
              rw [ih _ _ _ (by omega)]
              have h2 : j % 2 = 0 := Nat.eq_of_beq_eq_true hj
              by_cases e : j = k
              · subst e; simp
              · have : j / 2 ≠ k / 2 := fun q => e (two _ _ (by omega) q)
                simp [e, this, T.get]
    | node l v r =>
      cases k with
      | zero =>
        cases j with
        | zero => simp [T.setK, T.get]
        | succ j => simp [T.setK, T.get]
      | succ k =>
        simp only [T.setK]
        cases hb : Nat.beq (k % 2) 0
        · simp only [cond_false]
          rw [setK_eq]
          simp only [id]
          have h1 : k % 2 ≠ 0 := fun e => by simp [e] at hb
          cases j with
          | zero => simp [T.get]
          | succ j =>
            simp only [T.get]
            cases hj : Nat.beq (j % 2) 0
            · simp only [cond_false]
              rw [ih _ _ _ (by omega)]
              have h2 : j % 2 ≠ 0 := fun e => by simp [e] at hj
              by_cases e : j = k
              · subst e; simp
              · have : j / 2 ≠ k / 2 := fun q => e (two _ _ (by omega) q)
                simp [e, this]
            · simp only [cond_true]
              have h2 : j % 2 = 0 := Nat.eq_of_beq_eq_true hj
              have e : j ≠ k := fun e => by subst e; exact h1 h2
              simp [e]
        · simp only [cond_true]
          rw [setK_eq]
          simp only [id]
          have h1 : k % 2 = 0 := Nat.eq_of_beq_eq_true hb
          cases j with
          | zero => simp [T.get]
          | succ j =>
            simp only [T.get]
            cases hj : Nat.beq (j % 2) 0
            · simp only [cond_false]
              have h2 : j % 2 ≠ 0 := fun e => by simp [e] at hj
              have e : j ≠ k := fun e => by subst e; exact h2 h1
              simp [e]
            · simp only [cond_true]
              rw [ih _ _ _ (by omega)]
              have h2 : j % 2 = 0 := Nat.eq_of_beq_eq_true hj
              by_cases e : j = k
              · subst e; simp
              · have : j / 2 ≠ k / 2 := fun q => e (two _ _ (by omega) q)
                simp [e, this]

theorem get_set {α : Type} (x : Option α) (t : T α) (k j : Nat) : (T.set x t k).get j = if j = k then x else t.get j :=
  get_setK x _ _ _ _ (by omega)
theorem setK_set {α β : Type} (x : Option α) (t : T α) (k : Nat) (K : T α → β) : T.setK x (k + 1) t k K = K (T.set x t k) := setK_eq _ _ _ _ _

theorem newO_eq {β : Type} (h : H) (o : AObj) (K : Nat → H → β) : newO h o K = K h.next ⟨h.next + 1, T.set (some o) h.t h.next⟩ := by
  cases h; simp only [newO, setK_set, fN_eq]
theorem putO_eq {β : Type} (h : H) (i : Nat) (o : Option AObj) (K : H → β) : putO h i o K = K ⟨h.next, T.set o h.t i⟩ := by
  cases h; simp only [putO, setK_set]

/-! what the numbers stand for: a block, and how many elements it has room for -/
abbrev Sg := Nat → Option (Nat × Nat)

mutual
def conc (σ : Sg) : AV → Option Value
  | .bool b => some (.bool b)
  | .int k n => some (.int k n)
  | .str s => some (.string ⟨⟨s⟩⟩)
  | .ptr none => some (.pointer none)
  | .ptr (some (i, o)) => (match σ i with
    | some (b, _) => some (.pointer (some ⟨b, o, none⟩))
    | none => none)
  | .slice none n (some c) => some (.slice none n c)
  | .slice none _ none => none
  | .slice (some (i, o)) n (some c) => (match σ i with
    | some (b, _) => some (.slice (some ⟨b, o, none⟩) n c)
    | none => none)
  | .slice (some (i, o)) n none => (match σ i with
    | some (b, c) => if n ≤ c then some (.slice (some ⟨b, o, none⟩) n c) else none
    | none => none)
  | .map none => some (.map none)
  | .map (some i) => (match σ i with
    | some (b, _) => some (.map (some b))
    | none => none)
  | .chan none => some (.chan none)
  | .chan (some i) => (match σ i with
    | some (b, _) => some (.chan (some b))
    | none => none)
  | .func f a b => (match concL σ a, concL σ b with
    | some x, some y => some (.func (.func f) ⟨x⟩ ⟨y⟩)
    | _, _ => none)
  | .yield l => (match σ l with
    | some (b, _) => some (.func (.yield b) #[] #[])
    | none => none)
  | .nilFunc => some .nilFunc
  | .iface t v => (match conc σ v with
    | some x => some (.iface t x)
    | none => none)
  | .nilIface => some .nilIface
  | .agg cs => (match concL σ cs with
    | some l => some (.agg ⟨l⟩)
    | none => none)
  | .tuple vs => (match concL σ vs with
    | some l => some (.tuple ⟨l⟩)
    | none => none)
def concL (σ : Sg) : List AV → Option (List Value)
  | [] => some []
  | v :: l => (match conc σ v, concL σ l with
    | some a, some b => some (a :: b)
    | _, _ => none)
end

/-- σ' says no less than σ -/
def Sub (σ σ' : Sg) : Prop := ∀ i p, σ i = some p → σ' i = some p
theorem Sub.refl (σ : Sg) : Sub σ σ := fun _ _ h => h
theorem Sub.trans {σ σ₁ σ₂ : Sg} (h : Sub σ σ₁) (h' : Sub σ₁ σ₂) : Sub σ σ₂ := fun i p e => h' i p (h i p e)

mutual
theorem conc_mono {σ σ' : Sg} (h : Sub σ σ') : ∀ (v : AV) (x : Value), conc σ v = some x → conc σ' v = some x
  | .bool b, x, e => by simpa [conc] using e
  | .int k n, x, e => by simpa [conc] using e
  | .str s, x, e => by simpa [conc] using e
  | .ptr none, x, e => by simpa [conc] using e
  | .ptr (some (i, o)), x, e => by
    simp only [conc] at e ⊢
    cases hi : σ i with
    | none => simp [hi] at e
    | some p => rw [h i p hi]; simpa [hi] using e
  | .slice none n (some c), x, e => by simpa [conc] using e
  | .slice none _ none, x, e => by simp [conc] at e
  | .slice (some (i, o)) n (some c), x, e => by
    simp only [conc] at e ⊢
    cases hi : σ i with
    | none => simp [hi] at e
    | some p => rw [h i p hi]; simpa [hi] using e
  | .slice (some (i, o)) n none, x, e => by
    simp only [conc] at e ⊢
    cases hi : σ i with
    | none => simp [hi] at e
    | some p => rw [h i p hi]; simpa [hi] using e
  | .map none, x, e => by simpa [conc] using e
  | .map (some i), x, e => by
    simp only [conc] at e ⊢
    cases hi : σ i with
    | none => simp [hi] at e
    | some p => rw [h i p hi]; simpa [hi] using e
  | .chan none, x, e => by simpa [conc] using e
  | .chan (some i), x, e => by
    simp only [conc] at e ⊢
    cases hi : σ i with
    | none => simp [hi] at e
    | some p => rw [h i p hi]; simpa [hi] using e
  | .func f a b, x, e => by
    simp only [conc] at e ⊢
    cases ha : concL σ a with
    | none => simp [ha] at e
    | some y =>
      cases hb : concL σ b with
      | none => simp [ha, hb] at e
      | some z => rw [concL_mono h a y ha, concL_mono h b z hb]; simpa [ha, hb] using e
  | .yield l, x, e => by
    simp only [conc] at e ⊢
    cases hi : σ l with
    | none => simp [hi] at e
    | some p => rw [h l p hi]; simpa [hi] using e
  | .nilFunc, x, e => by simpa [conc] using e
  | .iface t v, x, e => by
    simp only [conc] at e ⊢
    cases ha : conc σ v with
    | none => simp [ha] at e
    | some y => rw [conc_mono h v y ha]; simpa [ha] using e
  | .nilIface, x, e => by simpa [conc] using e
  | .agg cs, x, e => by
    simp only [conc] at e ⊢
    cases ha : concL σ cs with
    | none => simp [ha] at e
    | some y => rw [concL_mono h cs y ha]; simpa [ha] using e
  | .tuple cs, x, e => by
    simp only [conc] at e ⊢
    cases ha : concL σ cs with
    | none => simp [ha] at e
    | some y => rw [concL_mono h cs y ha]; simpa [ha] using e
theorem concL_mono {σ σ' : Sg} (h : Sub σ σ') : ∀ (l : List AV) (x : List Value), concL σ l = some x → concL σ' l = some x
  | [], x, e => by simpa [concL] using e
  | v :: l, x, e => by
    simp only [concL] at e ⊢
    cases ha : conc σ v with
    | none => simp [ha] at e
    | some y =>
      cases hb : concL σ l with
      | none => simp [ha, hb] at e
      | some z => rw [conc_mono h v y ha, concL_mono h l z hb]; simpa [ha, hb] using e
end

theorem concL_cons {σ : Sg} {v : AV} {l : List AV} {x : List Value} : concL σ (v :: l) = some x ↔ ∃ a b, conc σ v = some a ∧ concL σ l = some b ∧ x = a :: b := by
  simp only [concL]
  constructor
  · intro h
    cases ha : conc σ v with
    | none => simp [ha] at h
    | some a =>
      cases hb : concL σ l with
      | none => simp [ha, hb] at h
      | some b => simp [ha, hb] at h; exact ⟨a, b, rfl, rfl, h.symm⟩
  · rintro ⟨a, b, ha, hb, rfl⟩; simp [ha, hb]
theorem concL_nil {σ : Sg} {x : List Value} : concL σ [] = some x ↔ x = [] := by simp [concL, eq_comm]

theorem concL_length {σ : Sg} : ∀ {l : List AV} {x : List Value}, concL σ l = some x → x.length = l.length
  | [], x, h => by rw [concL_nil] at h; simp [h]
  | v :: l, x, h => by
    obtain ⟨a, b, _, hb, rfl⟩ := concL_cons.1 h
    simp [concL_length hb]
theorem concL_append {σ : Sg} : ∀ {l m : List AV} {x y : List Value}, concL σ l = some x → concL σ m = some y → concL σ (l ++ m) = some (x ++ y)
  | [], m, x, y, h, h' => by rw [concL_nil] at h; subst h; simpa using h'
  | v :: l, m, x, y, h, h' => by
    obtain ⟨a, b, ha, hb, rfl⟩ := concL_cons.1 h
    exact concL_cons.2 ⟨a, b ++ y, ha, concL_append hb h', rfl⟩

/-- place by place -/
theorem concL_nth {σ : Sg} : ∀ {l : List AV} {x : List Value} {n : Nat} {v : AV}, concL σ l = some x → nth l n = some v → ∃ a, x[n]? = some a ∧ conc σ v = some a
  | [], _, _, _, _, h => by simp [nth] at h
  | u :: l, x, n, v, h, hn => by
    obtain ⟨a, b, ha, hb, rfl⟩ := concL_cons.1 h
    cases n with
    | zero => simp [nth] at hn; subst hn; exact ⟨a, rfl, ha⟩
    | succ n => simp [nth] at hn; simpa using concL_nth hb hn

theorem takeN_eq {α : Type} : ∀ {n : Nat} {l r : List α}, takeN n l = some r → r = l.take n ∧ n ≤ l.length
  | 0, l, r, h => by simp [takeN] at h; simp [h.symm]
  | n + 1, [], r, h => by simp [takeN] at h
  | n + 1, a :: l, r, h => by
    simp only [takeN] at h
    cases hr : takeN n l with
    | none => simp [hr] at h
    | some r' =>
      simp [hr] at h
      obtain ⟨e, hle⟩ := takeN_eq hr
      exact ⟨by simp [← h, e], by simpa using hle⟩
theorem dropN_eq {α : Type} : ∀ (n : Nat) (l : List α), dropN n l = l.drop n
  | 0, l => by simp [dropN]
  | n + 1, [] => by simp [dropN]
  | n + 1, a :: l => by simp [dropN, dropN_eq n l]
theorem sub_eq {α : Type} {off n : Nat} {l r : List α} (h : sub off n l = some r) : r = (l.drop off).take n ∧ (off + n ≤ l.length ∨ n = 0) := by
  simp only [sub, dropN_eq] at h
  obtain ⟨e, hle⟩ := takeN_eq h
  refine ⟨e, ?_⟩
  simp at hle
  omega
theorem write_eq {α : Type} : ∀ {n : Nat} {vs l r : List α}, write n vs l = some r → (vs = [] ∧ r = l) ∨ (n + vs.length ≤ l.length ∧ r = l.take n ++ vs ++ l.drop (n + vs.length)) := by
  intro n vs l
  induction l generalizing n vs with
  | nil =>
    intro r h
    cases vs with
    | nil => simp [write] at h; exact .inl ⟨rfl, h⟩
    | cons v vs => simp [write] at h
  | cons a l ih =>
    intro r h
    cases vs with
    | nil => simp [write] at h; exact .inl ⟨rfl, h.symm⟩
    | cons v vs =>
      cases n with
      | zero =>
        simp only [write] at h
        cases hr : write 0 vs l with
        | none => simp [hr] at h
        | some r' =>
          simp [hr] at h
          subst h
          refine .inr ?_
          rcases ih hr with ⟨rfl, rfl⟩ | ⟨hle, rfl⟩
          · simp
          · simp at hle ⊢; omega
      | succ n =>
        simp only [write] at h
        cases hr : write n (v :: vs) l with
        | none => simp [hr] at h
        | some r' =>
          simp [hr] at h
          subst h
          rcases ih hr with ⟨h0, _⟩ | ⟨hle, rfl⟩
          · simp at h0
          · refine .inr ⟨by simp at hle ⊢; omega, ?_⟩
            have : n + 1 + (v :: vs).length = (n + (v :: vs).length) + 1 := by omega
            rw [this]; simp

theorem concL_take {σ : Sg} : ∀ {n : Nat} {l : List AV} {x : List Value}, concL σ l = some x → concL σ (l.take n) = some (x.take n)
  | 0, l, x, h => by simp [concL]
  | n + 1, [], x, h => by rw [concL_nil] at h; subst h; simp [concL]
  | n + 1, v :: l, x, h => by
    obtain ⟨a, b, ha, hb, rfl⟩ := concL_cons.1 h
    exact concL_cons.2 ⟨a, b.take n, ha, concL_take hb, rfl⟩
theorem concL_drop {σ : Sg} : ∀ {n : Nat} {l : List AV} {x : List Value}, concL σ l = some x → concL σ (l.drop n) = some (x.drop n)
  | 0, l, x, h => by simpa using h
  | n + 1, [], x, h => by rw [concL_nil] at h; subst h; simp [concL]
  | n + 1, v :: l, x, h => by
    obtain ⟨a, b, ha, hb, rfl⟩ := concL_cons.1 h
    simpa using concL_drop hb
theorem concL_sub {σ : Sg} {off n : Nat} {l r : List AV} {x : List Value} (h : concL σ l = some x) (e : sub off n l = some r) : concL σ r = some ((x.drop off).take n) := by
  obtain ⟨rfl, _⟩ := sub_eq e
  exact concL_take (concL_drop h)

theorem concL_rep {σ : Sg} {l : List AV} {x : List Value} (h : concL σ l = some x) : ∀ n, concL σ (rep n l) = some (rep n x)
  | 0 => by simp [rep, concL]
  | n + 1 => by simpa [rep] using concL_append h (concL_rep h n)

/-- constants -/
theorem conc_ofV1 {σ : Sg} {v : Value} {a : AV} (h : ofV1 v = some a) : conc σ a = some v := by
  cases v with
  | bool b => simp [ofV1] at h; subst h; simp [conc]
  | int k n => simp [ofV1] at h; subst h; simp [conc]
  | string s => simp [ofV1] at h; subst h; obtain ⟨⟨s⟩⟩ := s; simp [conc]
  | pointer a => cases a <;> simp [ofV1] at h; subst h; simp [conc]
  | slice a n c => cases a <;> simp [ofV1] at h; subst h; simp [conc]
  | map a => cases a <;> simp [ofV1] at h; subst h; simp [conc]
  | chan a => cases a <;> simp [ofV1] at h; subst h; simp [conc]
  | nilFunc => simp [ofV1] at h; subst h; simp [conc]
  | nilIface => simp [ofV1] at h; subst h; simp [conc]
  | _ => simp [ofV1] at h
theorem concL_ofV1s {σ : Sg} : ∀ {l : List Value} {a : List AV}, ofV1s l = some a → concL σ a = some l
  | [], a, h => by simp [ofV1s] at h; subst h; simp [concL]
  | v :: l, a, h => by
    simp only [ofV1s] at h
    cases hv : ofV1 v with
    | none => simp [hv] at h
    | some x =>
      cases hl : ofV1s l with
      | none => simp [hv, hl] at h
      | some y => simp [hv, hl] at h; subst h; exact concL_cons.2 ⟨v, l, conc_ofV1 hv, concL_ofV1s hl, rfl⟩
theorem conc_ofV {σ : Sg} {v : Value} {a : AV} (h : ofV v = some a) : conc σ a = some v := by
  cases v with
  | agg cs =>
    simp only [ofV] at h
    cases hl : ofV1s cs.toList with
    | none => simp [hl] at h
    | some l => simp [hl] at h; subst h; simp [conc, concL_ofV1s (σ := σ) hl]
  | _ => exact conc_ofV1 h

theorem conc_cells {σ : Sg} {v : AV} {x : Value} (h : conc σ v = some x) : concL σ v.cells = some x.cells.toList := by
  cases v with
  | agg cs =>
    simp only [conc] at h
    cases hl : concL σ cs with
    | none => simp [hl] at h
    | some l => simp [hl] at h; subst h; simpa [AV.cells, Value.cells] using hl
  | slice a n c =>
    have : x.cells = #[x] := by
      cases a with
      | none => cases c <;> simp [conc] at h; subst h; rfl
      | some p =>
        obtain ⟨i, o⟩ := p
        cases c <;> simp only [conc] at h
        · split at h <;> simp at h
          obtain ⟨_, h⟩ := h; subst h; rfl
        · split at h <;> simp at h
          subst h; rfl
    simp [AV.cells, this, concL, h]
  | tuple vs =>
    have hx : x.cells = #[x] := by
      simp only [conc] at h
      split at h <;> simp at h
      subst h; rfl
    simp [AV.cells, hx, concL, h]
  | bool b => simp [conc] at h; subst h; simp [AV.cells, Value.cells, concL, conc]
  | int k n => simp [conc] at h; subst h; simp [AV.cells, Value.cells, concL, conc]
  | str s => simp [conc] at h; subst h; simp [AV.cells, Value.cells, concL, conc]
  | nilFunc => simp [conc] at h; subst h; simp [AV.cells, Value.cells, concL, conc]
  | nilIface => simp [conc] at h; subst h; simp [AV.cells, Value.cells, concL, conc]
  | ptr a =>
    have hx : x.cells = #[x] := by
      rcases a with _ | ⟨i, o⟩
      · simp [conc] at h; subst h; rfl
      · simp only [conc] at h; split at h <;> simp at h; subst h; rfl
    simp [AV.cells, hx, concL, h]
  | map a =>
    have hx : x.cells = #[x] := by
      rcases a with _ | i
      · simp [conc] at h; subst h; rfl
      · simp only [conc] at h; split at h <;> simp at h; subst h; rfl
    simp [AV.cells, hx, concL, h]
  | chan a =>
    have hx : x.cells = #[x] := by
      rcases a with _ | i
      · simp [conc] at h; subst h; rfl
      · simp only [conc] at h; split at h <;> simp at h; subst h; rfl
    simp [AV.cells, hx, concL, h]
  | func f a b =>
    have hx : x.cells = #[x] := by simp only [conc] at h; split at h <;> simp at h; subst h; rfl
    simp [AV.cells, hx, concL, h]
  | yield l =>
    have hx : x.cells = #[x] := by simp only [conc] at h; split at h <;> simp at h; subst h; rfl
    simp [AV.cells, hx, concL, h]
  | iface t v =>
    have hx : x.cells = #[x] := by simp only [conc] at h; split at h <;> simp at h; subst h; rfl
    simp [AV.cells, hx, concL, h]

def oneC : Value → Bool
  | .agg _ => false
  | .tuple _ => false
  | _ => true
theorem conc_one {σ : Sg} {v : AV} {x : Value} (h : conc σ v = some x) (ho : v.one = true) : oneC x = true := by
  cases v with
  | agg cs => simp [AV.one] at ho
  | tuple cs => simp [AV.one] at ho
  | slice a n c =>
    cases a with
    | none => cases c <;> simp [conc] at h; subst h; rfl
    | some p =>
      obtain ⟨i, o⟩ := p
      cases c <;> simp only [conc] at h
      · split at h <;> simp at h
        obtain ⟨_, h⟩ := h; subst h; rfl
      · split at h <;> simp at h
        subst h; rfl
  | bool b => simp [conc] at h; subst h; rfl
  | int k n => simp [conc] at h; subst h; rfl
  | str s => simp [conc] at h; subst h; rfl
  | nilFunc => simp [conc] at h; subst h; rfl
  | nilIface => simp [conc] at h; subst h; rfl
  | ptr a =>
    rcases a with _ | ⟨i, o⟩
    · simp [conc] at h; subst h; rfl
    · simp only [conc] at h; split at h <;> simp at h; subst h; rfl
  | map a =>
    rcases a with _ | i
    · simp [conc] at h; subst h; rfl
    · simp only [conc] at h; split at h <;> simp at h; subst h; rfl
  | chan a =>
    rcases a with _ | i
    · simp [conc] at h; subst h; rfl
    · simp only [conc] at h; split at h <;> simp at h; subst h; rfl
  | func f a b => simp only [conc] at h; split at h <;> simp at h; subst h; rfl
  | yield l => simp only [conc] at h; split at h <;> simp at h; subst h; rfl
  | iface t v => simp only [conc] at h; split at h <;> simp at h; subst h; rfl

end Go.Ev
/- The evaluator's soundness: heaps. -/
namespace Go.Ev
open Go.RowKit

/-- the slots of a frame -/
def TRel (σ : Sg) (nt : Nat) (tm : T AV) (tmps : Array Value) : Prop :=
  tmps.size = nt ∧ ∀ i, match tm.get i with
    | some v => i < nt ∧ ∃ x, tmps[i]? = some x ∧ conc σ v = some x
    | none => tmps.getD i undef = undef
theorem TRel.mono {σ σ' : Sg} (h : Sub σ σ') {nt : Nat} {tm : T AV} {tmps : Array Value} (r : TRel σ nt tm tmps) : TRel σ' nt tm tmps := by
  refine ⟨r.1, fun i => ?_⟩
  have := r.2 i
  split at this
  · obtain ⟨h1, x, h2, h3⟩ := this; exact ⟨h1, x, h2, conc_mono h _ _ h3⟩
  · exact this

def concE (σ : Sg) : List (AV × AV × Nat) → Option (List MapEntry)
  | [] => some []
  | e :: es => (match conc σ e.1, conc σ e.2.1, concE σ es with
    | some k, some v, some l => some ({ key := k, val := v, born := e.2.2 } :: l)
    | _, _, _ => none)
theorem concE_cons {σ : Sg} {e : AV × AV × Nat} {es : List (AV × AV × Nat)} {x : List MapEntry} : concE σ (e :: es) = some x ↔ ∃ k v l, conc σ e.1 = some k ∧ conc σ e.2.1 = some v ∧ concE σ es = some l ∧ x = { key := k, val := v, born := e.2.2 } :: l := by
  simp only [concE]
  constructor
  · intro h
    cases h1 : conc σ e.1 with
    | none => simp [h1] at h
    | some k =>
      cases h2 : conc σ e.2.1 with
      | none => simp [h1, h2] at h
      | some v =>
        cases h3 : concE σ es with
        | none => simp [h1, h2, h3] at h
        | some l => simp [h1, h2, h3] at h; exact ⟨k, v, l, rfl, rfl, rfl, h.symm⟩
  · rintro ⟨k, v, l, h1, h2, h3, rfl⟩; simp [h1, h2, h3]
theorem concE_mono {σ σ' : Sg} (h : Sub σ σ') : ∀ {es : List (AV × AV × Nat)} {x : List MapEntry}, concE σ es = some x → concE σ' es = some x
  | [], x, e => by simpa [concE] using e
  | e :: es, x, hx => by
    obtain ⟨k, v, l, h1, h2, h3, rfl⟩ := concE_cons.1 hx
    exact concE_cons.2 ⟨k, v, l, conc_mono h _ _ h1, conc_mono h _ _ h2, concE_mono h h3, rfl⟩

/-- how many cells a block has -/
def extOk (ext : Option Nat) (size c len : Nat) : Prop :=
  match ext with
  | none => size = len
  | some z => size = c * z

/-- an object and what lies in its block -/
def ORel (σ : Sg) (c : Nat) : AObj → Obj → Prop
  | .cells cs e ext wr, .cells cs' e' fz => ∃ l, concL σ cs = some l ∧ (∃ r, cs'.toList = l ++ r) ∧ e' = e ∧
      extOk ext cs'.size c cs.length ∧ (wr = true → ∀ o, o < cs'.size → ¬ (fz.1 ≤ o ∧ o < fz.2))
  | .map es clock, .map es' clock' => clock' = clock ∧ concE σ es = some es'.toList
  | .chan cap buf closed, .chan cap' buf' closed' _ _ timer => cap' = cap ∧ concL σ buf = some buf'.toList ∧ closed' = closed ∧ timer = false
  | .strIter s pos, .stringIter s' pos' => s' = ⟨⟨s⟩⟩ ∧ pos' = pos
  | .mapIter m since seen last, .mapIter m' since' seen' last' => conc σ (.map m) = some (.map m') ∧ since' = since ∧ seen'.toList = seen ∧ last' = last
  | .loop st pend fn nt tm ps a b d, .loop l => l.state = st ∧ l.pending = pend ∧ l.fn = fn ∧ TRel σ nt tm l.tmps ∧ l.params = ps ∧ l.assign = a ∧ l.body = b ∧ ∃ c, σ d = some (l.defers, c)
  | .deferred, .deferred calls => calls = some []
  | _, _ => False
theorem ORel.mono {σ σ' : Sg} (h : Sub σ σ') {c : Nat} {o : AObj} {x : Obj} (r : ORel σ c o x) : ORel σ' c o x := by
  cases o <;> cases x <;> simp only [ORel] at r ⊢ <;> try exact r
  · obtain ⟨l, h1, h2⟩ := r; exact ⟨l, concL_mono h _ _ h1, h2⟩
  · exact ⟨r.1, concE_mono h r.2⟩
  · exact ⟨r.1, concL_mono h _ _ r.2.1, r.2.2⟩
  · exact ⟨conc_mono h _ _ r.1, r.2⟩
  · obtain ⟨h1, h2, h3, h4, h5, h6, h7, c, h8⟩ := r; exact ⟨h1, h2, h3, h4.mono h, h5, h6, h7, c, h _ _ h8⟩

structure HRel (σ : Sg) (h : H) (hp : Array Obj) : Prop where
  fresh : ∀ i, h.next ≤ i → σ i = none
  objs : ∀ i o, h.t.get i = some o → ∃ b c x, σ i = some (b, c) ∧ hp[b]? = some x ∧ ORel σ c o x
  inj : ∀ i j o o' b c c', h.t.get i = some o → h.t.get j = some o' → σ i = some (b, c) → σ j = some (b, c') → i = j

structure Ext (σ : Sg) (h : H) (w : World) (σ' : Sg) (h' : H) (w' : World) : Prop where
  os : w'.os = w.os
  tape : w'.tape = w.tape
  output : w'.output = w.output
  size : w.heap.size ≤ w'.heap.size
  next : h.next ≤ h'.next
  old : ∀ i, i < h.next → σ' i = σ i
  keeps : ∀ b, b < w.heap.size → (∀ i o c, h.t.get i = some o → σ i = some (b, c) → False) → w'.heap[b]? = w.heap[b]?
  img : ∀ i o b c, h'.t.get i = some o → σ' i = some (b, c) → b < w.heap.size → ∃ i o c, h.t.get i = some o ∧ σ i = some (b, c)

theorem Ext.refl (σ : Sg) (h : H) (w : World) : Ext σ h w σ h w :=
  ⟨rfl, rfl, rfl, Nat.le_refl _, Nat.le_refl _, fun _ _ => rfl, fun _ _ _ => rfl, fun i o _ c hi hs _ => ⟨i, o, c, hi, hs⟩⟩
theorem Ext.trans {σ σ₁ σ₂ : Sg} {h h₁ h₂ : H} {w w₁ w₂ : World} (a : Ext σ h w σ₁ h₁ w₁) (b : Ext σ₁ h₁ w₁ σ₂ h₂ w₂) : Ext σ h w σ₂ h₂ w₂ where
  os := b.os.trans a.os
  tape := b.tape.trans a.tape
  output := b.output.trans a.output
  size := Nat.le_trans a.size b.size
  next := Nat.le_trans a.next b.next
  old i hi := (b.old i (Nat.lt_of_lt_of_le hi a.next)).trans (a.old i hi)
  keeps k hk hn := by
    rw [b.keeps k (Nat.lt_of_lt_of_le hk a.size), a.keeps k hk hn]
    intro i o c hi hs
    obtain ⟨i', o', c', h1, h2⟩ := a.img i o k c hi hs hk
    exact hn i' o' c' h1 h2
  img i o k c hi hs hk := by
    obtain ⟨i', o', c', h1, h2⟩ := b.img i o k c hi hs (Nat.lt_of_lt_of_le hk a.size)
    exact a.img i' o' k c' h1 h2 hk

theorem HRel.sub {σ σ' : Sg} {h : H} {hp : Array Obj} (r : HRel σ h hp) (hs : ∀ i, i < h.next → σ' i = σ i) : Sub σ σ' := by
  intro i p hi
  by_cases hlt : i < h.next
  · rw [hs i hlt]; exact hi
  · rw [r.fresh i (by omega)] at hi; cases hi
theorem Ext.sub {σ σ' : Sg} {h h' : H} {w w' : World} {hp : Array Obj} (a : Ext σ h w σ' h' w') (r : HRel σ h hp) : Sub σ σ' := r.sub a.old

def upd (σ : Sg) (i : Nat) (p : Nat × Nat) : Sg := fun j => if j = i then some p else σ j
theorem upd_self (σ : Sg) (i : Nat) (p : Nat × Nat) : upd σ i p i = some p := by simp [upd]
theorem upd_ne (σ : Sg) {i j : Nat} (p : Nat × Nat) (h : j ≠ i) : upd σ i p j = σ j := by simp [upd, h]
theorem sub_upd {σ : Sg} {i : Nat} (p : Nat × Nat) (h : σ i = none) : Sub σ (upd σ i p) := fun j q hq => by
  by_cases e : j = i
  · subst e; rw [h] at hq; cases hq
  · rw [upd_ne σ p e]; exact hq

theorem HRel.lt {σ : Sg} {h : H} {hp : Array Obj} (r : HRel σ h hp) {i : Nat} {o : AObj} (hi : h.t.get i = some o) : i < h.next := by
  obtain ⟨b, c, x, hs, _⟩ := r.objs i o hi
  rcases Nat.lt_or_ge i h.next with hl | hl
  · exact hl
  · rw [r.fresh i hl] at hs; cases hs

/-- a new block -/
theorem HRel.alloc {σ : Sg} {h : H} {w : World} (r : HRel σ h w.heap) (o : AObj) (x : Obj) (c : Nat) (hx : ORel (upd σ h.next (w.heap.size, c)) c o x) :
    HRel (upd σ h.next (w.heap.size, c)) ⟨h.next + 1, T.set (some o) h.t h.next⟩ (w.heap.push x) ∧
    ∀ w' : World, w'.os = w.os → w'.tape = w.tape → w'.output = w.output → w'.heap = w.heap.push x → Ext σ h w (upd σ h.next (w.heap.size, c)) ⟨h.next + 1, T.set (some o) h.t h.next⟩ w' := by
  have hsub : Sub σ (upd σ h.next (w.heap.size, c)) := sub_upd _ (r.fresh _ (Nat.le_refl _))
  have hlt : ∀ i b c' o', h.t.get i = some o' → σ i = some (b, c') → b < w.heap.size := fun i b c' o' hi hs => by
    obtain ⟨b', c'', x', h1, h2, _⟩ := r.objs i o' hi
    rw [hs] at h1; cases h1
    exact (Array.getElem?_eq_some_iff.1 h2).1
  refine ⟨⟨fun i hi => ?_, fun i o' hi => ?_, fun i j o₁ o₂ b c₁ c₂ hi hj hsi hsj => ?_⟩, fun w' h1 h2 h3 h4 => ⟨h1, h2, h3, ?_, by simp, fun i hi => ?_, fun b hb hn => ?_, fun i o' b c' hi hs hb => ?_⟩⟩
  · simp only at hi; rw [upd_ne σ _ (by omega)]; exact r.fresh i (by omega)
  · simp only [get_set] at hi
    by_cases e : i = h.next
    · subst e
      simp at hi; subst hi
      exact ⟨w.heap.size, c, x, upd_self _ _ _, by simp, hx⟩
    · simp [e] at hi
      obtain ⟨b, c', x', h1, h2, h3⟩ := r.objs i o' hi
      refine ⟨b, c', x', by rw [upd_ne σ _ e]; exact h1, ?_, h3.mono hsub⟩
      rw [Array.getElem?_push, if_neg (by have := hlt i b c' o' hi h1; omega)]; exact h2
  · simp only [get_set] at hi hj
    by_cases ei : i = h.next <;> by_cases ej : j = h.next
    · omega
    · subst ei; simp [ej] at hj
      rw [upd_self] at hsi; rw [upd_ne σ _ ej] at hsj; cases hsi
      have := hlt j _ c₂ o₂ hj hsj; omega
    · subst ej; simp [ei] at hi
      rw [upd_self] at hsj; rw [upd_ne σ _ ei] at hsi; cases hsj
      have := hlt i _ c₁ o₁ hi hsi; omega
    · simp [ei] at hi; simp [ej] at hj
      rw [upd_ne σ _ ei] at hsi; rw [upd_ne σ _ ej] at hsj
      exact r.inj i j o₁ o₂ b c₁ c₂ hi hj hsi hsj
  · rw [h4]; simp
  · rw [upd_ne σ _ (by omega)]
  · rw [h4, Array.getElem?_push, if_neg (by omega)]
  · simp only [get_set] at hi
    by_cases e : i = h.next
    · subst e; rw [upd_self] at hs; cases hs; omega
    · simp [e] at hi; rw [upd_ne σ _ e] at hs; exact ⟨i, o', c', hi, hs⟩

/-- a block written -/
theorem HRel.put {σ : Sg} {h : H} {w : World} (r : HRel σ h w.heap) {i b c : Nat} {o₀ : AObj} (hi : h.t.get i = some o₀) (hs : σ i = some (b, c)) (o : AObj) (x : Obj) (hx : ORel σ c o x)
    (w' : World) (hsz : w'.heap.size = w.heap.size) (hb : w'.heap[b]? = some x) (hk : ∀ k, k ≠ b → w'.heap[k]? = w.heap[k]?) :
    HRel σ ⟨h.next, T.set (some o) h.t i⟩ w'.heap ∧ (w'.os = w.os → w'.tape = w.tape → w'.output = w.output → Ext σ h w σ ⟨h.next, T.set (some o) h.t i⟩ w') := by
  have old : ∀ j o', (T.set (some o) h.t i).get j = some o' → ∃ o'', h.t.get j = some o'' := fun j o' hj => by
    rw [get_set] at hj
    by_cases e : j = i
    · subst e; exact ⟨o₀, hi⟩
    · simp [e] at hj; exact ⟨o', hj⟩
  refine ⟨⟨r.fresh, fun j o' hj => ?_, fun j k o₁ o₂ b' c₁ c₂ hj hk' hsj hsk => ?_⟩, fun h1 h2 h3 => ⟨h1, h2, h3, by omega, Nat.le_refl _, fun _ _ => rfl, fun k hk' hn => ?_, fun j o' k c' hj hsj hk' => ?_⟩⟩
  · simp only [get_set] at hj
    by_cases e : j = i
    · subst e; simp at hj; subst hj; exact ⟨b, c, x, hs, hb, hx⟩
    · simp [e] at hj
      obtain ⟨b', c', x', h1, h2, h3⟩ := r.objs j o' hj
      refine ⟨b', c', x', h1, ?_, h3⟩
      rw [hk b' (fun e' => e (by subst e'; exact r.inj j i o' o₀ b' c' c hj hi h1 hs))]; exact h2
  · obtain ⟨p, hp⟩ := old j o₁ hj
    obtain ⟨q, hq⟩ := old k o₂ hk'
    exact r.inj j k p q b' c₁ c₂ hp hq hsj hsk
  · exact hk k (fun e => by subst e; exact hn i o₀ c hi hs)
  · obtain ⟨p, hp⟩ := old j o' hj
    exact ⟨j, p, c', hp, hsj⟩

/-- fewer blocks known -/
theorem HRel.less {σ : Sg} {h : H} {hp : Array Obj} (r : HRel σ h hp) (t : T AObj) (ht : ∀ i o, t.get i = some o → h.t.get i = some o) : HRel σ ⟨h.next, t⟩ hp :=
  ⟨r.fresh, fun i o hi => r.objs i o (ht i o hi), fun i j o o' b c c' hi hj => r.inj i j o o' b c c' (ht i o hi) (ht j o' hj)⟩
theorem get_del {h : H} {i : Nat} : ∀ j o, (T.set none h.t i).get j = some o → h.t.get j = some o := fun j o hj => by
  rw [get_set] at hj
  by_cases e : j = i
  · subst e; simp at hj
  · simpa [e] using hj
theorem HRel.kill {σ : Sg} {h : H} {w : World} (r : HRel σ h w.heap) (i : Nat) : HRel σ ⟨h.next, T.set none h.t i⟩ w.heap ∧ Ext σ h w σ ⟨h.next, T.set none h.t i⟩ w :=
  ⟨r.less _ get_del, ⟨rfl, rfl, rfl, Nat.le_refl _, Nat.le_refl _, fun _ _ => rfl, fun _ _ _ => rfl, fun j o _ c hj hs _ => ⟨j, o, c, get_del j o hj, hs⟩⟩⟩

/-- a draw -/
theorem Ext.drew {σ σ' : Sg} {h h' : H} {w w' : World} (a : Ext σ h w σ' h' w') (n : Nat) : Ext σ h w σ' h' { w' with drawn := n } := ⟨a.os, a.tape, a.output, a.size, a.next, a.old, a.keeps, a.img⟩
theorem Ext.drew' {σ σ' : Sg} {h h' : H} {w w' : World} {n : Nat} (a : Ext σ h { w with drawn := n } σ' h' w') : Ext σ h w σ' h' w' := ⟨a.os, a.tape, a.output, a.size, a.next, a.old, a.keeps, a.img⟩

/-- what is left alone: all that lies below -/
theorem Ext.below {σ σ' : Sg} {n : Nat} {w w' : World} {h' : H} (a : Ext σ ⟨n, .nil⟩ w σ' h' w') : Below w.heap.size w w' :=
  ⟨a.os, a.tape, a.output, a.size, fun k hk => a.keeps k hk fun i o c hi _ => by simp [get_nil] at hi⟩

end Go.Ev
/- The evaluator's soundness: operations that leave memory alone, of numbers and texts. -/
set_option linter.unusedSimpArgs false
set_option linter.unusedVariables false
namespace Go.Ev

/-! numbers -/
theorem eqI_eq (a b : Int) : eqI a b = (a == b) := by
  cases a <;> cases b <;> simp only [eqI] <;> rw [Bool.eq_iff_iff] <;> simp
  exact Int.ofNat_inj.symm
theorem ltI_eq (a b : Int) : ltI a b = decide (a < b) := by
  cases a <;> cases b <;> simp only [ltI] <;> rw [Bool.eq_iff_iff] <;> simp [Nat.blt] <;> omega
theorem wrapA_eq (k : IntKind) (n : Int) : wrapA k n = k.wrap n := by
  unfold wrapA
  cases h : inR k n
  · rfl
  · simp only [cond_true]
    cases n with
    | ofNat m => cases k <;> simp [inR] at h <;> (unfold IntKind.wrap IntKind.bits IntKind.signed; simp; omega)
    | negSucc m => cases k <;> simp [inR] at h <;> (unfold IntKind.wrap IntKind.bits IntKind.signed; simp; omega)
theorem not_lt_dec (a b : Int) : (!decide (b < a)) = decide (a ≤ b) := by rw [← decide_not]; simp only [Int.not_lt]
theorem inR_lt {k : IntKind} {m : Nat} (h : inR k (.ofNat m) = true) : m < 2 ^ k.bits ∧ (k.signed = true → m < 2 ^ (k.bits - 1)) := by
  cases k <;> simp [inR] at h <;> simp [IntKind.bits, IntKind.signed] <;> omega
theorem wrap_small (k : IntKind) (r : Nat) (h1 : r < 2 ^ k.bits) (h2 : k.signed = true → r < 2 ^ (k.bits - 1)) : k.wrap (r : Int) = (r : Int) := by
  cases k <;> simp [IntKind.bits, IntKind.signed] at h1 h2 <;> (unfold IntKind.wrap IntKind.bits IntKind.signed; simp; omega)
theorem toNat_ofInt {k : IntKind} {m : Nat} (h : m < 2 ^ k.bits) : (BitVec.ofInt k.bits (Int.ofNat m)).toNat = m := by
  rw [BitVec.toNat_ofInt]
  have : (Int.ofNat m : Int) % ((2 ^ k.bits : Nat) : Int) = (m : Int) := by
    rw [show (Int.ofNat m : Int) = (m : Int) from rfl]
    exact Int.emod_eq_of_lt (by omega) (by exact_mod_cast h)
  rw [this]; simp

section
variable {P : Program} {w : World}

theorem arith_sound {op : BinOp} {k : IntKind} {a b : Int} {v : AV} (h : arithA op k a b = some v) (t : TypeId) (hs : op ≠ .shl ∧ op ≠ .shr ∧ op ≠ .and ∧ op ≠ .or ∧ op ≠ .xor) :
    ∃ x, (binOp op t (.int k a) (.int k b)).run P w = .ok x w ∧ ∀ σ, conc σ v = some x := by
  obtain ⟨h1, h2, h3, h4, h5⟩ := hs
  cases op <;> simp only [arithA, intV_eq, eqI_eq, ltI_eq, wrapA_eq] at h <;> try (exact absurd rfl ‹_›)
  case add => cases h; exact ⟨.int k (k.wrap (a + b)), by simp [binOp, Op.intArith], fun σ => by simp [conc]⟩
  case sub => cases h; exact ⟨.int k (k.wrap (a - b)), by simp [binOp, Op.intArith], fun σ => by simp [conc]⟩
  case mul => cases h; exact ⟨.int k (k.wrap (a * b)), by simp [binOp, Op.intArith], fun σ => by simp [conc]⟩
  case quo =>
    by_cases hb : b = 0
    · simp [hb] at h
    · have : (b == 0) = false := by simp [hb]
      rw [this] at h; simp at h; subst h
      exact ⟨.int k (k.wrap (a.tdiv b)), by simp [binOp, Op.intDiv, hb], fun σ => by simp [conc]⟩
  case rem =>
    by_cases hb : b = 0
    · simp [hb] at h
    · have : (b == 0) = false := by simp [hb]
      rw [this] at h; simp at h; subst h
      exact ⟨.int k (a.tmod b), by simp [binOp, Op.intDiv, hb], fun σ => by simp [conc]⟩
  case andNot => cases h
  case eql => cases h; exact ⟨.bool (a == b), by simp [binOp, Op.intCmp, bne], fun σ => by simp [conc]⟩
  case neq => cases h; exact ⟨.bool (!(a == b)), by simp [binOp, Op.intCmp, bne], fun σ => by simp [conc]⟩
  case lss => cases h; exact ⟨.bool (decide (a < b)), by simp [binOp, Op.intCmp, bne], fun σ => by simp [conc]⟩
  case leq => cases h; exact ⟨.bool (!decide (b < a)), by rw [not_lt_dec]; simp [binOp, Op.intCmp], fun σ => by simp [conc]⟩
  case gtr => cases h; exact ⟨.bool (decide (b < a)), by simp [binOp, Op.intCmp, bne], fun σ => by simp [conc]⟩
  case geq => cases h; exact ⟨.bool (!decide (a < b)), by rw [not_lt_dec]; simp [binOp, Op.intCmp], fun σ => by simp [conc]⟩

theorem bits_sound {op : BinOp} {k : IntKind} {m n : Nat} {v : AV} (h : bitsA op k m n = some v) (t : TypeId) :
    ∃ x, (binOp op t (.int k (Int.ofNat m)) (.int k (Int.ofNat n))).run P w = .ok x w ∧ ∀ σ, conc σ v = some x := by
  unfold bitsA at h
  cases hr : (inR k (.ofNat m) && inR k (.ofNat n)) with
  | false => rw [hr] at h; cases h
  | true =>
    rw [hr] at h; simp only [cond_true] at h
    simp only [Bool.and_eq_true] at hr
    obtain ⟨m1, m2⟩ := inR_lt hr.1
    obtain ⟨n1, n2⟩ := inR_lt hr.2
    cases op <;> simp only [intV_eq] at h <;> try (cases h; done)
    · cases h
      refine ⟨.int k (Int.ofNat (m &&& n)), ?_, fun σ => by simp [conc]⟩
      simp only [binOp, Op.intBits, ne_eq, not_true_eq_false, if_false, BitVec.toNat_and, toNat_ofInt m1, toNat_ofInt n1, Sem.run_pure]
      rw [wrap_small k (m &&& n) (Nat.lt_of_le_of_lt Nat.and_le_left m1) (fun s => Nat.lt_of_le_of_lt Nat.and_le_left (m2 s))]; rfl
    · cases h
      refine ⟨.int k (Int.ofNat (m ||| n)), ?_, fun σ => by simp [conc]⟩
      simp only [binOp, Op.intBits, ne_eq, not_true_eq_false, if_false, BitVec.toNat_or, toNat_ofInt m1, toNat_ofInt n1, Sem.run_pure]
      rw [wrap_small k (m ||| n) (Nat.or_lt_two_pow m1 n1) (fun s => Nat.or_lt_two_pow (m2 s) (n2 s))]; rfl
    · cases h
      refine ⟨.int k (Int.ofNat (m ^^^ n)), ?_, fun σ => by simp [conc]⟩
      simp only [binOp, Op.intBits, ne_eq, not_true_eq_false, if_false, BitVec.toNat_xor, toNat_ofInt m1, toNat_ofInt n1, Sem.run_pure]
      rw [wrap_small k (m ^^^ n) (Nat.xor_lt_two_pow m1 n1) (fun s => Nat.xor_lt_two_pow (m2 s) (n2 s))]; rfl

theorem shift_sound {op : BinOp} {k yk : IntKind} {a : Int} {n : Nat} {v : AV} (h : shiftA op k a n = some v) (t : TypeId) :
    ∃ x, (binOp op t (.int k a) (.int yk (Int.ofNat n))).run P w = .ok x w ∧ ∀ σ, conc σ v = some x := by
  have hn : ¬ ((n : Int) < 0) := by omega
  cases op <;> simp only [shiftA, intV_eq, wrapA_eq] at h <;> try (cases h; done)
  · cases h
    exact ⟨.int k (k.wrap (a * (2 ^ (min n k.bits) : Nat))), by simp [binOp, Op.shift]; intro h; omega, fun σ => by simp [conc]⟩
  · cases a with
    | negSucc m => cases h
    | ofNat m =>
      cases h
      refine ⟨.int k ((Int.ofNat m).fdiv (2 ^ (min n k.bits))), by simp [binOp, Op.shift]; intro h; omega, fun σ => ?_⟩
      simp only [conc]
      congr 2
      rw [show (2 : Int) ^ (min n k.bits) = ((2 ^ (min n k.bits) : Nat) : Int) by simp]
      rw [show (Int.ofNat m : Int) = (m : Int) from rfl, Int.fdiv_eq_ediv_of_nonneg _ (Int.natCast_nonneg _)]
      simp

/-! texts -/
theorem eqL_eq : ∀ a b : List UInt8, eqL a b = (a == b)
  | [], [] => rfl
  | [], _ :: _ => rfl
  | _ :: _, [] => rfl
  | a :: x, b :: y => by
    simp only [eqL, eqL_eq x y]
    rw [List.cons_beq_cons]
    cases h : Nat.beq a.toNat b.toNat
    · have : (a == b) = false := by
        rw [Bool.eq_false_iff]; intro e
        have : a = b := by simpa using e
        subst this; simp at h
      simp [this]
    · have : a = b := UInt8.toNat_inj.1 (Nat.eq_of_beq_eq_true h)
      subst this; simp
theorem ltL_eq : ∀ a b : List UInt8, ltL a b = Op.bytesLess a b
  | a, [] => by cases a <;> rfl
  | [], _ :: _ => rfl
  | a :: x, b :: y => by
    simp only [ltL, Op.bytesLess, ltL_eq x y]
    have h1 : Nat.blt a.toNat b.toNat = decide (a < b) := by
      rw [Bool.eq_iff_iff]; simp [Nat.blt, UInt8.lt_iff_toNat_lt]; omega
    have h2 : Nat.beq a.toNat b.toNat = (a == b) := by
      rw [Bool.eq_iff_iff]; simp [← UInt8.toNat_inj]
    rw [h1, h2]
    cases decide (a < b) <;> cases (a == b) <;> simp
theorem toList_mk (s : List UInt8) : (⟨⟨s⟩⟩ : ByteArray).toList = s := by rw [ByteArray.toList_eq]
theorem append_mk (a b : List UInt8) : (⟨⟨a⟩⟩ : ByteArray) ++ ⟨⟨b⟩⟩ = ⟨⟨a ++ b⟩⟩ := by
  have : ((⟨⟨a⟩⟩ : ByteArray) ++ ⟨⟨b⟩⟩).data = (⟨⟨a ++ b⟩⟩ : ByteArray).data := by rw [ByteArray.data_append]; simp
  cases h : ((⟨⟨a⟩⟩ : ByteArray) ++ ⟨⟨b⟩⟩); rw [h] at this; simpa using this
theorem size_mk (a : List UInt8) : (⟨⟨a⟩⟩ : ByteArray).size = a.length := rfl

theorem str_sound {op : BinOp} {a b : List UInt8} {v : AV} (h : strA op a b = some v) (t : TypeId) :
    ∃ x, (binOp op t (.string ⟨⟨a⟩⟩) (.string ⟨⟨b⟩⟩)).run P w = .ok x w ∧ ∀ σ, conc σ v = some x := by
  have e : ∀ op, binOp op t (.string ⟨⟨a⟩⟩) (.string ⟨⟨b⟩⟩) = Op.stringOp op ⟨⟨a⟩⟩ ⟨⟨b⟩⟩ := fun op => by cases op <;> rfl
  rw [e]
  cases op <;> simp only [strA, eqL_eq, ltL_eq, fL_eq] at h <;> try (cases h; done)
  case add =>
    cases hl : Nat.ble (a.length + b.length) 1000000 with
    | false => simp [hl] at h
    | true =>
      simp only [hl, cond_true] at h
      cases h
      have hl' := Nat.le_of_ble_eq_true hl
      refine ⟨.string ⟨⟨a ++ b⟩⟩, ?_, fun σ => by simp [conc]⟩
      unfold Op.stringOp
      simp only [size_mk, append_mk]
      rw [if_neg (by unfold IntKind.max IntKind.signed IntKind.bits; simp; omega)]
      rfl
  all_goals (cases h; exact ⟨.bool _, by simp only [Op.stringOp, toList_mk]; rfl, fun σ => by simp only [conc]⟩)

theorem un_sound {op : UnOp} {a : AV} {x : Value} {v : AV} {σ : Sg} (hx : conc σ a = some x) (h : unA op a = some v) :
    ∃ y, (Op.unary op x).run P w = .ok y w ∧ conc σ v = some y := by
  unfold unA at h
  split at h
  · simp only [conc] at hx; cases hx
    rw [intV_eq] at h; cases h
    exact ⟨_, rfl, by simp only [conc, wrapA_eq]⟩
  · simp only [conc] at hx; cases hx
    cases h
    exact ⟨_, rfl, by simp only [conc]⟩
  · cases h
end

end Go.Ev
/- The evaluator's soundness: what it is told of a program; operations that leave memory alone. -/
set_option linter.unusedSimpArgs false
set_option linter.unusedVariables false
namespace Go.Ev

def aggD : TypeDesc → Bool
  | .struct _ => true
  | .array _ _ => true
  | _ => false

/-- what a row of the table of types says -/
structure TOk (P : Program) (t : TypeId) (x : TI) : Prop where
  und : P.underlying t = some x.desc
  agg : x.agg = aggD x.desc
  zlen : x.zero.cells.length = x.size
  flds : (match x.desc with
    | .struct fs => fs.toList.all fun f => (P.info? f.type).isSome
    | _ => true) = true
  info : ∃ i z, P.info? t = some i ∧ i.size = x.size ∧ i.bytes = x.bytes ∧ i.zero = some z ∧ ofV z = some x.zero

/-- what is owed of a function that is answered out of a contract -/
def OrcOk (P : Program) (f : FuncId) (g : List AV → H → Option (AV × H)) : Prop :=
  ∀ σ args xs h w v h', concL σ args = some xs → HRel σ h w.heap → g args h = some (v, h') →
    Calls P f ⟨xs⟩ w fun e w' => ∃ σ' x, e = .returned x ∧ conc σ' v = some x ∧ HRel σ' h' w'.heap ∧ Ext σ h w σ' h' w'

structure EnvOk (P : Program) (E : Env) : Prop where
  orc : ∀ f g, E.orc.get f = some g → OrcOk P f g
  mixed : P.follows .mixedOrders = true
  fs : ∀ f fn, E.fs.get f = some fn → P.funcs[f]? = some fn
  enter : ∀ f fn c, E.fs.get f = some fn → fn.body = some c → ∀ args w, (callFunc f args).run P w = .ok (.enter f args) w
  noEscape : ∀ f fn, E.fs.get f = some fn → fn.body = none → fn.name = "internal/abi.NoEscape" → ∀ x w, (callFunc f #[x]).run P w = .ok (.value x) w
  clone : ∀ f fn, E.fs.get f = some fn → fn.body = none → fn.name = "maps.clone" → ∀ t r w es c, w.heap[r]? = some (.map es c) →
    (callFunc f #[.iface t (.map (some r))]).run P w = .ok (.value (.iface t (.map (some w.heap.size)))) { w with heap := w.heap.push (.map es c) }
  ibs : ∀ f fn, E.fs.get f = some fn → fn.body = none → fn.name = "internal/bytealg.IndexByteString" → ∀ s c w, c < 256 → (callFunc f #[.string ⟨⟨s⟩⟩, .int .u8 (Int.ofNat c)]).run P w = .ok (.value (.int .i64 (indexByteA c s 0))) w
  ts : ∀ t x, E.ts.get t = some x → TOk P t x
  ms : ∀ t name f, E.ms t name = some f → ∀ v args w, (callMethod (.iface t v) name args).run P w = (callFunc f (#[v] ++ args)).run P w
  be : ∀ t, E.be t = true → P.eqGuardType P.depth t = false ∧ P.stoodInHeld t = false
  bx : ∀ t e, E.bx t e = true → (∃ i, P.info? t = some i ∧ i.size ≠ 0) ∧ P.cellsOf e ≠ 0 ∧ liesAt P P.depth e 1 0 t 1 = true
  bs : ∀ t e, E.bs t e = true → P.cellsOf e = 1 ∧ ∃ u, P.underlying t = some (.pointer u) ∧ sameLayout P P.depth e u = true

theorem orcR_ok {P : Program} {E : Env} (hE : EnvOk P E) {f : FuncId} {args : List AV} {h h' : H} {v : AV} (ho : orcR E f args h = some (v, h')) {σ : Sg} {w : World} {xs : List Value} (hx : concL σ args = some xs) (r : HRel σ h w.heap) :
    Calls P f ⟨xs⟩ w fun e w' => ∃ σ' x, e = .returned x ∧ conc σ' v = some x ∧ HRel σ' h' w'.heap ∧ Ext σ h w σ' h' w' := by
  unfold orcR at ho
  split at ho
  · rename_i g hg
    exact hE.orc f g hg σ args xs h w v h' hx r ho
  · cases ho

section
variable {P : Program} {t : TypeId} {x : TI}
theorem TOk.run (h : TOk P t x) (w : World) : (underlying t).run P w = .ok x.desc w := by simp [underlying, h.und]
theorem TOk.size (h : TOk P t x) (w : World) : (sizeOf t).run P w = .ok x.size w := by
  obtain ⟨i, z, h1, h2, _⟩ := h.info
  simp [sizeOf, typeInfo, h1, h2]
theorem TOk.bytes (h : TOk P t x) : ∃ i, (∀ w, (typeInfo t).run P w = .ok i w) ∧ i.bytes = x.bytes := by
  obtain ⟨i, z, h1, _, h3, _⟩ := h.info
  exact ⟨i, fun w => by simp [typeInfo, h1], h3⟩
theorem TOk.isAgg (h : TOk P t x) (w : World) : (isAgg t).run P w = .ok x.agg w := by
  rw [h.agg]
  simp only [Go.isAgg, Sem.run_bind, h.run, Result.andThen_ok]
  cases x.desc <;> simp [aggD]
theorem TOk.zero (h : TOk P t x) : ∃ z, (∀ w, (zeroValue t).run P w = .ok z w) ∧ ∀ σ, conc σ x.zero = some z := by
  obtain ⟨i, z, h1, _, _, h4, h5⟩ := h.info
  exact ⟨z, fun w => by simp [zeroValue, typeInfo, h1, h4], fun σ => conc_ofV h5⟩
end

theorem concL_one {σ : Sg} {a : AV} {x : Value} : concL σ [a] = some [x] ↔ conc σ a = some x := by
  rw [concL_cons]
  constructor
  · rintro ⟨y, l, h1, h2, h3⟩; cases h3; exact h1
  · intro h; exact ⟨x, [], h, by simp [concL], rfl⟩
theorem concL_two {σ : Sg} {a b : AV} {x y : Value} : concL σ [a, b] = some [x, y] ↔ conc σ a = some x ∧ conc σ b = some y := by
  rw [concL_cons]
  constructor
  · rintro ⟨u, l, h1, h2, h3⟩; cases h3; exact ⟨h1, concL_one.1 h2⟩
  · rintro ⟨h1, h2⟩; exact ⟨x, [y], h1, concL_one.2 h2, rfl⟩
theorem concL_three {σ : Sg} {a b c : AV} {x y z : Value} : concL σ [a, b, c] = some [x, y, z] ↔ conc σ a = some x ∧ conc σ b = some y ∧ conc σ c = some z := by
  rw [concL_cons]
  constructor
  · rintro ⟨u, l, h1, h2, h3⟩; cases h3; exact ⟨h1, concL_two.1 h2⟩
  · rintro ⟨h1, h2⟩; exact ⟨x, [y, z], h1, concL_two.2 h2, rfl⟩

theorem conc_ptr {σ : Sg} {i o : Nat} {x : Value} (h : conc σ (.ptr (some (i, o))) = some x) : ∃ b c, σ i = some (b, c) ∧ x = .pointer (some ⟨b, o, none⟩) := by
  simp only [conc] at h
  cases hs : σ i with
  | none => simp [hs] at h
  | some p => simp [hs] at h; exact ⟨p.1, p.2, rfl, h.symm⟩
theorem conc_agg {σ : Sg} {cs : List AV} {x : Value} (h : conc σ (.agg cs) = some x) : ∃ l, concL σ cs = some l ∧ x = .agg ⟨l⟩ := by
  simp only [conc] at h
  cases hs : concL σ cs with
  | none => simp [hs] at h
  | some p => simp [hs] at h; exact ⟨p, rfl, h.symm⟩
theorem conc_tuple {σ : Sg} {cs : List AV} {x : Value} (h : conc σ (.tuple cs) = some x) : ∃ l, concL σ cs = some l ∧ x = .tuple ⟨l⟩ := by
  simp only [conc] at h
  cases hs : concL σ cs with
  | none => simp [hs] at h
  | some p => simp [hs] at h; exact ⟨p, rfl, h.symm⟩
theorem conc_int {σ : Sg} {k : IntKind} {n : Int} {x : Value} (h : conc σ (.int k n) = some x) : x = .int k n := by simp [conc] at h; exact h.symm
theorem conc_bool {σ : Sg} {b : Bool} {x : Value} (h : conc σ (.bool b) = some x) : x = .bool b := by simp [conc] at h; exact h.symm
theorem conc_str {σ : Sg} {s : List UInt8} {x : Value} (h : conc σ (.str s) = some x) : x = .string ⟨⟨s⟩⟩ := by simp [conc] at h; exact h.symm
theorem conc_iface {σ : Sg} {t : TypeId} {v : AV} {x : Value} (h : conc σ (.iface t v) = some x) : ∃ y, conc σ v = some y ∧ x = .iface t y := by
  simp only [conc] at h
  cases hs : conc σ v with
  | none => simp [hs] at h
  | some p => simp [hs] at h; exact ⟨p, rfl, h.symm⟩
theorem conc_slice' {σ : Sg} {i o n : Nat} {c : Option Nat} {x : Value} (h : conc σ (.slice (some (i, o)) n c) = some x) : ∃ b c', σ i = some (b, c') ∧ x = .slice (some ⟨b, o, none⟩) n (c.getD c') ∧ (c = none → n ≤ c') := by
  cases c <;> simp only [conc] at h
  · cases hs : σ i with
    | none => simp [hs] at h
    | some p => simp [hs] at h; exact ⟨p.1, p.2, rfl, h.2.symm, fun _ => h.1⟩
  · cases hs : σ i with
    | none => simp [hs] at h
    | some p => simp [hs] at h; exact ⟨p.1, p.2, rfl, h.symm, fun e => by cases e⟩
theorem conc_slice {σ : Sg} {i o n : Nat} {c : Option Nat} {x : Value} (h : conc σ (.slice (some (i, o)) n c) = some x) : ∃ b c', σ i = some (b, c') ∧ x = .slice (some ⟨b, o, none⟩) n (c.getD c') := by
  obtain ⟨b, c', h1, h2, _⟩ := conc_slice' h; exact ⟨b, c', h1, h2⟩
theorem conc_sliceNil {σ : Sg} {n : Nat} {c : Option Nat} {x : Value} (h : conc σ (.slice none n c) = some x) : ∃ k, c = some k ∧ x = .slice none n k := by
  cases c <;> simp [conc] at h
  exact ⟨_, rfl, h.symm⟩
theorem conc_map {σ : Sg} {i : Nat} {x : Value} (h : conc σ (.map (some i)) = some x) : ∃ b c, σ i = some (b, c) ∧ x = .map (some b) := by
  simp only [conc] at h
  cases hs : σ i with
  | none => simp [hs] at h
  | some p => simp [hs] at h; exact ⟨p.1, p.2, rfl, h.symm⟩
theorem conc_mapNil {σ : Sg} {x : Value} (h : conc σ (.map none) = some x) : x = .map none := by simp [conc] at h; exact h.symm
theorem conc_chan {σ : Sg} {i : Nat} {x : Value} (h : conc σ (.chan (some i)) = some x) : ∃ b c, σ i = some (b, c) ∧ x = .chan (some b) := by
  simp only [conc] at h
  cases hs : σ i with
  | none => simp [hs] at h
  | some p => simp [hs] at h; exact ⟨p.1, p.2, rfl, h.symm⟩
theorem conc_func {σ : Sg} {f : FuncId} {a b : List AV} {x : Value} (h : conc σ (.func f a b) = some x) : ∃ y z, concL σ a = some y ∧ concL σ b = some z ∧ x = .func (.func f) ⟨y⟩ ⟨z⟩ := by
  simp only [conc] at h
  cases ha : concL σ a with
  | none => simp [ha] at h
  | some y =>
    cases hb : concL σ b with
    | none => simp [ha, hb] at h
    | some z => simp [ha, hb] at h; exact ⟨y, z, rfl, rfl, h.symm⟩
theorem conc_yield {σ : Sg} {l : Nat} {x : Value} (h : conc σ (.yield l) = some x) : ∃ b c, σ l = some (b, c) ∧ x = .func (.yield b) #[] #[] := by
  simp only [conc] at h
  cases hs : σ l with
  | none => simp [hs] at h
  | some p => simp [hs] at h; exact ⟨p.1, p.2, rfl, h.symm⟩

theorem natOf_sound {σ : Sg} {a : AV} {n : Nat} {x : Value} (hx : conc σ a = some x) (h : natOf a = some n) : ∃ k, x = .int k (Int.ofNat n) := by
  unfold natOf at h
  split at h
  · cases h; exact ⟨_, conc_int hx⟩
  · cases h

/-! reading memory -/
theorem ORel.inv_cells {σ : Sg} {c : Nat} {cs : List AV} {e : TypeId} {ext : Option Nat} {wr : Bool} {x : Obj} (h : ORel σ c (.cells cs e ext wr) x) :
    ∃ cs' fz l r, x = .cells cs' e fz ∧ concL σ cs = some l ∧ cs'.toList = l ++ r ∧ extOk ext cs'.size c cs.length ∧ (wr = true → ∀ o, o < cs'.size → ¬ (fz.1 ≤ o ∧ o < fz.2)) := by
  cases x <;> simp only [ORel] at h
  rename_i cs' e' fz
  obtain ⟨l, h1, ⟨r, h2⟩, h3, h4, h5⟩ := h
  subst h3
  exact ⟨cs', fz, l, r, rfl, h1, h2, h4, h5⟩

theorem cell_of {w : World} {b o : Nat} {cs : Array Value} {e : TypeId} {fz : Nat × Nat} (h : w.heap[b]? = some (.cells cs e fz)) : w.cell? ⟨b, o, none⟩ = cs[o]? := by
  simp [World.cell?, h]
theorem add_addr (b o n : Nat) : (⟨b, o, none⟩ : Addr).add n = ⟨b, o + n, none⟩ := by
  unfold Addr.add; split
  · subst_vars; simp
  · rfl

theorem run_cells {P : Program} {w : World} {b o : Nat} {cs : Array Value} {e : TypeId} {fz : Nat × Nat} (h : w.heap[b]? = some (.cells cs e fz)) :
    ∀ (n i : Nat) (acc : Array Value) (m : List Value), (cs.toList.drop (o + i)).take n = m → m.length = n →
      (loadCellsFrom ⟨b, o, none⟩ i n acc).run P w = .ok (acc ++ m.toArray) w
  | 0, i, acc, m, hm, hl => by
    have : m = [] := List.length_eq_zero_iff.1 hl
    subst this; simp [loadCellsFrom]
  | n + 1, i, acc, m, hm, hl => by
    cases m with
    | nil => simp at hl
    | cons a m =>
      have hne : (cs.toList.drop (o + i)) ≠ [] := by intro e'; rw [e'] at hm; simp at hm
      obtain ⟨y, ys, hy⟩ : ∃ y ys, cs.toList.drop (o + i) = y :: ys := List.exists_cons_of_ne_nil hne
      rw [hy] at hm
      simp at hm
      obtain ⟨rfl, hm⟩ := hm
      have hc : cs[o + i]? = some y := by
        have : (cs.toList.drop (o + i))[0]? = some y := by rw [hy]; rfl
        simpa using this
      have hd : cs.toList.drop (o + (i + 1)) = ys := by
        have : (cs.toList.drop (o + i)).drop 1 = ys := by rw [hy]; rfl
        rw [List.drop_drop] at this; rw [← this]; congr 1
      simp only [loadCellsFrom, Sem.run_bind, run_load, add_addr, cell_of h, hc, Result.andThen_ok]
      rw [run_cells h n (i + 1) (acc.push y) m (by rw [hd]; exact hm) (by simpa using hl)]
      simp

theorem load_sound {P : Program} {σ : Sg} {hp : H} {w : World} {t : TypeId} {x : TI} (ht : TOk P t x) (r : HRel σ hp w.heap) {i o : Nat} {v : AV} (h : loadA x hp i o = some v) {b c : Nat} (hs : σ i = some (b, c)) :
    ∃ y, (loadVar t ⟨b, o, none⟩).run P w = .ok y w ∧ conc σ v = some y := by
  unfold loadA at h
  cases hg : hp.t.get i with
  | none => simp [hg] at h
  | some ob =>
    obtain ⟨b', c', x', h1, h2, h3⟩ := r.objs i ob hg
    rw [hs] at h1; cases h1
    cases ob <;> simp only [hg] at h <;> try (cases h; done)
    rename_i cs e ext wr
    obtain ⟨cs', fz, l, rr, rfl, hl, hcs, _, _⟩ := h3.inv_cells
    unfold loadVar
    simp only [Sem.run_bind, ht.isAgg, Result.andThen_ok]
    cases ha : x.agg with
    | false =>
      simp only [ha, cond_false] at h
      obtain ⟨y, h5, h6⟩ := concL_nth hl h
      refine ⟨y, ?_, h6⟩
      have : cs'[o]? = some y := by
        rw [← Array.getElem?_toList, hcs, List.getElem?_append_left (by rw [List.getElem?_eq_some_iff] at h5; exact h5.1)]; exact h5
      simp [cell_of h2, this]
    | true =>
      simp only [ha, cond_true] at h
      cases hsb : sub o x.size cs with
      | none => simp [hsb] at h
      | some m =>
        simp [hsb] at h; subst h
        obtain ⟨e1, e2⟩ := sub_eq hsb
        have hm := concL_sub hl hsb
        have hlen := concL_length hl
        refine ⟨.agg ⟨(l.drop o).take x.size⟩, ?_, by simp [conc, hm]⟩
        simp only [if_true, Sem.run_bind, ht.size, Result.andThen_ok, loadCells]
        rw [run_cells h2 x.size 0 #[] ((l.drop o).take x.size)]
        · simp
        · rw [hcs]; simp only [Nat.add_zero]
          rcases e2 with e2 | e2
          · rw [List.drop_append_of_le_length (by omega), List.take_append_of_le_length (by simp; omega)]
          · rw [e2]; simp
        · rcases e2 with e2 | e2
          · simp; omega
          · simp [e2]

end Go.Ev
/- The evaluator's soundness: equality, parts, slices, conversions. -/
set_option linter.unusedSimpArgs false
set_option linter.unusedVariables false
namespace Go.Ev

section
variable {P : Program} {t : TypeId} (w : World) (d : Nat)
theorem eq_bool (h : P.underlying t = some .bool) (a b : Bool) : (Op.equalIn (d + 1) t (.bool a) (.bool b)).run P w = .ok (a == b) w := by simp [Op.equalIn, run_underlying h]
theorem eq_int {k' : IntKind} (h : P.underlying t = some (.int k')) (k : IntKind) (a b : Int) : (Op.equalIn (d + 1) t (.int k a) (.int k b)).run P w = .ok (a == b) w := by simp [Op.equalIn, run_underlying h]
theorem eq_str (h : P.underlying t = some .string) (a b : ByteArray) : (Op.equalIn (d + 1) t (.string a) (.string b)).run P w = .ok (a == b) w := by simp [Op.equalIn, run_underlying h]
theorem eq_ptr1 {e : TypeId} (h : P.underlying t = some (.pointer e)) (b : Option Addr) : (Op.equalIn (d + 1) t (.pointer none) (.pointer b)).run P w = .ok b.isNone w := by simp [Op.equalIn, run_underlying h]
theorem eq_ptr2 {e : TypeId} (h : P.underlying t = some (.pointer e)) (a : Addr) : (Op.equalIn (d + 1) t (.pointer (some a)) (.pointer none)).run P w = .ok false w := by simp [Op.equalIn, run_underlying h]
theorem eq_ptr3 {e : TypeId} (h : P.underlying t = some (.pointer e)) (n : Nat) (hn : n ≠ 0) (hs : (sizeOf e).run P w = .ok n w) (a b : Addr) (hab : a.block = b.block) : (Op.equalIn (d + 1) t (.pointer (some a)) (.pointer (some b))).run P w = .ok (a == b) w := by
  have e1 : (sameAddr a b).run P w = .ok (a == b) w := by simp [sameAddr, hab]
  rw [Op.equalIn]
  simp only [Sem.run_bind, run_underlying h, Result.andThen_ok, hs, ne_eq, hn, not_false_eq_true, if_true, e1]
theorem eq_if1 {ms : Array (String × TypeId)} (h : P.underlying t = some (.interface ms)) (u : TypeId) (v : Value) : (Op.equalIn (d + 1) t .nilIface (.iface u v)).run P w = .ok false w := by simp [Op.equalIn, run_underlying h]
theorem eq_if2 {ms : Array (String × TypeId)} (h : P.underlying t = some (.interface ms)) (u : TypeId) (v : Value) : (Op.equalIn (d + 1) t (.iface u v) .nilIface).run P w = .ok false w := by simp [Op.equalIn, run_underlying h]
theorem eq_sl1 {e : TypeId} (h : P.underlying t = some (.slice e)) (n c : Nat) (b : Option Addr) (m k : Nat) : (Op.equalIn (d + 1) t (.slice none n c) (.slice b m k)).run P w = .ok b.isNone w := by simp [Op.equalIn, run_underlying h]
theorem eq_sl2 {e : TypeId} (h : P.underlying t = some (.slice e)) (a : Addr) (n c : Nat) (m k : Nat) : (Op.equalIn (d + 1) t (.slice (some a) n c) (.slice none m k)).run P w = .ok false w := by simp [Op.equalIn, run_underlying h]
theorem eq_map1 {e f : TypeId} (h : P.underlying t = some (.map e f)) (b : Option Nat) : (Op.equalIn (d + 1) t (.map none) (.map b)).run P w = .ok b.isNone w := by simp [Op.equalIn, run_underlying h]
theorem eq_map2 {e f : TypeId} (h : P.underlying t = some (.map e f)) (b : Nat) : (Op.equalIn (d + 1) t (.map (some b)) (.map none)).run P w = .ok false w := by simp [Op.equalIn, run_underlying h]
theorem eq_chan {e : ChanDir} {f : TypeId} (h : P.underlying t = some (.chan e f)) (a b : Option Nat) : (Op.equalIn (d + 1) t (.chan a) (.chan b)).run P w = .ok (a == b) w := by simp [Op.equalIn, run_underlying h]
theorem eq_fn0 {a b : Array TypeId} {c : Bool} (h : P.underlying t = some (.func a b c)) : (Op.equalIn (d + 1) t .nilFunc .nilFunc).run P w = .ok true w := by simp [Op.equalIn, run_underlying h]
theorem eq_fn1 {a b : Array TypeId} {c : Bool} (h : P.underlying t = some (.func a b c)) (f : Fn) (x y : Array Value) : (Op.equalIn (d + 1) t .nilFunc (.func f x y)).run P w = .ok false w := by simp [Op.equalIn, run_underlying h]
theorem eq_fn2 {a b : Array TypeId} {c : Bool} (h : P.underlying t = some (.func a b c)) (f : Fn) (x y : Array Value) : (Op.equalIn (d + 1) t (.func f x y) .nilFunc).run P w = .ok false w := by simp [Op.equalIn, run_underlying h]
end

section
variable {P : Program} {E : Env} {σ : Sg} {w : World}

theorem eqCell_sound {t : TypeId} {x : TI} (ht : TOk P t x) {a b : AV} {y z : Value} (ha : conc σ a = some y) (hb : conc σ b = some z) {r : Bool} (h : eqCell x.desc a b = some r) (d : Nat) :
    (Op.equalIn (d + 1) t y z).run P w = .ok r w := by
  unfold eqCell at h
  split at h
  · rename_i hd
    have e1 := conc_bool ha; have e2 := conc_bool hb; subst e1 e2
    cases h
    exact eq_bool w d (by rw [ht.und, hd]) _ _
  · rename_i k m k' n hd
    have e1 := conc_int ha; have e2 := conc_int hb; subst e1 e2
    split at h
    · rename_i hk; subst hk
      cases h
      rw [eqI_eq]; exact eq_int w d (by rw [ht.und, hd]) _ _ _
    · cases h
  · rename_i hd
    have e1 := conc_str ha; have e2 := conc_str hb; subst e1 e2
    cases h
    rw [eq_str w d (by rw [ht.und, hd]), beq_toListBytes, toList_mk, toList_mk, eqL_eq]
  · cases h

theorem eqCell_agg {x : TI} {a b : AV} {r : Bool} (h : eqCell x.desc a b = some r) : aggD x.desc = false := by
  unfold eqCell at h
  split at h <;> first | (rename_i hd; rw [hd]; rfl) | cases h

theorem part_one {t : TypeId} {x : TI} (ht : TOk P t x) (hagg : x.agg = false) {cs : Array Value} {o : Nat} {y : Value} (h : cs[o]? = some y) : (part t cs o).run P w = .ok y w := by
  simp [part, ht.isAgg, hagg, h]

theorem eqFields_sound (hE : EnvOk P E) {xs ys : List AV} {l m : List Value} (hx : concL σ xs = some l) (hy : concL σ ys = some m) (d : Nat) :
    ∀ {fs : List Field} {r : Bool}, eqFields E xs ys fs = some r → (Op.eqFields (d + 1) ⟨l⟩ ⟨m⟩ fs).run P w = .ok r w
  | [], r, h => by simp [eqFields] at h; subst h; simp [Op.eqFields]
  | f :: fs, r, h => by
    simp only [eqFields] at h
    split at h
    · cases h
    · rename_i hn
      split at h
      · rename_i t a b h1 h2 h3
        have ht := hE.ts _ _ h1
        obtain ⟨p, hp1, hp2⟩ := concL_nth hx h2
        obtain ⟨q, hq1, hq2⟩ := concL_nth hy h3
        have hag : t.agg = false := by
          rw [ht.agg]
          cases hc : eqCell t.desc a b with
          | none => simp [hc] at h
          | some r' => exact eqCell_agg hc
        have e1 : (part f.type (⟨l⟩ : Array Value) f.offset).run P w = .ok p w := part_one ht hag (by simpa using hp1)
        have e2 : (part f.type (⟨m⟩ : Array Value) f.offset).run P w = .ok q w := part_one ht hag (by simpa using hq1)
        cases hc : eqCell t.desc a b with
        | none => simp [hc] at h
        | some r' =>
          have e3 := eqCell_sound (w := w) ht hp2 hq2 hc d
          simp only [Op.eqFields, ne_eq, hn, not_false_eq_true, if_true, Sem.run_bind, e1, e2, e3, Result.andThen_ok]
          cases r' with
          | false => simp [hc] at h; subst h; simp
          | true => simp [hc] at h; simpa using eqFields_sound hE hx hy d h
      · cases h

theorem eqArr_sound {t : TypeId} {x : TI} (ht : TOk P t x) (hsz : x.size = 1) (d : Nat) (l m : List Value) :
    ∀ {xs ys : List AV} {l' m' : List Value} {k : Nat} {r : Bool}, concL σ xs = some l' → concL σ ys = some m' → l.drop k = l' → m.drop k = m' → eqArr x.desc xs ys = some r →
      ∀ (R : Bool → Result Bool), (forIn (List.range' k l'.length) ((none, ()) : Option Bool × Unit) fun i _ => do
          let b ← Op.equalIn (d + 1) t (← part t (⟨l⟩ : Array Value) (i * 1)) (← part t (⟨m⟩ : Array Value) (i * 1))
          if (!b) = true then pure (ForInStep.done (some false, ())) else pure (ForInStep.yield (none, ())) : Sem (Option Bool × Unit)).run P w = .ok (if r then none else some false, ()) w := by
  intro xs
  induction xs with
  | nil =>
    intro ys l' m' k r hx hy h1 h2 h R
    rw [concL_nil] at hx; subst hx
    cases ys with
    | nil => simp [eqArr] at h; subst h; simp
    | cons b ys => simp [eqArr] at h
  | cons a xs ih =>
    intro ys l' m' k r hx hy h1 h2 h R
    cases ys with
    | nil => simp [eqArr] at h
    | cons b ys =>
      obtain ⟨p, l'', hp, hl, rfl⟩ := concL_cons.1 hx
      obtain ⟨q, m'', hq, hm, rfl⟩ := concL_cons.1 hy
      simp only [eqArr] at h
      cases hc : eqCell x.desc a b with
      | none => simp [hc] at h
      | some r' =>
        have hag : x.agg = false := by rw [ht.agg]; exact eqCell_agg hc
        have g1 : l[k]? = some p := by have : (l.drop k)[0]? = some p := by rw [h1]; rfl
                                       simpa using this
        have g2 : m[k]? = some q := by have : (m.drop k)[0]? = some q := by rw [h2]; rfl
                                       simpa using this
        have e1 : (part t (⟨l⟩ : Array Value) k).run P w = .ok p w := part_one ht hag (by simpa using g1)
        have e2 : (part t (⟨m⟩ : Array Value) k).run P w = .ok q w := part_one ht hag (by simpa using g2)
        have e3 := eqCell_sound (w := w) ht hp hq hc d
        have d1 : l.drop (k + 1) = l'' := by have : (l.drop k).drop 1 = l'' := by rw [h1]; rfl
                                             rw [List.drop_drop] at this; exact this
        have d2 : m.drop (k + 1) = m'' := by have : (m.drop k).drop 1 = m'' := by rw [h2]; rfl
                                             rw [List.drop_drop] at this; exact this
        rw [List.length_cons, List.range'_succ, List.forIn_cons]
        simp only [Nat.mul_one, Sem.run_bind, e1, e2, e3, Result.andThen_ok]
        cases r' with
        | false => simp [hc] at h; subst h; simp
        | true =>
          simp [hc] at h
          have := ih hl hm d1 d2 h R
          simp only [Nat.mul_one] at this
          simpa using this

set_option maxHeartbeats 1000000 in
theorem eqV_at (hE : EnvOk P E) {t : TypeId} {a b : AV} {x y : Value} (hx : conc σ a = some x) (hy : conc σ b = some y) {r : Bool} (h : eqV E t a b = some r) (d : Nat) :
    (Op.equalIn (d + 1 + 1) t x y).run P w = .ok r w ∧ (∀ op p q, (eqGuard op t p q x y).run P w = .ok () w) := by
  unfold eqV at h
  cases hg : E.ts.get t with
  | none => simp [hg] at h
  | some i =>
    have ht := hE.ts _ _ hg
    simp only [hg] at h
    have guard : (∀ cs, x ≠ .agg cs) → (x = .nilIface → y ≠ .nilIface) → ∀ op p q, (eqGuard op t p q x y).run P w = .ok () w := by
      intro h1 h2 op p q
      cases op <;> (first | (simp [eqGuard]; done) | skip)
      all_goals
        cases x <;> cases y <;> first | (exact absurd rfl (h1 _)) | (exact absurd rfl (h2 rfl)) | simp [eqGuard]
    split at h
    · rename_i hd
      have e1 := conc_bool hx; have e2 := conc_bool hy; subst e1 e2
      cases h
      exact ⟨eq_bool w (d + 1) (by rw [ht.und, hd]) _ _, guard (by intro _ e; cases e) (by intro e; cases e)⟩
    · rename_i b hd
      simp only [conc] at hx; cases hx
      cases h
      refine ⟨?_, guard (by intro _ e; cases e) (by intro e; cases e)⟩
      rcases b with _ | ⟨i, o⟩
      · simp only [conc] at hy; cases hy; exact eq_ptr1 w (d + 1) (by rw [ht.und, hd]) _
      · obtain ⟨_, _, _, rfl⟩ := conc_ptr hy; exact eq_ptr1 w (d + 1) (by rw [ht.und, hd]) _
    · rename_i p hd
      obtain ⟨i, o⟩ := p
      obtain ⟨_, _, _, rfl⟩ := conc_ptr hx
      simp only [conc] at hy; cases hy
      cases h
      exact ⟨eq_ptr2 w (d + 1) (by rw [ht.und, hd]) _, guard (by intro _ e; cases e) (by intro e; cases e)⟩
    · rename_i e a' o b' p hd
      cases he : E.ts.get e with
      | none => simp [he] at h
      | some ei =>
        have hte := hE.ts _ _ he
        simp only [he] at h
        split at h
        · cases h
        · rename_i hsz
          split at h
          · rename_i hab; subst hab
            obtain ⟨b₁, c₁, s1, rfl⟩ := conc_ptr hx
            obtain ⟨b₂, c₂, s2, rfl⟩ := conc_ptr hy
            rw [s1] at s2; cases s2
            cases h
            refine ⟨?_, guard (by intro _ e; cases e) (by intro e; cases e)⟩
            rw [eq_ptr3 w (d + 1) (by rw [ht.und, hd]) ei.size hsz (hte.size w) ⟨b₁, o, none⟩ ⟨b₁, p, none⟩ rfl]
            congr 1
            rw [Bool.eq_iff_iff]; simp
          · cases h
    · rename_i hd
      simp only [conc] at hx; cases hx
      obtain ⟨_, _, rfl⟩ := conc_iface hy
      cases h
      exact ⟨eq_if1 w (d + 1) (by rw [ht.und, hd]) _ _, guard (by intro _ e; cases e) (by intro _ e; cases e)⟩
    · rename_i hd
      simp only [conc] at hy; cases hy
      obtain ⟨_, _, rfl⟩ := conc_iface hx
      cases h
      exact ⟨eq_if2 w (d + 1) (by rw [ht.und, hd]) _ _, guard (by intro _ e; cases e) (by intro e; cases e)⟩
    · rename_i b _ _ hd
      obtain ⟨_, _, rfl⟩ := conc_sliceNil hx
      cases h
      refine ⟨?_, guard (by intro _ e; cases e) (by intro e; cases e)⟩
      rcases b with _ | ⟨i, o⟩
      · obtain ⟨_, _, rfl⟩ := conc_sliceNil hy; exact eq_sl1 w (d + 1) (by rw [ht.und, hd]) _ _ _ _ _
      · obtain ⟨_, _, _, rfl⟩ := conc_slice hy; exact eq_sl1 w (d + 1) (by rw [ht.und, hd]) _ _ _ _ _
    · rename_i p _ _ _ _ hd
      obtain ⟨i, o⟩ := p
      obtain ⟨_, _, _, rfl⟩ := conc_slice hx
      obtain ⟨_, _, rfl⟩ := conc_sliceNil hy
      cases h
      exact ⟨eq_sl2 w (d + 1) (by rw [ht.und, hd]) _ _ _ _ _, guard (by intro _ e; cases e) (by intro e; cases e)⟩
    · rename_i b hd
      have e1 := conc_mapNil hx; subst e1
      cases h
      refine ⟨?_, guard (by intro _ e; cases e) (by intro e; cases e)⟩
      rcases b with _ | i
      · have := conc_mapNil hy; subst this; exact eq_map1 w (d + 1) (by rw [ht.und, hd]) _
      · obtain ⟨_, _, _, rfl⟩ := conc_map hy; exact eq_map1 w (d + 1) (by rw [ht.und, hd]) _
    · rename_i hd
      obtain ⟨_, _, _, rfl⟩ := conc_map hx
      have e1 := conc_mapNil hy; subst e1
      cases h
      exact ⟨eq_map2 w (d + 1) (by rw [ht.und, hd]) _, guard (by intro _ e; cases e) (by intro e; cases e)⟩
    · rename_i b hd
      simp only [conc] at hx; cases hx
      cases h
      refine ⟨?_, guard (by intro _ e; cases e) (by intro e; cases e)⟩
      rcases b with _ | i
      · simp only [conc] at hy; cases hy; exact eq_chan w (d + 1) (by rw [ht.und, hd]) _ _
      · obtain ⟨_, _, _, rfl⟩ := conc_chan hy; exact eq_chan w (d + 1) (by rw [ht.und, hd]) _ _
    · rename_i hd
      obtain ⟨_, _, _, rfl⟩ := conc_chan hx
      simp only [conc] at hy; cases hy
      cases h
      exact ⟨eq_chan w (d + 1) (by rw [ht.und, hd]) _ _, guard (by intro _ e; cases e) (by intro e; cases e)⟩
    · rename_i hd
      simp only [conc] at hx hy; cases hx; cases hy; cases h
      exact ⟨eq_fn0 w (d + 1) (by rw [ht.und, hd]), guard (by intro _ e; cases e) (by intro e; cases e)⟩
    · rename_i hd
      obtain ⟨_, _, _, _, rfl⟩ := conc_func hy
      simp only [conc] at hx; cases hx; cases h
      exact ⟨eq_fn1 w (d + 1) (by rw [ht.und, hd]) _ _ _, guard (by intro _ e; cases e) (by intro e; cases e)⟩
    · rename_i hd
      obtain ⟨_, _, _, _, rfl⟩ := conc_func hx
      simp only [conc] at hy; cases hy; cases h
      exact ⟨eq_fn2 w (d + 1) (by rw [ht.und, hd]) _ _ _, guard (by intro _ e; cases e) (by intro e; cases e)⟩
    · rename_i fs xs ys hd
      cases hb : E.be t with
      | false => simp [hb] at h
      | true =>
        obtain ⟨b1, b2⟩ := hE.be t hb
        simp only [hb, cond_true] at h
        obtain ⟨l, hl, rfl⟩ := conc_agg hx
        obtain ⟨m, hm, rfl⟩ := conc_agg hy
        have hu : P.underlying t = some (.struct fs) := by rw [ht.und, hd]
        have hf : P.fieldsOf t = fs := by simp [Program.fieldsOf, hu]
        refine ⟨?_, fun op p q => run_eqGuard_agg w op t p q _ _ b1⟩
        rw [run_equalIn_struct w (d + 1) t _ _ (by rw [hf, hu]) b2, hf]
        exact eqFields_sound hE hl hm d h
    · rename_i n e xs ys hd
      cases he : E.ts.get e with
      | none => simp [he] at h
      | some ei =>
        have hte := hE.ts _ _ he
        simp only [he] at h
        cases hb : (E.be t && (Nat.beq xs.length n && (Nat.beq ys.length n && Nat.beq ei.size 1))) with
        | false => rw [hb] at h; cases h
        | true =>
          rw [hb] at h; simp only [cond_true] at h
          simp only [Bool.and_eq_true] at hb
          obtain ⟨hb0, hb1, hb2, hb3⟩ := hb
          have hn := Nat.eq_of_beq_eq_true hb1
          have hsz := Nat.eq_of_beq_eq_true hb3
          obtain ⟨b1, b2⟩ := hE.be t hb0
          obtain ⟨l, hl, rfl⟩ := conc_agg hx
          obtain ⟨m, hm, rfl⟩ := conc_agg hy
          have hll := concL_length hl
          refine ⟨?_, fun op p q => run_eqGuard_agg w op t p q _ _ b1⟩
          have key := eqArr_sound (w := w) hte hsz d l m (k := 0) hl hm (by simp) (by simp) h (fun b => .ok b w)
          rw [Op.equalIn]
          simp only [Sem.run_bind, ht.run, hd, Result.andThen_ok, hte.size, hsz, Std.Legacy.Range.forIn_eq_forIn_range', Std.Legacy.Range.size, Nat.sub_zero, Nat.add_sub_cancel, Nat.div_one]
          have hln : n = l.length := by omega
          rw [hln]
          rw [key]
          cases r <;> simp
    · cases h
theorem eqV_sound (hE : EnvOk P E) {t : TypeId} {a b : AV} {x y : Value} (hx : conc σ a = some x) (hy : conc σ b = some y) {r : Bool} (h : eqV E t a b = some r) :
    (Op.equal t x y).run P w = .ok r w ∧ (∀ op p q, (eqGuard op t p q x y).run P w = .ok () w) := eqV_at hE hx hy h 9998

end
end Go.Ev
/- The evaluator's soundness: parts, build, slices, maps that are read. -/
set_option linter.unusedSimpArgs false
set_option linter.unusedVariables false
namespace Go.Ev

section
variable {P : Program} {E : Env} {σ : Sg} {w : World}

theorem part_sound {t : TypeId} {y : TI} (ht : TOk P t y) {cs : List AV} {l : List Value} (hl : concL σ cs = some l) {off : Nat} {v : AV} (h : partA y cs off = some v) :
    ∃ x, (part t ⟨l⟩ off).run P w = .ok x w ∧ conc σ v = some x := by
  unfold partA at h
  unfold part
  simp only [Sem.run_bind, ht.isAgg, Result.andThen_ok]
  cases ha : y.agg with
  | false =>
    simp only [ha, cond_false] at h
    obtain ⟨x, h1, h2⟩ := concL_nth hl h
    exact ⟨x, by simp [h1], h2⟩
  | true =>
    simp only [ha, cond_true] at h
    cases hs : sub off y.size cs with
    | none => simp [hs] at h
    | some m =>
      simp [hs] at h; subst h
      have hm := concL_sub hl hs
      refine ⟨.agg ⟨(l.drop off).take y.size⟩, ?_, by simp [conc, hm]⟩
      simp [ht.size]

theorem write_conc {vs z r : List AV} {vl zl : List Value} {off : Nat} (hv : concL σ vs = some vl) (hz : concL σ z = some zl) (h : write off vs z = some r) (hle : off + vs.length ≤ z.length) :
    concL σ r = some (zl.take off ++ vl ++ zl.drop (off + vl.length)) := by
  have hl := concL_length hv
  rcases write_eq h with ⟨rfl, rfl⟩ | ⟨_, rfl⟩
  · rw [concL_nil] at hv; subst hv; simpa using hz
  · rw [hl]; exact concL_append (concL_append (concL_take hz) hv) (concL_drop hz)

theorem foldl_set (off : Nat) : ∀ (vs : List Value) (j : Nat) (cells : Array Value), off + j + vs.length ≤ cells.size →
    ((vs.zipIdx j).foldl (fun (cs : Array Value) (p : Value × Nat) => cs.setIfInBounds (off + p.2) p.1) cells).toList = cells.toList.take (off + j) ++ vs ++ cells.toList.drop (off + j + vs.length)
  | [], j, cells, h => by simp
  | v :: vs, j, cells, h => by
    rw [List.zipIdx_cons, List.foldl_cons, foldl_set off vs (j + 1) _ (by simp at h ⊢; omega)]
    have hlt : off + j < cells.toList.length := by simp at h ⊢; omega
    simp only [Array.toList_setIfInBounds, List.length_cons]
    have e1 : (cells.toList.set (off + j) v).take (off + (j + 1)) = cells.toList.take (off + j) ++ [v] := by
      rw [show off + (j + 1) = (off + j) + 1 by omega, List.take_succ_eq_append_getElem (by simpa using hlt)]
      simp only [List.getElem_set_self]
      rw [List.take_set, List.set_eq_of_length_le (by simp; omega)]
    have e2 : (cells.toList.set (off + j) v).drop (off + (j + 1) + vs.length) = cells.toList.drop (off + (j + 1) + vs.length) := by
      rw [List.drop_set_of_lt (by omega)]
    rw [e1, e2]
    simp [show off + (j + 1) + vs.length = off + j + (vs.length + 1) by omega]

theorem fill_sound {place : Nat → Option (Nat × Nat)} {place' : Nat → Option (Nat × Nat)} (hp : ∀ i p, place i = some p → place' i = some p) :
    ∀ {is : List Nat} {vs z r : List AV} {xs zl : List Value}, concL σ vs = some xs → concL σ z = some zl → fillA place is vs z = some r →
      ∃ rl, Instr.fill place' ⟨zl⟩ (is.zip xs) = some ⟨rl⟩ ∧ concL σ r = some rl
  | [], [], z, r, xs, zl, hv, hz, h => by
    simp [fillA] at h; subst h
    rw [concL_nil] at hv; subst hv
    exact ⟨zl, rfl, hz⟩
  | [], _ :: _, z, r, xs, zl, hv, hz, h => by simp [fillA] at h
  | _ :: _, [], z, r, xs, zl, hv, hz, h => by simp [fillA] at h
  | i :: is, v :: vs, z, r, xs, zl, hv, hz, h => by
    obtain ⟨x, xs, hx, hxs, rfl⟩ := concL_cons.1 hv
    simp only [fillA] at h
    cases hpl : place i with
    | none => simp [hpl] at h
    | some p =>
      obtain ⟨off, size⟩ := p
      simp only [hpl] at h
      cases hc : (Nat.beq v.cells.length size && Nat.ble (off + size) z.length) with
      | false => rw [hc] at h; cases h
      | true =>
        rw [hc] at h; simp only [cond_true] at h
        simp only [Bool.and_eq_true] at hc
        have h1 := Nat.eq_of_beq_eq_true hc.1
        have h2 := Nat.le_of_ble_eq_true hc.2
        cases hw : write off v.cells z with
        | none => simp [hw] at h
        | some z' =>
          simp only [hw] at h
          have hcl := conc_cells hx
          have hlen := concL_length hcl
          have hzl := concL_length hz
          have hz' := write_conc hcl hz hw (by omega)
          obtain ⟨rl, e1, e2⟩ := fill_sound hp hxs hz' h
          refine ⟨rl, ?_, e2⟩
          rw [List.zip_cons_cons]
          unfold Instr.fill
          simp only [hp i _ hpl]
          have hs : x.cells.size = size := by simp at hlen; omega
          rw [if_neg (by simp [hs, hzl]; omega)]
          rw [← e1]
          congr 1
          rw [← Array.toList_inj]
          have := foldl_set off x.cells.toList 0 ⟨zl⟩ (by simp at hlen ⊢; omega)
          rw [← Array.foldl_toList]
          simp only [Array.toList_zipIdx]
          simpa using this

theorem run_mapM {α β : Type} (f : α → Sem β) (g : α → β) : ∀ (l : List α), (∀ a ∈ l, (f a).run P w = .ok (g a) w) → (l.mapM f).run P w = .ok (l.map g) w
  | [], _ => by simp
  | a :: l, h => by
    simp [h a (by simp), run_mapM f g l (fun b hb => h b (by simp [hb]))]

theorem zero_cells {t : TypeId} {x : TI} (ht : TOk P t x) : ∃ z, (∀ w, (zeroValue t).run P w = .ok z w) ∧ ∀ σ, concL σ x.zero.cells = some z.cells.toList := by
  obtain ⟨z, h1, h2⟩ := ht.zero
  exact ⟨z, h1, fun σ => conc_cells (h2 σ)⟩

theorem build_sound (hE : EnvOk P E) {t : TypeId} {is : List Nat} {vs : List AV} {xs : List Value} (hv : concL σ vs = some xs) {v : AV} (h : buildA E t is vs = some v) :
    ∃ x, (Instr.build t (is.zip xs).toArray).run P w = .ok x w ∧ conc σ v = some x := by
  unfold buildA at h
  cases hg : E.ts.get t with
  | none => simp [hg] at h
  | some x =>
    have ht := hE.ts _ _ hg
    obtain ⟨z, hz1, hz2⟩ := zero_cells ht
    simp only [hg] at h
    unfold Instr.build
    split at h
    · rename_i fs hd
      cases hf : fillA (fieldPlaceA E fs) is vs x.zero.cells with
      | none => simp [hf] at h
      | some cs =>
        simp [hf, fL_eq] at h; subst h
        have hfl := ht.flds
        simp only [hd] at hfl
        let g : Field → Nat × Nat := fun f => (f.offset, P.cellsOf f.type)
        have hm : (fs.mapM (m := Sem) fun f => do pure (f.offset, ← sizeOf f.type)).run P w = .ok (fs.toList.map g).toArray w := by
          rw [Array.mapM_eq_mapM_toList]
          simp only [Sem.run_map]
          rw [run_mapM _ g]
          · rfl
          · intro f hf
            have := List.all_eq_true.1 hfl f hf
            cases hi : P.info? f.type with
            | none => simp [hi] at this
            | some i => simp [sizeOf, typeInfo, hi, g, Program.cellsOf]
        have hp : ∀ i p, fieldPlaceA E fs i = some p → ((fs.toList.map g).toArray)[i]? = some p := by
          intro i p hip
          unfold fieldPlaceA at hip
          cases hn : nth fs.toList i with
          | none => simp [hn] at hip
          | some f =>
            simp only [hn] at hip
            cases hy : E.ts.get f.type with
            | none => simp [hy] at hip
            | some y =>
              simp [hy] at hip; subst hip
              have hty := hE.ts _ _ hy
              obtain ⟨j, _, hj1, hj2, _⟩ := hty.info
              have : fs.toList[i]? = some f := by
                clear hfl hm hf hd
                generalize fs.toList = l at hn
                induction l generalizing i with
                | nil => simp [nth] at hn
                | cons a l ih => cases i with
                  | zero => simpa [nth] using hn
                  | succ i => simp [nth] at hn; simpa using ih i hn
              simp [this, g, Program.cellsOf, hj1, hj2]
        obtain ⟨rl, e1, e2⟩ := fill_sound (σ := σ) hp hv (hz2 σ) hf
        refine ⟨.agg ⟨rl⟩, ?_, by simp [conc, e2]⟩
        simp only [Sem.run_bind, hz1, Result.andThen_ok, ht.run, hd, hm, bind_pure_comp]
        simp only [bind_pure_comp] at hm
        simp only [hm, Result.andThen_ok]
        have e1' : Instr.fill (fun x => Option.map g fs[x]?) z.cells (is.zip xs) = some ⟨rl⟩ := by
          rw [← e1]; congr 1; funext i; simp
        simp [e1']
    · rename_i n e hd
      cases he : E.ts.get e with
      | none => simp [he] at h
      | some y =>
        have hty := hE.ts _ _ he
        simp only [he] at h
        cases hf : fillA (fun i => some (i * y.size, y.size)) is vs x.zero.cells with
        | none => simp [hf] at h
        | some cs =>
          simp [hf, fL_eq] at h; subst h
          obtain ⟨rl, e1, e2⟩ := fill_sound (σ := σ) (place' := fun i => some (i * y.size, y.size)) (fun i p hp => hp) hv (hz2 σ) hf
          refine ⟨.agg ⟨rl⟩, ?_, by simp [conc, e2]⟩
          simp only [Sem.run_bind, hz1, Result.andThen_ok, ht.run, hd, hty.size]
          have e1' : Instr.fill (fun i => some (i * y.size, y.size)) z.cells (is.zip xs) = some ⟨rl⟩ := e1
          simp [e1']
    · cases h

/-! slices -/
def bnd (d : Nat) (v : Option Value) (n : Nat) : Prop :=
  match v with
  | none => n = d
  | some x => ∃ k, x = .int k (Int.ofNat n)
theorem run_bound {k : IntKind} {n y : Nat} {code : BoundsCode} (h : n ≤ y) : (Instr.sliceBound (.int k (Int.ofNat n)) y code).run P w = .ok n w := by
  simp [Instr.sliceBound, asIntOf, h]
theorem run_bounds (b : Bool) {len cap : Nat} {lo hi mx : Option Value} {l h m : Nat} (h1 : bnd 0 lo l) (h2 : bnd len hi h) (h3 : bnd cap mx m) (a : l ≤ h) (c : h ≤ m) (d : m ≤ cap) (e : mx.isSome = true → hi.isSome = true) :
    (Instr.sliceBounds b len cap lo hi mx).run P w = .ok (l, h, m) w := by
  unfold Instr.sliceBounds
  cases mx with
  | none =>
    simp only [bnd] at h3; subst h3
    cases hi with
    | none =>
      simp only [bnd] at h2; subst h2
      cases lo with
      | none => simp only [bnd] at h1; subst h1; simp
      | some x => obtain ⟨k, rfl⟩ := h1; simp [run_bound a, -Int.ofNat_eq_natCast]
    | some y =>
      obtain ⟨k, rfl⟩ := h2
      cases lo with
      | none => simp only [bnd] at h1; subst h1; simp [run_bound c, -Int.ofNat_eq_natCast]
      | some x => obtain ⟨k', rfl⟩ := h1; simp [run_bound a, run_bound c, -Int.ofNat_eq_natCast]
  | some z =>
    obtain ⟨k3, rfl⟩ := h3
    cases hi with
    | none => simp at e
    | some y =>
      obtain ⟨k, rfl⟩ := h2
      cases lo with
      | none => simp only [bnd] at h1; subst h1; simp [run_bound c, run_bound d, -Int.ofNat_eq_natCast]
      | some x => obtain ⟨k', rfl⟩ := h1; simp [run_bound a, run_bound c, run_bound d, -Int.ofNat_eq_natCast]

/-- an optional value and what it stands for -/
def concO (σ : Sg) (a : Option AV) (x : Option Value) : Prop :=
  match a, x with
  | none, none => True
  | some v, some y => conc σ v = some y
  | _, _ => False
theorem bound_sound {d : Nat} {a : Option AV} {x : Option Value} {n : Nat} (hx : concO σ a x) (h : boundA d a = some n) : bnd d x n ∧ x.isSome = a.isSome := by
  cases a with
  | none => cases x <;> simp [concO] at hx; simp [boundA] at h; exact ⟨h.symm, rfl⟩
  | some v =>
    cases x with
    | none => simp [concO] at hx
    | some y =>
      simp only [concO] at hx
      simp only [boundA] at h
      obtain ⟨k, rfl⟩ := natOf_sound hx h
      exact ⟨⟨k, rfl⟩, rfl⟩

theorem extract_mk (s : List UInt8) (l h : Nat) : (⟨⟨s⟩⟩ : ByteArray).extract l h = ⟨⟨(s.drop l).take (h - l)⟩⟩ := by
  have : ((⟨⟨s⟩⟩ : ByteArray).extract l h).data = ⟨(s.drop l).take (h - l)⟩ := by
    rw [ByteArray.data_extract]; simp [List.drop_take]
  cases hh : (⟨⟨s⟩⟩ : ByteArray).extract l h; rw [hh] at this; simpa using this

def adr (σ : Sg) (a : Option (Nat × Nat)) (k : Nat) : Option Addr :=
  match a with
  | none => none
  | some (i, o) => (match σ i with
    | some (b, _) => some ⟨b, o + k, none⟩
    | none => none)

theorem sliceB_sound (hE : EnvOk P E) {t : TypeId} {a : AV} {x : Value} (hx : conc σ a = some x) {lo hi mx : Option AV} {lo' hi' mx' : Option Value} (hlo : concO σ lo lo') (hhi : concO σ hi hi') (hmx : concO σ mx mx') {v : AV} (h : sliceB E t a lo hi mx = some v) :
    ∃ y, (Instr.sliceAt t x lo' hi' mx').run P w = .ok y w ∧ conc σ v = some y := by
  unfold sliceB at h
  cases hg : E.ts.get t with
  | none => simp [hg] at h
  | some ti =>
    have ht := hE.ts _ _ hg
    simp only [hg] at h
    unfold Instr.sliceAt
    simp only [Sem.run_bind, ht.run, Result.andThen_ok]
    split at h
    · rename_i s hd
      have e := conc_str hx; subst e
      simp only [hd]
      cases h1 : boundA 0 lo with
      | none => simp [h1] at h
      | some l =>
        cases h2 : boundA s.length hi with
        | none => simp [h1, h2] at h
        | some hh =>
          cases mx with
          | some m => simp [h1, h2] at h
          | none =>
            simp only [h1, h2] at h
            cases hc : (Nat.ble l hh && Nat.ble hh s.length) with
            | false => rw [hc] at h; cases h
            | true =>
              rw [hc] at h; simp only [cond_true] at h
              simp only [Bool.and_eq_true] at hc
              have c1 := Nat.le_of_ble_eq_true hc.1
              have c2 := Nat.le_of_ble_eq_true hc.2
              cases hs : sub l (hh - l) s with
              | none => simp [hs] at h
              | some r =>
                simp [hs] at h; subst h
                obtain ⟨e, _⟩ := sub_eq hs
                have hm0 : mx' = none := by cases mx' <;> simp [concO] at hmx; rfl
                subst hm0
                refine ⟨.string ⟨⟨r⟩⟩, ?_, by simp [conc]⟩
                unfold Instr.slice
                simp only [Sem.run_bind, ht.run, hd, Result.andThen_ok, Option.isSome_none, Bool.false_eq_true, if_false]
                have hb := run_bounds (P := P) (w := w) false (len := s.length) (cap := s.length) (bound_sound hlo h1).1 (bound_sound hhi h2).1 (mx := none) (m := s.length) rfl c1 c2 (Nat.le_refl _) (by simp)
                simp [size_mk, hb, extract_mk, e]
    · rename_i e a len cap hd
      simp only [hd]
      have key : ∀ (l hh m : Nat) (c : Nat) (y : TI), TOk P e y → x = .slice (adr σ a 0) len c → bnd 0 lo' l → bnd len hi' hh → bnd c mx' m → l ≤ hh → hh ≤ m → m ≤ c → (mx'.isSome = true → hi'.isSome = true) →
          (Instr.slice t x lo' hi' mx').run P w = .ok (.slice (if m = l then (adr σ a 0) else (adr σ a (l * y.size))) (hh - l) (m - l)) w := by
        intro l hh m c y hy hx' b1 b2 b3 a1 a2 a3 a4
        subst hx'
        unfold Instr.slice
        simp only [Sem.run_bind, ht.run, hd, Result.andThen_ok]
        rw [run_bounds true b1 b2 b3 a1 a2 a3 a4]
        simp only [Result.andThen_ok, hy.size]
        congr 2
        split
        · rfl
        · rcases a with _ | ⟨i, o⟩
          · rfl
          · simp only [adr]
            cases σ i with
            | none => rfl
            | some p => simp [add_addr]
      have hxa : ∀ c', (∃ k, cap = some k ∧ c' = k) ∨ (cap = none ∧ ∃ i o b, a = some (i, o) ∧ σ i = some (b, c')) → x = .slice (adr σ a 0) len c' := by
        intro c' hc
        rcases a with _ | ⟨i, o⟩
        · obtain ⟨k, rfl, rfl⟩ := conc_sliceNil hx
          rcases hc with ⟨k', e1, rfl⟩ | ⟨e1, _⟩
          · cases e1; rfl
          · cases e1
        · obtain ⟨b, c₁, s1, rfl⟩ := conc_slice hx
          rcases hc with ⟨k', rfl, rfl⟩ | ⟨rfl, i', o', b', e2, s2⟩
          · simp [s1, adr]
          · cases e2; rw [s1] at s2; cases s2; simp [s1, adr]
      have fin : ∀ (l hh m : Nat) (y : TI) (c2 : Option Nat), (∀ i o, a = some (i, o) → ∃ p, σ i = some p) → c2 = some (m - l) →
          conc σ (.slice (cond (Nat.beq m l) a (moveA a (l * y.size))) (hh - l) c2) = some (.slice (if m = l then (adr σ a 0) else (adr σ a (l * y.size))) (hh - l) (m - l)) := by
        intro l hh m y c2 hdef hc2
        subst hc2
        have hbq : Nat.beq m l = decide (m = l) := by rw [Bool.eq_iff_iff]; simp
        rw [hbq]
        by_cases hml : m = l
        · simp only [hml, decide_true, cond_true, if_true]
          rcases a with _ | ⟨i, o⟩
          · simp [conc, adr]
          · obtain ⟨p, hp⟩ := hdef i o rfl; simp [conc, hp, adr]
        · simp only [hml, decide_false, cond_false, if_false]
          rcases a with _ | ⟨i, o⟩
          · simp [conc, moveA, adr]
          · obtain ⟨p, hp⟩ := hdef i o rfl; simp [conc, moveA, fN_eq, hp, adr]
      have hdef : ∀ i o, a = some (i, o) → ∃ p, σ i = some p := by
        rintro i o rfl
        obtain ⟨b, c₁, s1, _⟩ := conc_slice hx
        exact ⟨_, s1⟩
      cases he : E.ts.get e with
      | none => simp [he] at h
      | some y =>
        have hty := hE.ts _ _ he
        cases h1 : boundA 0 lo with
        | none => simp [he, h1] at h
        | some l =>
          cases h2 : boundA len hi with
          | none => simp [he, h1, h2] at h
          | some hh =>
            obtain ⟨b1, _⟩ := bound_sound hlo h1
            obtain ⟨b2, i2⟩ := bound_sound hhi h2
            cases mx with
            | none =>
              have hm0 : mx' = none := by cases mx' <;> simp [concO] at hmx; rfl
              subst hm0
              cases cap with
              | some c =>
                simp only [he, h1, h2] at h
                cases hc : (Nat.ble l hh && Nat.ble hh len && Nat.ble len c) with
                | false => rw [hc] at h; cases h
                | true =>
                  rw [hc] at h; simp only [cond_true] at h
                  simp only [Bool.and_eq_true] at hc
                  have c1 := Nat.le_of_ble_eq_true hc.1.1
                  have c2 := Nat.le_of_ble_eq_true hc.1.2
                  have c3 := Nat.le_of_ble_eq_true hc.2
                  cases h
                  exact ⟨_, key l hh c c y hty (hxa c (.inl ⟨c, rfl, rfl⟩)) b1 b2 rfl c1 (by omega) (Nat.le_refl _) (by simp), fin l hh c y _ hdef rfl⟩
              | none =>
                cases l with
                | succ l => simp [he, h1, h2] at h
                | zero =>
                  simp only [he, h1, h2] at h
                  cases hc : Nat.ble hh len with
                  | false => simp [hc] at h
                  | true =>
                    simp [hc] at h; subst h
                    have c1 := Nat.le_of_ble_eq_true hc
                    rcases a with _ | ⟨i, o⟩
                    · obtain ⟨k, e1, _⟩ := conc_sliceNil hx; cases e1
                    · obtain ⟨b, c', s1, _, hle⟩ := conc_slice' hx
                      have hle := hle rfl
                      refine ⟨_, key 0 hh c' c' y hty (hxa c' (.inr ⟨rfl, i, o, b, rfl, s1⟩)) b1 b2 rfl (Nat.zero_le _) (by omega) (Nat.le_refl _) (by simp), ?_⟩
                      have hle2 : hh ≤ c' := by omega
                      simp [conc, s1, hle2, adr]
            | some m =>
              cases mx' with
              | none => simp [concO] at hmx
              | some mv =>
                cases hn : natOf m with
                | none => cases cap <;> simp [he, h1, h2, hn] at h
                | some mm =>
                  obtain ⟨k, rfl⟩ := natOf_sound hmx hn
                  cases cap with
                  | some c =>
                    simp only [he, h1, h2, hn] at h
                    cases hc : (hi.isSome && Nat.ble l hh && Nat.ble hh mm && Nat.ble mm c) with
                    | false => rw [hc] at h; cases h
                    | true =>
                      rw [hc] at h; simp only [cond_true] at h
                      simp only [Bool.and_eq_true] at hc
                      have c1 := Nat.le_of_ble_eq_true hc.1.1.2
                      have c2 := Nat.le_of_ble_eq_true hc.1.2
                      have c3 := Nat.le_of_ble_eq_true hc.2
                      cases h
                      exact ⟨_, key l hh mm c y hty (hxa c (.inl ⟨c, rfl, rfl⟩)) b1 b2 ⟨k, rfl⟩ c1 c2 c3 (fun _ => i2.trans hc.1.1.1), fin l hh mm y _ hdef rfl⟩
                  | none =>
                    simp only [he, h1, h2, hn] at h
                    cases hc : (hi.isSome && Nat.ble l hh && Nat.ble hh mm && Nat.ble mm len) with
                    | false => rw [hc] at h; cases h
                    | true =>
                      rw [hc] at h; simp only [cond_true] at h
                      simp only [Bool.and_eq_true] at hc
                      have c1 := Nat.le_of_ble_eq_true hc.1.1.2
                      have c2 := Nat.le_of_ble_eq_true hc.1.2
                      have c3 := Nat.le_of_ble_eq_true hc.2
                      cases h
                      rcases a with _ | ⟨i, o⟩
                      · obtain ⟨k, e1, _⟩ := conc_sliceNil hx; cases e1
                      · obtain ⟨b, c', s1, _, hle⟩ := conc_slice' hx
                        have hle := hle rfl
                        exact ⟨_, key l hh mm c' y hty (hxa c' (.inr ⟨rfl, i, o, b, rfl, s1⟩)) b1 b2 ⟨k, rfl⟩ c1 c2 (by omega) (fun _ => i2.trans hc.1.1.1), fin l hh mm y _ hdef rfl⟩
    · rename_i n e a hd
      obtain ⟨i, o⟩ := a
      obtain ⟨b, c', s1, rfl⟩ := conc_ptr hx
      simp only [hd]
      cases he : E.ts.get e with
      | none => simp [he] at h
      | some y =>
        have hty := hE.ts _ _ he
        cases h1 : boundA 0 lo with
        | none => simp [he, h1] at h
        | some l =>
          cases h2 : boundA n hi with
          | none => simp [he, h1, h2] at h
          | some hh =>
            cases mx with
            | some m => simp [he, h1, h2] at h
            | none =>
              have hm0 : mx' = none := by cases mx' <;> simp [concO] at hmx; rfl
              subst hm0
              simp only [he, h1, h2] at h
              cases hc : (Nat.ble l hh && Nat.ble hh n) with
              | false => rw [hc] at h; cases h
              | true =>
                rw [hc] at h; simp only [cond_true] at h
                simp only [Bool.and_eq_true] at hc
                have c1 := Nat.le_of_ble_eq_true hc.1
                have c2 := Nat.le_of_ble_eq_true hc.2
                cases h
                have hb := run_bounds (P := P) (w := w) false (len := n) (cap := n) (bound_sound hlo h1).1 (bound_sound hhi h2).1 (mx := none) (m := n) rfl c1 c2 (Nat.le_refl _) (by simp)
                simp only [Sem.run_bind, Instr.sureAddr, Sem.run_pure, Result.andThen_ok, hb, hty.size]
                have hbq : Nat.beq n l = decide (n = l) := by rw [Bool.eq_iff_iff]; simp
                refine ⟨_, rfl, ?_⟩
                rw [hbq]
                by_cases hnl : n = l
                · simp [hnl, conc, s1]
                · simp [hnl, conc, s1, moveA, fN_eq, add_addr]
    · cases h

end
end Go.Ev
/- The evaluator's soundness: all operations that leave memory alone. -/
set_option linter.unusedSimpArgs false
set_option linter.unusedVariables false
namespace Go.Ev

section
variable {P : Program} {E : Env} {σ : Sg} {w : World}

/-! keys -/
/-- the key's type is one that is treated -/
def keyOk (d : TypeDesc) (k : AV) : Prop :=
  match d, k with
  | .int _, .int _ _ => True
  | .string, .str _ => True
  | _, _ => False
theorem keyT_sound (hE : EnvOk P E) {t e : TypeId} {k : AV} (h : keyT E t k = some e) :
    ∃ kt d, P.underlying t = some (.map kt e) ∧ P.underlying kt = some d ∧ keyOk d k := by
  unfold keyT at h
  cases hg : E.ts.get t with
  | none => simp [hg] at h
  | some x =>
    have ht := hE.ts _ _ hg
    simp only [hg] at h
    split at h
    · rename_i kt e' hd
      cases hk : E.ts.get kt with
      | none => simp [hk] at h
      | some y =>
        have hty := hE.ts _ _ hk
        simp only [hk] at h
        split at h
        · rename_i hd2; cases h; exact ⟨kt, y.desc, by rw [ht.und, hd], hty.und, by rw [hd2]; trivial⟩
        · rename_i hd2; cases h; exact ⟨kt, y.desc, by rw [ht.und, hd], hty.und, by rw [hd2]; trivial⟩
        · cases h
    · cases h

theorem keyEq_sound {d : TypeDesc} {a b : AV} {x y : Value} (hx : conc σ a = some x) (hy : conc σ b = some y) (hk : keyOk d a) {r : Bool} (h : keyEq a b = some r) : Instr.sameNow d x y = some r := by
  unfold keyEq at h
  split at h
  · have e1 := conc_int hx; have e2 := conc_int hy; subst e1 e2
    split at h
    · rename_i hkk; subst hkk
      cases h
      cases d <;> simp [keyOk] at hk
      simp [Instr.sameNow, eqI_eq]
    · cases h
  · have e1 := conc_str hx; have e2 := conc_str hy; subst e1 e2
    cases h
    cases d <;> simp [keyOk] at hk
    simp only [Instr.sameNow, eqL_eq, beq_toListBytes, toList_mk]
  · cases h

theorem find_sound {d : TypeDesc} {k : AV} {x : Value} (hx : conc σ k = some x) (hk : keyOk d k) :
    ∀ {es : List (AV × AV × Nat)} {l : List MapEntry} {i : Nat} {r : Option (Nat × AV × Nat)}, concE σ es = some l → findA k es i = some r →
      (r = none ∧ Instr.findNow d x l i = some none) ∨
      (∃ j v b y kx, r = some (i + j, v, b) ∧ es[j]? = some (kx, v, b) ∧ conc σ v = some y ∧ Instr.findNow d x l i = some (some (i + j, y)) ∧ ∃ q, l[j]? = some q ∧ q.val = y ∧ q.born = b ∧ conc σ kx = some q.key ∧ Instr.sameNow d x q.key = some true)
  | [], l, i, r, hl, h => by
    simp [concE] at hl; subst hl
    simp [findA] at h; subst h
    exact .inl ⟨rfl, rfl⟩
  | (k', v, b) :: es, l, i, r, hl, h => by
    obtain ⟨kx, y, l', h1, h2, h3, rfl⟩ := concE_cons.1 hl
    simp only [findA] at h
    cases hq : keyEq k k' with
    | none => simp [hq] at h
    | some q =>
      have hs := keyEq_sound hx h1 hk hq
      cases q with
      | true =>
        simp [hq] at h; subst h
        exact .inr ⟨0, v, b, y, k', rfl, rfl, h2, by simp [Instr.findNow, hs], _, rfl, rfl, rfl, h1, hs⟩
      | false =>
        simp only [hq] at h
        rcases find_sound hx hk h3 h with ⟨e1, e2⟩ | ⟨j, v', b', y', kx', e1, e2, e3, e4, q, e5, e6⟩
        · exact .inl ⟨e1, by simp [Instr.findNow, hs, e2]⟩
        · refine .inr ⟨j + 1, v', b', y', kx', ?_, by simpa using e2, e3, ?_, q, by simpa using e5, e6⟩
          · rw [e1]; congr 2; omega
          · simp [Instr.findNow, hs, e4]; omega

theorem checkKey_ok {d : TypeDesc} {kt : TypeId} {k : AV} {x : Value} (hx : conc σ k = some x) (hd : P.underlying kt = some d) (hk : keyOk d k) (b : Bool) (n : Nat) : (Instr.checkKey b (n + 1) kt x).run P w = .ok () w := by
  cases k <;> simp only [keyOk] at hk <;> try (cases d <;> exact hk.elim)
  · have e := conc_int hx; subst e
    cases d <;> simp only [keyOk] at hk
    simp [Instr.checkKey, run_underlying hd]
  · have e := conc_str hx; subst e
    cases d <;> simp only [keyOk] at hk
    simp [Instr.checkKey, run_underlying hd]
theorem checkKey_ok' {d : TypeDesc} {kt : TypeId} {k : AV} {x : Value} (hx : conc σ k = some x) (hd : P.underlying kt = some d) (hk : keyOk d k) (b : Bool) : (Instr.checkKey b 10000 kt x).run P w = .ok () w := checkKey_ok hx hd hk b 9999
theorem findKey_of {d : TypeDesc} {kt : TypeId} {x : Value} {l : List MapEntry} {r : Option (Nat × Value)} (hd : P.underlying kt = some d) (h : Instr.findNow d x l 0 = some r) : (Instr.findKey kt x l).run P w = .ok r w := by
  simp [Instr.findKey, run_underlying hd, h]

theorem ORel.inv_map {c : Nat} {es : List (AV × AV × Nat)} {cl : Nat} {x : Obj} (h : ORel σ c (.map es cl) x) : ∃ es', x = .map es' cl ∧ concE σ es = some es'.toList := by
  cases x <;> simp only [ORel] at h
  obtain ⟨rfl, h⟩ := h
  exact ⟨_, rfl, h⟩
theorem ORel.inv_chan {c : Nat} {n : Nat} {buf : List AV} {cl : Bool} {x : Obj} (h : ORel σ c (.chan n buf cl) x) : ∃ buf' s r, x = .chan n buf' cl s r false ∧ concL σ buf = some buf'.toList := by
  cases x <;> simp only [ORel] at h
  obtain ⟨rfl, h, rfl, rfl⟩ := h
  exact ⟨_, _, _, rfl, h⟩

theorem run_getObj {r : Nat} {o : Obj} (h : w.heap[r]? = some o) (hn : ∀ c e f, o ≠ .cells c e f) : (getObj r).run P w = .ok o w := by
  simp only [getObj, Sem.run, h]

theorem lookup_sound (hE : EnvOk P E) {hp : H} (r : HRel σ hp w.heap) {t : TypeId} {m k : AV} {mx kx : Value} (hm : conc σ m = some mx) (hk : conc σ k = some kx) {ok : Bool} {v : AV} (h : lookupA E t m k ok hp = some v) :
    ∃ x, (Instr.lookup t mx kx ok).run P w = .ok x w ∧ conc σ v = some x := by
  unfold lookupA at h
  cases hkt : keyT E t k with
  | none => simp [hkt] at h
  | some e =>
    obtain ⟨kt, d, u1, u2, u3⟩ := keyT_sound hE hkt
    simp only [hkt] at h
    cases hg : E.ts.get e with
    | none => simp [hg] at h
    | some y =>
      have ht := hE.ts _ _ hg
      obtain ⟨z, hz1, hz2⟩ := ht.zero
      simp only [hg] at h
      have out : ∀ (v' : AV) (x' : Value) (b : Bool), conc σ v' = some x' → cond ok (some (AV.tuple [v', .bool b])) (some v') = some v → conc σ v = some (if ok then .tuple #[x', .bool b] else x') := by
        intro v' x' b hv' he
        cases ok with
        | true => simp at he; subst he; simp [conc, concL, hv']
        | false => simp at he; subst he; simpa using hv'
      unfold Instr.lookup
      simp only [Sem.run_bind, run_underlying u1, Result.andThen_ok]
      cases m <;> (try simp only at h) <;> try (cases h; done)
      rename_i rr
      cases rr with
      | none =>
        have := conc_mapNil hm; subst this
        refine ⟨_, ?_, out _ z false (hz2 σ) h⟩
        have f0 : Instr.findNow d kx ([] : List MapEntry) 0 = some none := rfl
        simp [checkKey_ok' hk u2 u3, findKey_of u2 f0, hz1]
      | some rr =>
        obtain ⟨b, c, s1, rfl⟩ := conc_map hm
        cases hgr : hp.t.get rr with
        | none => simp [hgr] at h
        | some ob =>
          obtain ⟨b', c', x', h1, h2, h3⟩ := r.objs rr ob hgr
          rw [s1] at h1; cases h1
          cases ob <;> simp only [hgr] at h <;> try (cases h; done)
          rename_i es cl
          obtain ⟨es', rfl, hes⟩ := h3.inv_map
          have hob := run_getObj (P := P) h2 (by intro _ _ _ e; cases e)
          cases hf : findA k es 0 with
          | none => simp [hf] at h
          | some fr =>
            rcases find_sound hk u3 hes hf with ⟨e1, e2⟩ | ⟨j, v', bn, y', kx', e1, e2, e3, e4, _⟩
            · subst e1
              simp only [hf] at h
              refine ⟨_, ?_, out _ z false (hz2 σ) h⟩
              simp [hob, checkKey_ok' hk u2 u3, findKey_of u2 e2, hz1]
            · subst e1
              simp only [hf] at h
              refine ⟨_, ?_, out _ y' true e3 h⟩
              simp [hob, checkKey_ok' hk u2 u3, findKey_of u2 e4]

/-! conversions -/
theorem shape_of {b : Nat} {cs : Array Value} {e : TypeId} {fz : Nat × Nat} (h : w.heap[b]? = some (.cells cs e fz)) : w.shape? b = some (e, cs.size) := by simp [World.shape?, h]

theorem bytes_sound : ∀ {cs : List AV} {l : List Value} {s : List UInt8}, concL σ cs = some l → bytesOf cs = some s → ∃ ns : List Nat, l = ns.map (fun n => Value.int .u8 (Int.ofNat n)) ∧ s = ns.map UInt8.ofNat
  | [], l, s, hl, h => by rw [concL_nil] at hl; subst hl; simp [bytesOf] at h; subst h; exact ⟨[], rfl, rfl⟩
  | v :: cs, l, s, hl, h => by
    obtain ⟨x, l', hx, hl', rfl⟩ := concL_cons.1 hl
    cases v with
    | int k n =>
      cases k <;> first | (simp [bytesOf] at h; done) | skip
      cases n with
      | negSucc m => simp [bytesOf] at h
      | ofNat m =>
        simp only [bytesOf] at h
        cases hb : bytesOf cs with
        | none => simp [hb] at h
        | some r =>
          simp [hb] at h; subst h
          have := conc_int hx; subst this
          obtain ⟨ns, rfl, rfl⟩ := bytes_sound hl' hb
          exact ⟨m :: ns, rfl, rfl⟩
    | _ => simp [bytesOf] at h

theorem run_bytesToString : ∀ (ns : List Nat) (s : ByteArray), (forIn (m := Sem) (ns.map (fun n => Value.int .u8 (Int.ofNat n))) s fun c __s =>
      match c with
      | .int .u8 n => pure (ForInStep.yield (__s.push (UInt8.ofNat n.toNat)))
      | _ => do
        stuck "bytesToString: byte expected"
        pure (ForInStep.yield __s)).run P w = .ok ⟨s.data ++ (ns.map UInt8.ofNat).toArray⟩ w
  | [], s => by simp
  | n :: ns, s => by
    rw [List.map_cons, List.forIn_cons]
    simp only [Sem.run_bind, Sem.run_pure, Result.andThen_ok]
    rw [run_bytesToString ns]
    simp only [Result.ok.injEq, and_true]
    congr 1
    simp

theorem conv_sound (hE : EnvOk P E) {hp : H} (r : HRel σ hp w.heap) {src dst : TypeId} {a : AV} {x : Value} (hx : conc σ a = some x) {v : AV} (h : convR E src dst a hp = some v) :
    ∃ y, (convert src dst x).run P w = .ok y w ∧ conc σ v = some y := by
  unfold convR at h
  cases hs : E.ts.get src with
  | none => simp [hs] at h
  | some s =>
    have hts := hE.ts _ _ hs
    cases hd : E.ts.get dst with
    | none => simp [hs, hd] at h
    | some d =>
      have htd := hE.ts _ _ hd
      simp only [hs, hd] at h
      split at h
      · rename_i k k' n hdd
        have e := conc_int hx; subst e
        rw [intV_eq, wrapA_eq] at h; cases h
        exact ⟨_, by unfold convert; simp only [Sem.run_bind, hts.run, htd.run, Result.andThen_ok, hdd]; cases s.desc <;> rfl, by simp [conc]⟩
      · rename_i b hdd
        have e := conc_str hx; subst e
        cases h
        exact ⟨_, by unfold convert; simp only [Sem.run_bind, hts.run, htd.run, Result.andThen_ok, hdd]; cases s.desc <;> rfl, by simp [conc]⟩
      · rename_i a n cc hdd
        split at h
        · rename_i e hsd
          cases he : E.ts.get e with
          | none => simp [he] at h
          | some y =>
            have hty := hE.ts _ _ he
            simp only [he] at h
            split at h
            · rename_i hyd
              unfold convert
              simp only [Sem.run_bind, hts.run, htd.run, Result.andThen_ok, hdd, hsd]
              cases a with
              | none =>
                obtain ⟨k, _, rfl⟩ := conc_sliceNil hx
                cases h
                refine ⟨.string ⟨⟨[]⟩⟩, ?_, by simp [conc]⟩
                simp [hty.run, hyd, Conv.bytesToString]
                rfl
              | some p =>
                obtain ⟨i, o⟩ := p
                obtain ⟨b, c', s1, rfl⟩ := conc_slice hx
                simp only at h
                cases hgr : hp.t.get i with
                | none => simp [hgr] at h
                | some ob =>
                  obtain ⟨b', c'', x', h1, h2, h3⟩ := r.objs i ob hgr
                  rw [s1] at h1; cases h1
                  cases ob <;> simp only [hgr] at h <;> try (cases h; done)
                  rename_i cs ee ext wr
                  cases hsub : sub o n cs with
                  | none => simp [hsub] at h
                  | some l =>
                    simp only [hsub] at h
                    cases hby : bytesOf l with
                    | none => simp [hby] at h
                    | some st =>
                      simp [hby] at h; subst h
                      obtain ⟨cs', fz, l', rr, rfl, hl, hcs, _, _⟩ := h3.inv_cells
                      have hlen := concL_length hl
                      have hm := concL_sub hl hsub
                      obtain ⟨_, e2⟩ := sub_eq hsub
                      obtain ⟨ns, hns, rfl⟩ := bytes_sound hm hby
                      refine ⟨.string ⟨⟨ns.map UInt8.ofNat⟩⟩, ?_, by simp [conc]⟩
                      have hload : (loadCells ⟨b, o, none⟩ n).run P w = .ok ((l'.drop o).take n).toArray w := by
                        unfold loadCells
                        rw [run_cells h2 n 0 #[] ((l'.drop o).take n)]
                        · simp
                        · rw [hcs]; simp only [Nat.add_zero]
                          rcases e2 with e2 | e2
                          · rw [List.drop_append_of_le_length (by omega), List.take_append_of_le_length (by simp; omega)]
                          · rw [e2]; simp
                        · rcases e2 with e2 | e2
                          · simp; omega
                          · simp [e2]
                      simp only [Sem.run_bind, hty.run, hyd, Result.andThen_ok, Conv.bytesToString, hload, hns]
                      have := run_bytesToString (P := P) (w := w) ns ByteArray.empty
                      rw [← Array.forIn_toList]
                      simp only [List.toList_toArray]
                      refine (congrArg (fun r : Result ByteArray => r.andThen fun a w' => Sem.run P (pure (Value.string a)) w') this).trans ?_
                      simp
            · cases h
        · cases h
      · rename_i i hdd
        split at h
        · rename_i t cs0 cs1 e wr hsd hgr
          cases hb : E.bx t e with
          | false => simp [hb] at h
          | true =>
            simp [hb] at h; subst h
            obtain ⟨⟨ii, hi1, hi2⟩, hc0, _⟩ := hE.bx t e hb
            obtain ⟨b, c, s1, rfl⟩ := conc_ptr hx
            obtain ⟨b', c'', x', h1, h2, h3⟩ := r.objs i _ hgr
            rw [s1] at h1; cases h1
            obtain ⟨cs', fz, l', rr, rfl, hl, hcs, hext, _⟩ := h3.inv_cells
            simp only [extOk] at hext
            refine ⟨_, ?_, hx⟩
            have hcv : (convert src dst (.pointer (some ⟨b, 0, none⟩))).run P w = (Conv.unsafePointer src dst (.pointer (some ⟨b, 0, none⟩))).run P w := by
              unfold convert
              simp only [Sem.run_bind, hts.run, htd.run, Result.andThen_ok, hdd, hsd]
            rw [hcv]
            show (Conv.unsafePointer src dst (.pointer (some ⟨b, 0, none⟩))).run P w = _
            unfold Conv.unsafePointer
            have hseen : (Conv.seenAt ⟨b, 0, none⟩).run P w = .ok ⟨b, 0, none⟩ w := by
              simp [Conv.seenAt, viewAt, shape_of h2]
            have hin : (cellsIn b).run P w = .ok (some cs'.size) w := by simp [cellsIn, shape_of h2]
            have hz : (sizeOf t).run P w = .ok ii.size w := by simp [sizeOf, typeInfo, hi1]
            simp [hts.run, htd.run, hdd, hsd, hseen, hin, hz, hi2, hext]
        · cases h
      · rename_i u i hdd
        split at h
        · rename_i cs e wr hsd hgr
          cases he : E.ts.get e with
          | none => simp [he] at h
          | some y =>
            have hty := hE.ts _ _ he
            simp only [he] at h
            cases hb : (E.bx u e && Nat.beq cs.length y.size) with
            | false => rw [hb] at h; cases h
            | true =>
              rw [hb] at h; simp only [cond_true] at h
              simp only [Bool.and_eq_true] at hb
              cases h
              have hsz := Nat.eq_of_beq_eq_true hb.2
              obtain ⟨⟨ii, hi1, hi2⟩, hc0, hlie⟩ := hE.bx u e hb.1
              obtain ⟨b, c, s1, rfl⟩ := conc_ptr hx
              obtain ⟨b', c'', x', h1, h2, h3⟩ := r.objs i _ hgr
              rw [s1] at h1; cases h1
              obtain ⟨cs', fz, l', rr, rfl, hl, hcs, hext, _⟩ := h3.inv_cells
              simp only [extOk] at hext
              refine ⟨_, ?_, hx⟩
              have hcv : (convert src dst (.pointer (some ⟨b, 0, none⟩))).run P w = (Conv.unsafePointer src dst (.pointer (some ⟨b, 0, none⟩))).run P w := by
                unfold convert
                simp only [Sem.run_bind, hts.run, htd.run, Result.andThen_ok, hdd, hsd]
              rw [hcv]
              show (Conv.unsafePointer src dst (.pointer (some ⟨b, 0, none⟩))).run P w = _
              unfold Conv.unsafePointer
              have hseen : (Conv.seenAt ⟨b, 0, none⟩).run P w = .ok ⟨b, 0, none⟩ w := by
                simp [Conv.seenAt, viewAt, shape_of h2]
              have hz : (sizeOf u).run P w = .ok ii.size w := by simp [sizeOf, typeInfo, hi1]
              have hco : P.cellsOf e = y.size := by
                obtain ⟨j, _, hj1, hj2, _⟩ := hty.info
                simp [Program.cellsOf, hj1, hj2]
              have hva : (variablesAt ⟨b, 0, none⟩ u 1).run P w = .ok true w := by
                have : cs'.size / P.cellsOf e = 1 := by rw [hext, hsz, hco]; exact Nat.div_self (by rw [← hco]; omega)
                simp [variablesAt, shape_of h2, this, hlie]
              simp [hts.run, htd.run, hdd, hsd, hseen, hz, hi2, hva]
        · cases h
      · cases h

end
end Go.Ev
