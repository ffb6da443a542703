/- The evaluator, made quick for the kernel: its definitions. -/
import Derived.Test.YtpkohiiljpenmaaGreatEvY
set_option linter.unusedVariables false
namespace Go.Ev

abbrev R := Option (AV × H)

/-! tries -/
noncomputable def T.getF {α : Type} (t : T α) : Nat → Option α :=
  T.rec (motive := fun _ => Nat → Option α) (fun _ => none) (fun _ v _ l r k => Nat.rec (motive := fun _ => Option α) v (fun k _ => (Bool.rec (motive := fun _ => Option α) (r (Nat.div k 2)) (l (Nat.div k 2)) (Nat.beq (Nat.mod k 2) 0))) k) t
noncomputable def T.setF {α : Type} (x : Option α) (d : Nat) : T α → Nat → (T α → R) → R :=
  Nat.rec (motive := fun _ => T α → Nat → (T α → R) → R) (fun t _ K => K t)
    (fun _ ih t k K => T.rec (motive := fun _ => R)
      (Nat.rec (motive := fun _ => R) (K (.node .nil x .nil)) (fun k _ => (Bool.rec (motive := fun _ => R) (ih .nil (Nat.div k 2) fun r => K (.node .nil none r)) (ih .nil (Nat.div k 2) fun l => K (.node l none .nil)) (Nat.beq (Nat.mod k 2) 0))) k)
      (fun l v r _ _ => Nat.rec (motive := fun _ => R) (K (.node l x r)) (fun k _ => (Bool.rec (motive := fun _ => R) (ih r (Nat.div k 2) fun r => K (.node l v r)) (ih l (Nat.div k 2) fun l => K (.node l v r)) (Nat.beq (Nat.mod k 2) 0))) k) t) d
noncomputable def H.getF (h : H) (i : Nat) (K : AObj → R) (S : R) : R := H.rec (motive := fun _ => R) (fun _ t => Option.rec (motive := fun _ => R) S K (T.getF t i)) h
noncomputable def newF (h : H) (o : AObj) (K : Nat → H → R) : R :=
  H.rec (motive := fun _ => R) (fun n t => T.setF (some o) (Nat.succ n) t n fun t => Nat.rec (motive := fun _ => R) (K 0 ⟨Nat.succ 0, t⟩) (fun m _ => K (Nat.succ m) ⟨Nat.succ (Nat.succ m), t⟩) n) h
noncomputable def putF (h : H) (i : Nat) (o : Option AObj) (K : H → R) : R :=
  H.rec (motive := fun _ => R) (fun n t => T.setF o (Nat.succ i) t i fun t => K ⟨n, t⟩) h
/-! lists, numbers -/
noncomputable def appF {α : Type} (l m : List α) (K : List α → R) : R := List.rec (motive := fun _ => (List α → R) → R) (fun K => K m) (fun a _ ih K => ih fun l => K (a :: l)) l K
noncomputable def nthF {α : Type} (l : List α) : Nat → (α → R) → R → R :=
  List.rec (motive := fun _ => Nat → (α → R) → R → R) (fun _ _ S => S) (fun a _ ih n K S => Nat.rec (motive := fun _ => R) (K a) (fun n _ => ih n K S) n) l
noncomputable def takeF {α : Type} (n : Nat) : List α → (List α → R) → R → R :=
  Nat.rec (motive := fun _ => List α → (List α → R) → R → R) (fun _ K _ => K []) (fun _ ih l K S => List.rec (motive := fun _ => R) S (fun a l _ => ih l (fun r => K (a :: r)) S) l) n
noncomputable def dropF {α : Type} (n : Nat) : List α → List α :=
  Nat.rec (motive := fun _ => List α → List α) (fun l => l) (fun _ ih l => List.rec (motive := fun _ => List α) [] (fun _ l _ => ih l) l) n
noncomputable def overF {α : Type} (vs : List α) : List α → (List α → R) → R → R :=
  List.rec (motive := fun _ => List α → (List α → R) → R → R) (fun l K _ => K l) (fun v _ ih l K S => List.rec (motive := fun _ => R) S (fun _ l _ => ih l (fun r => K (v :: r)) S) l) vs
noncomputable def writeF {α : Type} (n : Nat) (vs : List α) : List α → (List α → R) → R → R :=
  Nat.rec (motive := fun _ => List α → (List α → R) → R → R) (fun l K S => overF vs l K S) (fun _ ih l K S => List.rec (motive := fun _ => R) S (fun a l _ => ih l (fun r => K (a :: r)) S) l) n
noncomputable def lenF {α : Type} (l : List α) : Nat := List.rec (motive := fun _ => Nat) 0 (fun _ _ n => Nat.succ n) l
noncomputable def fIF (n : Int) (K : Int → R) : R := Int.rec (motive := fun _ => R) (fun m => Nat.rec (motive := fun _ => R) (K (.ofNat 0)) (fun m _ => K (.ofNat (Nat.succ m))) m) (fun m => Nat.rec (motive := fun _ => R) (K (.negSucc 0)) (fun m _ => K (.negSucc (Nat.succ m))) m) n
noncomputable def fNF (m : Nat) (K : Nat → R) : R := Nat.rec (motive := fun _ => R) (K 0) (fun m _ => K (Nat.succ m)) m

/-! what a value is -/
noncomputable def selBool (x : AV) : (Bool → R) → R → R := AV.rec (motive_1 := fun _ => (Bool → R) → R → R) (motive_2 := fun _ => Unit) (fun a0 K _ => K a0) (fun _ _ _ S => S) (fun _ _ S => S) (fun _ _ S => S) (fun _ _ _ _ S => S) (fun _ _ S => S) (fun _ _ S => S) (fun _ _ _ _ _ _ S => S) (fun _ _ S => S) (fun _ S => S) (fun _ _ _ _ S => S) (fun _ S => S) (fun _ _ _ S => S) (fun _ _ _ S => S) () (fun _ _ _ _ => ()) x
noncomputable def selInt (x : AV) : (IntKind → Int → R) → R → R := AV.rec (motive_1 := fun _ => (IntKind → Int → R) → R → R) (motive_2 := fun _ => Unit) (fun _ _ S => S) (fun a0 a1 K _ => K a0 a1) (fun _ _ S => S) (fun _ _ S => S) (fun _ _ _ _ S => S) (fun _ _ S => S) (fun _ _ S => S) (fun _ _ _ _ _ _ S => S) (fun _ _ S => S) (fun _ S => S) (fun _ _ _ _ S => S) (fun _ S => S) (fun _ _ _ S => S) (fun _ _ _ S => S) () (fun _ _ _ _ => ()) x
noncomputable def selStr (x : AV) : (List UInt8 → R) → R → R := AV.rec (motive_1 := fun _ => (List UInt8 → R) → R → R) (motive_2 := fun _ => Unit) (fun _ _ S => S) (fun _ _ _ S => S) (fun a0 K _ => K a0) (fun _ _ S => S) (fun _ _ _ _ S => S) (fun _ _ S => S) (fun _ _ S => S) (fun _ _ _ _ _ _ S => S) (fun _ _ S => S) (fun _ S => S) (fun _ _ _ _ S => S) (fun _ S => S) (fun _ _ _ S => S) (fun _ _ _ S => S) () (fun _ _ _ _ => ()) x
noncomputable def selPtr (x : AV) : (Option (Nat × Nat) → R) → R → R := AV.rec (motive_1 := fun _ => (Option (Nat × Nat) → R) → R → R) (motive_2 := fun _ => Unit) (fun _ _ S => S) (fun _ _ _ S => S) (fun _ _ S => S) (fun a0 K _ => K a0) (fun _ _ _ _ S => S) (fun _ _ S => S) (fun _ _ S => S) (fun _ _ _ _ _ _ S => S) (fun _ _ S => S) (fun _ S => S) (fun _ _ _ _ S => S) (fun _ S => S) (fun _ _ _ S => S) (fun _ _ _ S => S) () (fun _ _ _ _ => ()) x
noncomputable def selSlice (x : AV) : (Option (Nat × Nat) → Nat → Option Nat → R) → R → R := AV.rec (motive_1 := fun _ => (Option (Nat × Nat) → Nat → Option Nat → R) → R → R) (motive_2 := fun _ => Unit) (fun _ _ S => S) (fun _ _ _ S => S) (fun _ _ S => S) (fun _ _ S => S) (fun a0 a1 a2 K _ => K a0 a1 a2) (fun _ _ S => S) (fun _ _ S => S) (fun _ _ _ _ _ _ S => S) (fun _ _ S => S) (fun _ S => S) (fun _ _ _ _ S => S) (fun _ S => S) (fun _ _ _ S => S) (fun _ _ _ S => S) () (fun _ _ _ _ => ()) x
noncomputable def selFunc (x : AV) : (FuncId → List AV → List AV → R) → R → R := AV.rec (motive_1 := fun _ => (FuncId → List AV → List AV → R) → R → R) (motive_2 := fun _ => Unit) (fun _ _ S => S) (fun _ _ _ S => S) (fun _ _ S => S) (fun _ _ S => S) (fun _ _ _ _ S => S) (fun _ _ S => S) (fun _ _ S => S) (fun a0 a1 a2 a3 a4 K _ => K a0 a1 a2) (fun _ _ S => S) (fun _ S => S) (fun _ _ _ _ S => S) (fun _ S => S) (fun _ _ _ S => S) (fun _ _ _ S => S) () (fun _ _ _ _ => ()) x
noncomputable def selAgg (x : AV) : (List AV → R) → R → R := AV.rec (motive_1 := fun _ => (List AV → R) → R → R) (motive_2 := fun _ => Unit) (fun _ _ S => S) (fun _ _ _ S => S) (fun _ _ S => S) (fun _ _ S => S) (fun _ _ _ _ S => S) (fun _ _ S => S) (fun _ _ S => S) (fun _ _ _ _ _ _ S => S) (fun _ _ S => S) (fun _ S => S) (fun _ _ _ _ S => S) (fun _ S => S) (fun a0 a1 K _ => K a0) (fun _ _ _ S => S) () (fun _ _ _ _ => ()) x
noncomputable def selTuple (x : AV) : (List AV → R) → R → R := AV.rec (motive_1 := fun _ => (List AV → R) → R → R) (motive_2 := fun _ => Unit) (fun _ _ S => S) (fun _ _ _ S => S) (fun _ _ S => S) (fun _ _ S => S) (fun _ _ _ _ S => S) (fun _ _ S => S) (fun _ _ S => S) (fun _ _ _ _ _ _ S => S) (fun _ _ S => S) (fun _ S => S) (fun _ _ _ _ S => S) (fun _ S => S) (fun _ _ _ S => S) (fun a0 a1 K _ => K a0) () (fun _ _ _ _ => ()) x
noncomputable def selAddr (x : AV) (K : Nat → Nat → R) (S : R) : R := selPtr x (fun a => Option.rec (motive := fun _ => R) S (fun p => Prod.rec (motive := fun _ => R) K p) a) S
noncomputable def selBase (a : Option (Nat × Nat)) (K : Nat → Nat → R) (S : R) : R := Option.rec (motive := fun _ => R) S (fun p => Prod.rec (motive := fun _ => R) K p) a
noncomputable def selNat (x : AV) (K : Nat → R) (S : R) : R := selInt x (fun _ n => Int.rec (motive := fun _ => R) K (fun _ => S) n) S
noncomputable def selCells (o : AObj) : (List AV → TypeId → Option Nat → Bool → R) → R → R := AObj.rec (motive := fun _ => (List AV → TypeId → Option Nat → Bool → R) → R → R)
  (fun cs e ext wr K _ => K cs e ext wr) (fun _ _ _ S => S) (fun _ _ _ _ S => S) (fun _ _ _ S => S) (fun _ _ _ _ _ S => S) (fun _ _ _ _ _ _ _ _ _ _ S => S) (fun _ S => S) o
/-! operands -/
noncomputable def valF (tm : T AV) (x : Operand) (K : AV → R) : R :=
  Operand.rec (motive := fun _ => R) (fun t => Option.rec (motive := fun _ => R) (K undefA) K (T.getF tm t)) (fun v => Option.rec (motive := fun _ => R) none K (ofV v)) (fun _ => none) (fun f => K (.func f [] [])) x
noncomputable def valsF (tm : T AV) (l : List Operand) (K : List AV → R) : R :=
  List.rec (motive := fun _ => (List AV → R) → R) (fun K => K []) (fun x _ ih K => valF tm x fun v => ih fun vs => K (v :: vs)) l K
/-! operations -/
abbrev EX := Env → RCT → T AV → H → (AV → H → R) → R → R
noncomputable def moveX (x : Operand) : EX := fun _ _ tm h K _ => valF tm x fun v => K v h
noncomputable def pickX (c a b : Operand) : EX := fun _ _ tm h K S => valF tm c fun c => selBool c (fun c => valF tm a fun a => valF tm b fun b => (Bool.rec (motive := fun _ => R) (K b h) (K a h) (c))) S
noncomputable def tyF (E : Env) (t : TypeId) (K : TI → R) (S : R) : R := Option.rec (motive := fun _ => R) S K (T.get E.ts t)
noncomputable def partF (y : TI) (cs : List AV) (off : Nat) (K : AV → R) (S : R) : R :=
  TI.rec (motive := fun _ => R) (fun _ size _ agg _ => (Bool.rec (motive := fun _ => R) (nthF cs off K S) (takeF size (dropF off cs) (fun l => K (.agg l)) S) (agg))) y
noncomputable def loadX (t : TypeId) (a : Operand) : EX := fun E _ tm h K S => valF tm a fun a => selAddr a (fun i o => tyF E t (fun ti => h.getF i (fun ob => selCells ob (fun cs _ _ _ => partF ti cs o (fun v => K v h) S) S) S) S) S
noncomputable def storeX (t : TypeId) (a v : Operand) : EX := fun E _ tm h K S => valF tm a fun a => valF tm v fun v => selAddr a (fun i o => tyF E t (fun ti => h.getF i (fun ob => selCells ob (fun cs e ext wr =>
  (Bool.rec (motive := fun _ => R) (S) ((Bool.rec (motive := fun _ => R) (S) ((Bool.rec (motive := fun _ => R) (S) (writeF o v.cells cs (fun cs => putF h i (some (.cells cs e ext true)) fun h => K undefA h) S) (allOne v.cells))) (Nat.beq (lenF v.cells) ti.size))) (wr))) S) S) S) S
noncomputable def allocX (t : TypeId) : EX := fun E _ _ h K S => tyF E t (fun ti => newF h (.cells ti.zero.cells t none true) fun j h => K (.ptr (some (j, 0))) h) S
noncomputable def boxX (t : TypeId) (v : Operand) : EX := fun _ _ tm h K _ => valF tm v fun v => newF h (.cells v.cells t none true) fun j h => K (.ptr (some (j, 0))) h
noncomputable def structF (E : Env) (s : TypeId) (f : Nat) : Option (Nat × TI) :=
  match E.ts.get s with
  | none => none
  | some t => match t.desc with
    | .struct fs => (match nth fs.toList f with
      | none => none
      | some f => match E.ts.get f.type with
        | some y => some (f.offset, y)
        | none => none)
    | _ => none
noncomputable def placeF (E : Env) (s : TypeId) (f : Nat) (K : Nat → TI → R) (S : R) : R := Option.rec (motive := fun _ => R) S (fun p => Prod.rec (motive := fun _ => R) K p) (structF E s f)
noncomputable def fieldAddrX (s : TypeId) (x : Operand) (f : Nat) : EX := fun E _ tm h K S => valF tm x fun x => selAddr x (fun i o => placeF E s f (fun off y => (Bool.rec (motive := fun _ => R) (fNF (Nat.add o off) fun o => K (.ptr (some (i, o))) h) (S) (Nat.beq y.size 0))) S) S
noncomputable def fieldX (s : TypeId) (x : Operand) (f : Nat) : EX := fun E _ tm h K S => valF tm x fun x => selAgg x (fun cs => placeF E s f (fun off y => partF y cs off (fun v => K v h) S) S) S
/-- what an indexed thing is -/
inductive Sq where
  | no
  | arr (n : Nat) (y : TI)
  | slc (y : TI)
  | str
def seqA (E : Env) (t : TypeId) : Sq :=
  match E.ts.get t with
  | none => .no
  | some t => match t.desc with
    | .array n e => (match E.ts.get e with
      | some y => .arr n y
      | none => .no)
    | .slice e => (match E.ts.get e with
      | some y => .slc y
      | none => .no)
    | .string => .str
    | _ => .no
noncomputable def addrF (b o i size n : Nat) (h : H) (K : AV → H → R) (S : R) : R := (Bool.rec (motive := fun _ => R) (S) (fNF (Nat.add o (Nat.mul i size)) fun o => K (.ptr (some (b, o))) h) (Nat.ble (Nat.succ i) n))
noncomputable def indexAddrX (t : TypeId) (x ix : Operand) : EX := fun E _ tm h K S => valF tm x fun x => valF tm ix fun ix => selNat ix (fun i => Sq.rec (motive := fun _ => R) S
  (fun n y => selAddr x (fun b o => addrF b o i y.size n h K S) S) (fun y => selSlice x (fun a n _ => selBase a (fun b o => addrF b o i y.size n h K S) S) S) S (seqA E t)) S
noncomputable def indexX (t : TypeId) (x ix : Operand) : EX := fun E _ tm h K S => valF tm x fun x => valF tm ix fun ix => selNat ix (fun i => Sq.rec (motive := fun _ => R) S
  (fun n y => selAgg x (fun cs => (Bool.rec (motive := fun _ => R) (S) (partF y cs (Nat.mul i y.size) (fun v => K v h) S) (Nat.ble (Nat.succ i) n))) S) (fun _ => S) (selStr x (fun s => nthF s i (fun b => fNF b.toNat fun n => K (.int .u8 (.ofNat n)) h) S) S) (seqA E t)) S
noncomputable def extractX (x : Operand) (ix : Nat) : EX := fun _ _ tm h K S => valF tm x fun x => selTuple x (fun l => nthF l ix (fun v => K v h) S) S
/-! numbers -/
abbrev BX := IntKind → IntKind → Int → Int → (AV → R) → R → R
noncomputable def kEq (a b : IntKind) : Bool := Nat.beq a.ctorIdx b.ctorIdx
noncomputable def wrapF (k : IntKind) (n : Int) (K : AV → R) : R := (Bool.rec (motive := fun _ => R) (fIF (k.wrap n) fun n => K (.int k n)) (fIF n fun n => K (.int k n)) (inR k n))
noncomputable def numB (f : IntKind → Int → Int → (AV → R) → R → R) : BX := fun k k' a b K S => (Bool.rec (motive := fun _ => R) (S) (f k a b K S) (kEq k k'))
noncomputable def natsB (f : Nat → Nat → Nat) : BX := numB fun k a b K S => Int.rec (motive := fun _ => R) (fun m => Int.rec (motive := fun _ => R) (fun n => (Bool.rec (motive := fun _ => R) (S) ((Bool.rec (motive := fun _ => R) (S) (fNF (f m n) fun n => K (.int k (.ofNat n))) (inR k (.ofNat n)))) (inR k (.ofNat m)))) (fun _ => S) b) (fun _ => S) a
noncomputable def minF (a b : Nat) : Nat := Bool.rec (motive := fun _ => Nat) b a (Nat.ble a b)
noncomputable def noB : BX := fun _ _ _ _ _ S => S
noncomputable def shlB : BX := fun k _ a b K S => Int.rec (motive := fun _ => R) (fun n => wrapF k (Int.mul a (.ofNat (Nat.pow 2 (minF n k.bits)))) K) (fun _ => S) b
noncomputable def shrB : BX := fun k _ a b K S => Int.rec (motive := fun _ => R) (fun n => Int.rec (motive := fun _ => R) (fun m => fNF (Nat.div m (Nat.pow 2 (minF n k.bits))) fun n => K (.int k (.ofNat n))) (fun _ => S) a) (fun _ => S) b
noncomputable def binB (op : BinOp) : BX := match op with
  | .add => numB fun k a b K _ => wrapF k (Int.add a b) K
  | .sub => numB fun k a b K _ => wrapF k (Int.sub a b) K
  | .mul => numB fun k a b K _ => wrapF k (Int.mul a b) K
  | .eql => numB fun _ a b K _ => K (.bool (eqI a b))
  | .neq => numB fun _ a b K _ => K (.bool (!eqI a b))
  | .lss => numB fun _ a b K _ => K (.bool (ltI a b))
  | .leq => numB fun _ a b K _ => K (.bool (!ltI b a))
  | .gtr => numB fun _ a b K _ => K (.bool (ltI b a))
  | .geq => numB fun _ a b K _ => K (.bool (!ltI a b))
  | .and => natsB Nat.land
  | .or => natsB Nat.lor
  | .xor => natsB Nat.xor
  | .shl => shlB
  | .shr => shrB
  | _ => noB
noncomputable def fBF (b : Bool) (K : AV → R) : R := Bool.rec (motive := fun _ => R) (K (.bool false)) (K (.bool true)) b
noncomputable def binX (op : BinOp) (x y : Operand) : EX := fun _ _ tm h K S => valF tm x fun x => valF tm y fun y => selInt x (fun k a => selInt y (fun k' b => binB op k k' a b (fun v => K v h) S) S) S
noncomputable def notX (x : Operand) : EX := fun _ _ tm h K S => valF tm x fun x => selBool x (fun b => K (.bool (!b)) h) S
/-! calls -/
noncomputable def initF (vs : List AV) : Nat → T AV → (T AV → R) → R :=
  List.rec (motive := fun _ => Nat → T AV → (T AV → R) → R) (fun _ t K => K t) (fun v _ ih i t K => T.setF (some v) (Nat.succ i) t i fun t => ih (Nat.succ i) t K) vs
/-- a function's body, and how many slots it has -/
def bodyOf (E : Env) (f : FuncId) : Option (Code × Nat) :=
  match E.orc.get f with
  | some _ => none
  | none => match E.fs.get f with
    | none => none
    | some fn => match fn.body with
      | none => none
      | some c => some (c, fn.ntmps)
noncomputable def callF2 (E : Env) (rc : RCT) (f : FuncId) (args : List AV) (h : H) (K : AV → H → R) (S : R) : R :=
  Option.rec (motive := fun _ => R) S (fun p => Prod.rec (motive := fun _ => R) (fun c nt => (Bool.rec (motive := fun _ => R) (S) (initF args 0 .nil fun tm => Option.rec (motive := fun _ => R) none (fun p => Prod.rec (motive := fun _ => R) K p) (rc ⟨f, nt, tm, [.code c], [], none, false, false⟩ h)) (Nat.ble (lenF args) nt))) p) (bodyOf E f)
noncomputable def callX (f : Operand) (l : List Operand) : EX := fun E rc tm h K S => valF tm f fun f => selFunc f (fun f first cap => valsF tm l fun args => appF args cap fun args => appF first args fun args => callF2 E rc f args h K S) S
noncomputable def slowX : EX := fun _ _ _ _ _ S => S
noncomputable def callSel (c : Call) : EX := Call.rec (motive := fun _ => EX) (fun callee args _ => Callee.rec (motive := fun _ => EX) (fun f => callX f args.toList) (fun _ _ => slowX) (fun _ => slowX) callee) c
noncomputable def unSel (op : UnOp) (x : Operand) : EX := match op with
  | .not => notX x
  | _ => slowX

noncomputable def exSel (o : Op) : EX := Op.rec (motive := fun _ => EX) (fun x0 => moveX x0) (fun x0 => moveX x0) (fun x0 x1 x2 => pickX x0 x1 x2) (fun x0 => allocX x0) (fun x0 x1 => boxX x0 x1) (fun _ _ => slowX) (fun _ _ _ => slowX) (fun _ _ _ _ => slowX) (fun x0 x1 => loadX x0 x1) (fun x0 x1 x2 => storeX x0 x1 x2) (fun _ => slowX) (fun _ => slowX) (fun _ => slowX) (fun x0 x1 x2 x3 x4 => binX x0 x2 x3) (fun x0 x1 x2 => unSel x0 x2) (fun _ _ _ => slowX) (fun _ _ => slowX) (fun _ _ => slowX) (fun _ _ _ => slowX) (fun _ _ => slowX) (fun _ _ => slowX) (fun _ _ _ => slowX) (fun _ _ _ _ _ => slowX) (fun x0 x1 x2 => fieldAddrX x0 x1 x2) (fun x0 x1 x2 => fieldX x0 x1 x2) (fun x0 x1 x2 => indexAddrX x0 x1 x2) (fun x0 x1 x2 => indexX x0 x1 x2) (fun _ _ _ _ => slowX) (fun _ _ _ _ => slowX) (fun _ _ _ => slowX) (fun _ _ _ _ => slowX) (fun _ _ => slowX) (fun _ _ => slowX) (fun _ => slowX) (fun _ _ _ _ => slowX) (fun x0 x1 => extractX x0 x1) (fun x0 => callSel x0) (fun _ => slowX) (fun _ => slowX) (fun _ => slowX) (fun _ _ => slowX) (fun _ _ _ => slowX) (fun _ _ => slowX) o

/-! regions -/
noncomputable def putTF (nt : Nat) (dst : Option Tmp) (v : AV) (tm : T AV) (K : T AV → R) : R :=
  Option.rec (motive := fun _ => R) (K tm) (fun t => (Bool.rec (motive := fun _ => R) (none) (T.setF (some v) (Nat.succ t) tm t K) (Nat.ble (Nat.succ t) nt))) dst
noncomputable def withTm (fr : AF) (tm : T AV) : AF := AF.rec (motive := fun _ => AF) (fun fn nt _ td df ro d ret => ⟨fn, nt, tm, td, df, ro, d, ret⟩) fr
noncomputable def slowOp (E : Env) (rc : RCT) (ops : Array Oper) (k : List AItem) (o : Oper) (rest : List Oper) (ih : AF → T AV → H → R) (fr : AF) (tm : T AV) (h : H) : R :=
  opsA2 E rc (fun fr h => ih fr fr.tm h) (withTm fr tm) h ops o rest k
noncomputable def operF (E : Env) (rc : RCT) (ops : Array Oper) (k : List AItem) (o : Oper) (rest : List Oper) (ih : AF → T AV → H → R) (fr : AF) (tm : T AV) (h : H) : R :=
  Oper.rec (motive := fun _ => R) (fun dst op ty pos after guard => Option.rec (motive := fun _ => R)
    (exSel op E rc tm h (fun v h => putTF fr.nt dst v tm fun tm => ih fr tm h) (slowOp E rc ops k ⟨dst, op, ty, pos, after, guard⟩ rest ih fr tm h))
    (fun g => (Bool.rec (motive := fun _ => R) (putTF fr.nt dst undefA tm fun tm => ih fr tm h) (exSel op E rc tm h (fun v h => putTF fr.nt dst v tm fun tm => ih fr tm h) (slowOp E rc ops k ⟨dst, op, ty, pos, after, guard⟩ rest ih fr tm h)) (wantedA ops tm ⟨dst, op, ty, pos, after, some g⟩))) guard) o
noncomputable def goF (rc : RCT) (k : List AItem) (fr : AF) (tm : T AV) (h : H) : R := AF.rec (motive := fun _ => R) (fun fn nt _ _ df ro d ret => rc ⟨fn, nt, tm, k, df, ro, d, ret⟩ h) fr
noncomputable def loopF (E : Env) (rc : RCT) (ops : Array Oper) (k : List AItem) (l : List Oper) : AF → T AV → H → R :=
  List.rec (motive := fun _ => AF → T AV → H → R) (goF rc k) (fun o rest ih => operF E rc ops k o rest ih) l
/-! code -/
abbrev CX := Env → RCT → List AItem → AF → H → R
noncomputable def withTodo (fr : AF) (td : List AItem) : AF := AF.rec (motive := fun _ => AF) (fun fn nt tm _ df ro d ret => ⟨fn, nt, tm, td, df, ro, d, ret⟩) fr
noncomputable def slowC (c : Code) : CX := fun E rc k fr h => codeA E rc (withTodo fr (.code c :: k)) h c k
noncomputable def skipC : CX := fun _ rc k fr h => goF rc k fr fr.tm h
noncomputable def regionC (id : Nat) (ops : Array Oper) (draw : Bool) : CX := Bool.rec (motive := fun _ => CX) (fun E rc k fr h => loopF E rc ops k ops.toList fr fr.tm h) (slowC (.region id ops true)) draw
noncomputable def condC (c : Operand) (a b : CX) : CX := fun E rc k fr h => valF fr.tm c fun v => selBool v (fun t => (Bool.rec (motive := fun _ => R) (b E rc k fr h) (a E rc k fr h) (t))) none
noncomputable def codeF (c : Code) : CX := Code.rec (motive := fun _ => CX) skipC regionC (fun _ b iha _ E rc k fr h => iha E rc (.code b :: k) fr h) (fun c _ _ iha ihb => condC c iha ihb)
  (fun id _ ih E rc k fr h => ih E rc (.inBlock id :: k) fr h) (fun c ih E rc k fr h => ih E rc (.inLoop c :: k) fr h) (fun f p a b _ _ => slowC (.rangeFunc f p a b)) (fun id => slowC (.exit id))
  (fun c ih E rc k fr h => ih E rc (.inScope c :: k) fr h) (fun _ => skipC) (fun l => slowC (.goto l)) (slowC .ret) (fun _ _ _ _ _ _ => none) c
noncomputable def bodyC : CX := fun E rc _ fr h => bodyA E rc fr h
noncomputable def itemF (it : AItem) : CX := AItem.rec (motive := fun _ => CX) (fun c => codeF c) (fun _ => skipC) (fun c E rc k fr h => codeF c E rc (.inLoop c :: k) fr h) (fun _ => skipC) (fun _ _ => bodyC) (fun _ => bodyC) bodyC it
noncomputable def bodyF (E : Env) (rc : RCT) (fr : AF) (h : H) : R :=
  Bool.rec (motive := fun _ => R) (List.rec (motive := fun _ => R) (bodyA E rc fr h) (fun it k _ => itemF it E rc k fr h) fr.todo) (bodyA E rc fr h) fr.ret
noncomputable def runF (E : Env) (n : Nat) : RCT := Nat.rec (motive := fun _ => RCT) (fun _ _ => none) (fun _ ih fr h => bodyF E ih fr h) n
noncomputable def callFF (E : Env) (n : Nat) (f : FuncId) (args : List AV) (h : H) : R := callF2 E (runF E n) f args h (fun v h => some (v, h)) none
end Go.Ev
