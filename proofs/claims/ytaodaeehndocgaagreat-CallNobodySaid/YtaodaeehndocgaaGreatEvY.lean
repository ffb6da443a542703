/- The evaluator's tables, out of a program. -/
import Derived.Test.YtaodaeehndocgaaGreatEvX
import Derived.Laws.Externs
import Derived.KernelRfl
set_option linter.unusedSimpArgs false
set_option linter.unusedVariables false
namespace Go.Ev
open Go.Conc

/-- a trie of all values of a function below n -/
def ofF {α : Type} (f : Nat → Option α) : Nat → T α
  | 0 => .nil
  | n + 1 => T.set (f n) (ofF f n) n
theorem get_ofF {α : Type} (f : Nat → Option α) : ∀ (n k : Nat), (ofF f n).get k = if k < n then f k else none
  | 0, k => by simp [ofF, get_nil]
  | n + 1, k => by
    simp only [ofF, get_set, get_ofF f n]
    by_cases e : k = n
    · subst e; simp
    · by_cases h : k < n
      · simp [e, h, Nat.lt_succ_of_lt h]
      · have : ¬ k < n + 1 := by omega
        simp [e, h, this]
theorem ofF_some {α : Type} {f : Nat → Option α} {n k : Nat} {x : α} (h : (ofF f n).get k = some x) : f k = some x := by
  rw [get_ofF] at h
  split at h
  · exact h
  · cases h

/-- a trie of a list -/
def ofL {α : Type} : List α → Nat → T α → T α
  | [], _, t => t
  | a :: l, i, t => ofL l (i + 1) (T.set (some a) t i)
theorem get_ofL {α : Type} : ∀ (l : List α) (i : Nat) (t : T α) (k : Nat), (ofL l i t).get k = if i ≤ k ∧ k < i + l.length then l[k - i]? else t.get k
  | [], i, t, k => by rw [if_neg (by simp only [List.length_nil]; omega)]; rfl
  | a :: l, i, t, k => by
    simp only [ofL, get_ofL l, get_set, List.length_cons]
    by_cases e : k = i
    · subst e; rw [if_neg (by omega), if_pos rfl, if_pos (by omega)]; simp
    · by_cases e2 : i + 1 ≤ k ∧ k < i + 1 + l.length
      · rw [if_pos e2, if_pos (by omega), show k - i = (k - (i + 1)) + 1 by omega]; simp
      · rw [if_neg e2, if_neg e, if_neg (by omega)]
theorem ofL_some {α : Type} {l : List α} {k : Nat} {x : α} (h : (ofL l 0 .nil).get k = some x) : l[k]? = some x := by
  rw [get_ofL] at h
  split at h
  · simpa using h
  · simp [get_nil] at h

def fldsOk (P : Program) : TypeDesc → Bool
  | .struct fs => fs.toList.all fun f => (P.info? f.type).isSome
  | _ => true
def mkTI (P : Program) (t : TypeId) : Option TI :=
  match P.info? t with
  | none => none
  | some i => match P.underlying t with
    | none => none
    | some d => match i.zero with
      | none => none
      | some z => match ofV z with
        | none => none
        | some a => fN i.size fun size => fN i.bytes fun bytes =>
          cond (Nat.beq a.cells.length size && fldsOk P d) (some { desc := d, size := size, bytes := bytes, agg := aggD d, zero := a }) none

def kindOp (P : Program) : Op → Nat
  | .move _ => 0
  | .assign _ => 0
  | .pick _ _ _ => 0
  | .build _ _ => 0
  | .load _ _ => 0
  | .nilCheck _ => 0
  | .binOp _ _ _ _ _ => 0
  | .unOp _ _ _ => 0
  | .sliceToArrayPointer _ _ => 0
  | .makeInterface _ _ => 0
  | .makeFunc _ _ _ => 0
  | .slice _ _ _ _ _ => 0
  | .fieldAddr _ _ _ => 0
  | .field _ _ _ => 0
  | .indexAddr _ _ _ => 0
  | .index _ _ _ => 0
  | .lookup _ _ _ _ => 0
  | .entry _ => 0
  | .typeAssert _ _ _ _ => 0
  | .extract _ _ => 0
  | .convert _ d _ => (match P.underlying d with
    | some (.slice _) => 1
    | _ => 0)
  | .alloc _ => 1
  | .box _ _ => 1
  | .buildSlice _ _ _ => 1
  | .makeMap _ none => 1
  | .makeChan _ _ => 1
  | .makeSlice _ _ _ => 1
  | .call c => (match c.callee with
    | .builtin b => (match b with
      | .len => 0
      | .cap => 0
      | .max => 0
      | .min => 0
      | .unsafeSliceData => 0
      | _ => 2)
    | _ => 2)
  | _ => 2
def befG (M : List Nat) (i j : Nat) : Bool := bef M i j
def mkPlan (P : Program) (ops : Array Oper) : Plan :=
  let M := masks ops.toList []
  let n := ops.size
  let kd := ops.toList.map fun o => kindOp P o.op
  let effs := (List.range n).filter fun i => Nat.beq (kd.getD i 0) 2
  let alls := (List.range n).filter fun i => Nat.beq (kd.getD i 0) 1
  let ps := (List.range n).map fun j =>
    match kd.getD j 0 with
    | 0 =>
      let lo := effs.countP fun i => bef M i j
      let hi := effs.countP fun i => !bef M j i
      PE.light ((List.range (hi + 1 - lo)).map (· + lo)) (alls.filter fun x => bef M x j && effs.all fun e => !bef M x e || bef M j e)
    | 1 => PE.alloc
    | _ => PE.eff (alls.filter fun x => bef M x j && effs.all fun e => Nat.ble j e || !bef M x e)
  ⟨ps, alls.filter fun x => effs.all fun e => !bef M x e⟩

def beOf (P : Program) (t : TypeId) : Bool := cond (P.eqGuardType P.depth t) false (!P.stoodInHeld t)
def bxOf (P : Program) (t e : TypeId) : Bool := (match P.info? t with
  | some i => !Nat.beq i.size 0
  | none => false) && (!Nat.beq (P.cellsOf e) 0 && liesAt P P.depth e 1 0 t 1)
def bsOf (P : Program) (t e : TypeId) : Bool := Nat.beq (P.cellsOf e) 1 && (match P.underlying t with
  | some (.pointer u) => sameLayout P P.depth e u
  | _ => false)
def msOf (P : Program) (t : TypeId) (name : String) : Option FuncId :=
  match P.info? t with
  | none => none
  | some i => match i.methods.find? (·.name == name) with
    | none => none
    | some m => cond m.path.isEmpty (match m.func with
      | some (f, b) => cond b none (match P.underlying t with
        | none => none
        | some (.pointer _) => none
        | some _ => some f)
      | none => none) none
def fsOf (P : Program) : T Func := ofL P.funcs.toList 0 .nil
def tsOf (P : Program) : T TI := ofF (mkTI P) P.types.size
def envOf (P : Program) : Env :=
  { fs := fsOf P, ts := tsOf P, ms := msOf P, bx := bxOf P, be := beOf P, bs := bsOf P, plan := fun ops => some (mkPlan P ops) }

/-- no function of a name that the machine itself answers -/
def namesOk (P : Program) : Bool := P.funcs.toList.all fun fn => !(fn.name == "runtime.NumGoroutine") && (fn.body.isSome || (Extern.allNextRows.lookup fn.origin).isNone)

theorem mkTI_ok {P : Program} {t : TypeId} {x : TI} (h : mkTI P t = some x) : TOk P t x := by
  unfold mkTI at h
  split at h
  · cases h
  · rename_i i hi
    split at h
    · cases h
    · rename_i d hd
      split at h
      · cases h
      · rename_i z hz
        split at h
        · cases h
        · rename_i a ha
          simp only [fN_eq] at h
          cases hc : Nat.beq a.cells.length i.size && fldsOk P d with
          | false => rw [hc] at h; cases h
          | true =>
            rw [hc] at h; simp only [cond_true, Option.some.injEq] at h
            subst h
            simp only [Bool.and_eq_true] at hc
            refine ⟨hd, rfl, Nat.eq_of_beq_eq_true hc.1, ?_, i, z, hi, rfl, rfl, hz, ha⟩
            have := hc.2
            simp only
            cases d <;> first | rfl | exact this

theorem lookup_noEscape : Extern.allNextRows.lookup "internal/abi.NoEscape" = none := by kernel_rfl
theorem lookup_clone : Extern.allNextRows.lookup "maps.clone" = none := by kernel_rfl
theorem find_noEscape {fn : Func} (h : fn.name = "internal/abi.NoEscape") : Extern.find fn = some Extern.AbiNoEscape.same := by
  have h1 : Extern.allGenericRows.lookup "internal/abi.NoEscape" = none := by kernel_rfl
  have h2 : Extern.allTypedRows.lookup "internal/abi.NoEscape" = none := by kernel_rfl
  have h3 : Extern.allRows.lookup "internal/abi.NoEscape" = some Extern.AbiNoEscape.same := by kernel_rfl
  simp [Extern.find, h, h1, h2, h3]
theorem find_clone {fn : Func} (h : fn.name = "maps.clone") : Extern.find fn = some Extern.MapsClone.clone := by
  have h1 : Extern.allGenericRows.lookup "maps.clone" = none := by kernel_rfl
  have h2 : Extern.allTypedRows.lookup "maps.clone" = none := by kernel_rfl
  have h3 : Extern.allRows.lookup "maps.clone" = some Extern.MapsClone.clone := by kernel_rfl
  simp [Extern.find, h, h1, h2, h3]

theorem run_clone {P : Program} {w : World} {r c : Nat} {es : Array MapEntry} {t : TypeId} (hr : w.heap[r]? = some (.map es c)) :
    (Extern.MapsClone.clone #[.iface t (.map (some r))]).run P w = .ok (.iface t (.map (some w.heap.size))) { w with heap := w.heap.push (.map es c) } := by
  change Sem.run P (do
      let .map entries clock ← getObj r | stuck "maps.clone: a map expected"
      pure (Value.iface t (.map (some (← newObj (.map entries clock)))))) w = _
  simp [getObj, newObj, Sem.run, hr]

theorem ms_ok {P : Program} {t : TypeId} {name : String} {f : FuncId} (h : msOf P t name = some f) (v : Value) (args : Array Value) (w : World) :
    (callMethod (.iface t v) name args).run P w = (callFunc f (#[v] ++ args)).run P w := by
  unfold msOf at h
  split at h
  · cases h
  · rename_i i hi
    split at h
    · cases h
    · rename_i m hm
      cases hp : m.path.isEmpty with
      | false => rw [hp] at h; cases h
      | true =>
        rw [hp] at h; simp only [cond_true] at h
        split at h
        · rename_i g b hf
          cases b with
          | true => cases h
          | false =>
            simp only [cond_false] at h
            split at h
            · cases h
            · cases h
            · rename_i d hn hd
              cases h
              have hpl : m.path.toList = [] := by simpa using hp
              have hdep : P.types.size + Made.depth = (P.types.size + 99) + 1 := rfl
              have hund : ∀ w, (underlying t).run P w = .ok d w := fun w => by simp [underlying, hd]
              have hinf : ∀ w, (typeInfo t).run P w = .ok i w := fun w => by simp [typeInfo, hi]
              have hrec : ∀ (o : Option String) (w : World), (receiverAt t (.val v) false o).run P w = .ok v w := fun o w => by
                simp only [receiverAt, Sem.run_bind, hund, Result.andThen_ok]
                cases d <;> first | rfl | exact absurd rfl (hn _)
              have hmet : ∀ (k : Nat) (w : World), (method (k + 1) t v name).run P w = .ok (f, v) w := fun k w => by
                unfold method
                simp only [Sem.run_bind, hinf, Result.andThen_ok, hm, hpl, follow, Sem.run_pure, hf, hrec]
              have hprog : ∀ w, (program : Sem Program).run P w = .ok P w := fun w => rfl
              simp only [callMethod, Sem.run_bind, hprog, Result.andThen_ok, hdep, hmet]
        · cases h

theorem env_ok {P : Program} (hm : P.follows .mixedOrders = true) (hn : namesOk P = true) : EnvOk P (envOf P) := by
  have hnm : ∀ (f : FuncId) (fn : Func), P.funcs[f]? = some fn → (fn.name == "runtime.NumGoroutine") = false ∧ (fn.body = none → Extern.allNextRows.lookup fn.origin = none) := fun f fn hf => by
    have := List.all_eq_true.1 hn fn (by simpa using Array.mem_of_getElem? hf)
    simp only [Bool.and_eq_true, Bool.not_eq_true', Bool.or_eq_true] at this
    refine ⟨this.1, fun hb => ?_⟩
    rw [hb] at this
    simpa using this.2
  have hfs : ∀ f fn, (envOf P).fs.get f = some fn → P.funcs[f]? = some fn := fun f fn h => by simpa using ofL_some h
  refine ⟨hm, hfs, fun f fn c h hb args w => ?_, fun f fn h hb hname x w => ?_, fun f fn h hb hname t r w es c hr => ?_, fun t x h => mkTI_ok (ofF_some h), fun t name f h v args w => ms_ok h v args w, fun t h => ?_, fun t e h => ?_, fun t e h => ?_⟩
  · have h1 := hfs f fn h
    have h2 : fn.name ≠ "runtime.NumGoroutine" := by simpa using (hnm f fn h1).1
    simp [callFunc, h1, h2, hb]
  · have h1 := hfs f fn h
    have h2 : Extern.findNext fn = none := by simp [Extern.findNext, hname, lookup_noEscape, (hnm f fn h1).2 hb]
    rw [run_callFunc_extern h1 (hnm f fn h1).1 (by rw [hb]; rfl) h2 (find_noEscape hname)]
    rfl
  · have h1 := hfs f fn h
    have h2 : Extern.findNext fn = none := by simp [Extern.findNext, hname, lookup_clone, (hnm f fn h1).2 hb]
    rw [run_callFunc_extern h1 (hnm f fn h1).1 (by rw [hb]; rfl) h2 (find_clone hname)]
    rw [run_clone hr]
    rfl
  · unfold envOf beOf at h
    simp only at h
    cases h1 : P.eqGuardType P.depth t with
    | true => rw [h1] at h; cases h
    | false =>
      rw [h1] at h
      exact ⟨rfl, by simpa using h⟩
  · unfold envOf bxOf at h
    simp only [Bool.and_eq_true] at h
    obtain ⟨h1, h2, h3⟩ := h
    refine ⟨?_, ?_, h3⟩
    · split at h1
      · rename_i i hi
        exact ⟨i, hi, fun q => by rw [q] at h1; cases h1⟩
      · cases h1
    · intro q
      rw [q] at h2; cases h2
  · unfold envOf bsOf at h
    simp only [Bool.and_eq_true] at h
    obtain ⟨h1, h2⟩ := h
    refine ⟨Nat.eq_of_beq_eq_true h1, ?_⟩
    split at h2
    · rename_i u hu; exact ⟨u, hu, h2⟩
    · cases h2

end Go.Ev
