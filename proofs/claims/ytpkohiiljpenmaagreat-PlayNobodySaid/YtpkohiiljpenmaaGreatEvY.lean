/- The evaluator with whole regions at once: its soundness. -/
import Derived.Test.YtpkohiiljpenmaaGreatEvX
import Derived.Laws.Externs
import Derived.KernelRfl
set_option linter.unusedSimpArgs false
set_option linter.unusedVariables false
namespace Go.Ev
open Go.RowKit

abbrev RCT := AF → H → Option (AV × H)
def loopA (E : Env) (rc : RCT) (ops : Array Oper) (k : List AItem) : List Oper → AF → H → Option (AV × H)
  | [], fr, h => rc { fr with todo := k } h
  | o :: rest, fr, h => opsA2 E rc (loopA E rc ops k rest) fr h ops o rest k

def codeL (E : Env) (rc : RCT) : Code → List AItem → AF → H → Option (AV × H)
  | .skip, k, fr, h => rc { fr with todo := k } h
  | .label _, k, fr, h => rc { fr with todo := k } h
  | .seq a b, k, fr, h => codeL E rc a (.code b :: k) { fr with todo := .code a :: .code b :: k } h
  | .cond c a b, k, fr, h => (match aev fr.tm c with
    | some (.bool t) => cond t (codeL E rc a k { fr with todo := .code a :: k } h) (codeL E rc b k { fr with todo := .code b :: k } h)
    | _ => none)
  | .block id c, k, fr, h => codeL E rc c (.inBlock id :: k) { fr with todo := .code c :: .inBlock id :: k } h
  | .loop c, k, fr, h => codeL E rc c (.inLoop c :: k) { fr with todo := .code c :: .inLoop c :: k } h
  | .scope c, k, fr, h => codeL E rc c (.inScope c :: k) { fr with todo := .code c :: .inScope c :: k } h
  | .region _ ops false, k, fr, h => loopA E rc ops k ops.toList { fr with todo := .ops ops ops.toList :: k } h
  | .region id ops true, k, fr, h => codeA E rc fr h (.region id ops true) k
  | .ret, k, fr, h => codeA E rc fr h .ret k
  | .exit id, k, fr, h => codeA E rc fr h (.exit id) k
  | .goto l, k, fr, h => codeA E rc fr h (.goto l) k
  | .rangeFunc f p a b, k, fr, h => codeA E rc fr h (.rangeFunc f p a b) k
  | .refuse _, _, _, _ => none

def bodyL (E : Env) (rc : RCT) (fr : AF) (h : H) : Option (AV × H) :=
  cond fr.ret (bodyA E rc fr h) (match fr.todo with
    | .code c :: k => codeL E rc c k fr h
    | .inLoop c :: k => codeL E rc c (.inLoop c :: k) { fr with todo := .code c :: .inLoop c :: k } h
    | _ => bodyA E rc fr h)

section
variable {P : Program} {E : Env} {σ σ₁ : Sg} {w w₁ : World} {h h₁ h' : H} {fr fr₁ : AF} {cf cf₁ : Frame} {v : AV}

theorem loop_sound (hE : EnvOk P E) {rc : RCT} (hrc : RC P rc) {ops : Array Oper} {k : List AItem} : ∀ (rest : List Oper) (fr : AF) (h : H), fr.todo = .ops ops rest :: k → fr.ret = false →
    loopA E rc ops k rest fr h = some (v, h') → ∀ σ cf w, FRel σ fr cf → HRel σ h w.heap → Done P σ h w fr cf v h'
  | [], fr, h, ht, hret, hb, σ, cf, w, hf, r => by
    obtain ⟨tm, tk, d, ro, rfl, h2, h3, h4, h7⟩ := hf.inv
    have hm : modeOf fr = .run := by simp [modeOf, hret]
    rw [hm]
    rw [ht] at h3
    obtain ⟨it, k', rfl, hi, hk3⟩ := h3.cons; clear h3
    have h3 := hk3
    cases it <;> simp only [IRel] at hi
    rename_i ops' todo
    obtain ⟨rfl, i, rfl, hrest⟩ := hi
    have : (List.range ops'.size).drop i = [] := by
      refine List.drop_eq_nil_of_le ?_
      have := congrArg List.length hrest
      simp at this ⊢; omega
    rw [this]
    refine Done.next hrc (fr₁ := { fr with todo := k }) (cf₁ := ⟨fr.fn, tm, k', d, .run, kindOf fr, ro⟩) (fun cs _ => .one st_regionEnd) rfl rfl rfl (Ext.refl _ _ _) hb ?_ r
    have := FRel.mk' (fr := { fr with todo := k }) (σ := σ) (tm := tm) (k := k') (d := d) (ro := ro) h2 h3 h4 h7
    simpa [modeOf, hret, kindOf] using this
  | o :: rest, fr, h, ht, hret, hb, σ, cf, w, hf, r =>
    ops_sound2 hE hrc ht hret (fun fr' h₁ a b c => loop_sound hE hrc rest fr' h₁ a b c) hb hf r

theorem codeL_sound (hE : EnvOk P E) (hD : DrawOk P E) {rc : RCT} (hrc : RC P rc) : ∀ (c : Code) (k : List AItem) (fr : AF) (h : H), fr.todo = .code c :: k → fr.ret = false →
    codeL E rc c k fr h = some (v, h') → ∀ σ cf w, FRel σ fr cf → HRel σ h w.heap → Done P σ h w fr cf v h' := by
  intro c
  -- a step, and what is left
  have nx : ∀ {fr : AF} {c : Code} {k : List AItem} {σ : Sg} {cf : Frame} {w : World} {h : H}, fr.todo = .code c :: k → fr.ret = false → FRel σ fr cf → HRel σ h w.heap → ∀ (l : List AItem) (f : List Item → List Item),
      (∀ k', KRel σ k k' → KRel σ l (f k')) →
      (∀ {fn : FuncId} {tm : Array Value} {k' : List Item} {d : List Deferred} {kd : CallKind} {ro : Option Nat} {cs : List Frame}, TRel σ fr.nt fr.tm tm → step P (lone ⟨fn, tm, .code c :: k', d, .run, kd, ro⟩ cs w) = .next (lone ⟨fn, tm, f k', d, .run, kd, ro⟩ cs w)) →
      (∀ σ cf w, FRel σ { fr with todo := l } cf → HRel σ h w.heap → Done P σ h w { fr with todo := l } cf v h') → Done P σ h w fr cf v h' := by
    intro fr c k σ cf w h ht hret hf r l f hk hs hd
    obtain ⟨tm, tk, d, ro, rfl, h2, h3, h4, h7⟩ := hf.inv
    have hm : modeOf fr = .run := by simp [modeOf, hret]
    rw [hm]
    rw [ht] at h3
    obtain ⟨it, k', rfl, hi, hk3⟩ := h3.cons; clear h3
    have h3 := hk3
    cases it <;> simp only [IRel] at hi
    subst hi
    have := FRel.mk' (fr := { fr with todo := l }) (σ := σ) (tm := tm) (k := f k') (d := d) (ro := ro) h2 (hk _ h3) h4 h7
    exact (hd σ ⟨fr.fn, tm, f k', d, .run, kindOf fr, ro⟩ w (by simpa [modeOf, hret, kindOf] using this) r).of_step (fun cs => hs h2) rfl rfl rfl
  induction c with
  | skip => exact fun k fr h ht hret hb σ cf w hf r => nx ht hret hf r k id (fun _ q => q) (fun _ => st_skip) fun σ cf w hf r => hrc _ _ _ _ hb σ cf w hf r
  | label l => exact fun k fr h ht hret hb σ cf w hf r => nx ht hret hf r k id (fun _ q => q) (fun _ => st_label) fun σ cf w hf r => hrc _ _ _ _ hb σ cf w hf r
  | seq a b iha ihb => exact fun k fr h ht hret hb σ cf w hf r => nx ht hret hf r (.code a :: .code b :: k) (fun k' => .code a :: .code b :: k') (fun _ q => ⟨rfl, rfl, q⟩) (fun _ => st_seq) fun σ cf w hf r => iha (.code b :: k) { fr with todo := .code a :: .code b :: k } h rfl hret hb σ cf w hf r
  | cond c a b iha ihb =>
    intro k fr h ht hret hb σ cf w hf r
    simp only [codeL] at hb
    split at hb
    · rename_i t hc
      cases t with
      | true => exact nx ht hret hf r (.code a :: k) (fun k' => .code a :: k') (fun _ q => ⟨rfl, q⟩) (fun q => st_cond (t := true) (by have := aev_sound q hc; simpa [conc] using this.symm)) fun σ cf w hf r => iha k { fr with todo := .code a :: k } h rfl hret hb σ cf w hf r
      | false => exact nx ht hret hf r (.code b :: k) (fun k' => .code b :: k') (fun _ q => ⟨rfl, q⟩) (fun q => st_cond (t := false) (by have := aev_sound q hc; simpa [conc] using this.symm)) fun σ cf w hf r => ihb k { fr with todo := .code b :: k } h rfl hret hb σ cf w hf r
    · cases hb
  | block id c ih => exact fun k fr h ht hret hb σ cf w hf r => nx ht hret hf r (.code c :: .inBlock id :: k) (fun k' => .code c :: .inBlock id :: k') (fun _ q => ⟨rfl, rfl, q⟩) (fun _ => st_block) fun σ cf w hf r => ih (.inBlock id :: k) { fr with todo := .code c :: .inBlock id :: k } h rfl hret hb σ cf w hf r
  | loop c ih => exact fun k fr h ht hret hb σ cf w hf r => nx ht hret hf r (.code c :: .inLoop c :: k) (fun k' => .code c :: .inLoop c :: k') (fun _ q => ⟨rfl, rfl, q⟩) (fun _ => st_loop) fun σ cf w hf r => ih (.inLoop c :: k) { fr with todo := .code c :: .inLoop c :: k } h rfl hret hb σ cf w hf r
  | scope c ih => exact fun k fr h ht hret hb σ cf w hf r => nx ht hret hf r (.code c :: .inScope c :: k) (fun k' => .code c :: .inScope c :: k') (fun _ q => ⟨rfl, rfl, q⟩) (fun _ => st_scope) fun σ cf w hf r => ih (.inScope c :: k) { fr with todo := .code c :: .inScope c :: k } h rfl hret hb σ cf w hf r
  | region id ops draw =>
    intro k fr h ht hret hb σ cf w hf r
    cases draw with
    | true => exact code_sound hE hD hrc ht hret hb hf r
    | false => exact nx ht hret hf r (.ops ops ops.toList :: k) (fun k' => .inRegion ops (List.range ops.size) :: k') (fun _ q => ⟨⟨rfl, 0, rfl, rfl⟩, q⟩) (fun _ => st_region) fun σ cf w hf r => loop_sound hE hrc _ { fr with todo := .ops ops ops.toList :: k } h rfl hret hb σ cf w hf r
  | ret => exact fun k fr h ht hret hb σ cf w hf r => code_sound hE hD hrc ht hret hb hf r
  | exit id => exact fun k fr h ht hret hb σ cf w hf r => code_sound hE hD hrc ht hret hb hf r
  | goto l => exact fun k fr h ht hret hb σ cf w hf r => code_sound hE hD hrc ht hret hb hf r
  | rangeFunc f p a b iha ihb => exact fun k fr h ht hret hb σ cf w hf r => code_sound hE hD hrc ht hret hb hf r
  | refuse s => exact fun k fr h ht hret hb => by cases hb

theorem bodyL_sound (hE : EnvOk P E) (hD : DrawOk P E) {rc : RCT} (hrc : RC P rc) : RC P (bodyL E rc) := by
  intro fr h v h' hb σ cf w hf r
  unfold bodyL at hb
  cases hret : fr.ret with
  | true => rw [hret] at hb; exact body_sound hE hD hrc fr h v h' hb σ cf w hf r
  | false =>
    rw [hret] at hb; simp only [cond_false] at hb
    rw [← hret] at hb
    split at hb
    · rename_i c k ht
      exact codeL_sound hE hD hrc c k fr h ht hret hb σ cf w hf r
    · rename_i c k ht
      obtain ⟨tm, tk, d, ro, rfl, h2, h3, h4, h7⟩ := hf.inv
      have hm : modeOf fr = .run := by simp [modeOf, hret]
      rw [hm]
      rw [ht] at h3
      obtain ⟨it, k', rfl, hi, hk3⟩ := h3.cons; clear h3
      have h3 := hk3
      cases it <;> simp only [IRel] at hi
      subst hi
      rename_i c
      have := FRel.mk' (fr := { fr with todo := .code c :: .inLoop c :: k }) (σ := σ) (tm := tm) (k := .code c :: .inLoop c :: k') (d := d) (ro := ro) h2 ⟨rfl, rfl, h3⟩ h4 h7
      exact (codeL_sound hE hD hrc c _ { fr with todo := .code c :: .inLoop c :: k } h rfl hret hb σ ⟨fr.fn, tm, .code c :: .inLoop c :: k', d, .run, kindOf fr, ro⟩ w (by simpa [modeOf, hret, kindOf] using this) r).of_step (fun cs => st_inLoop) rfl rfl rfl
    · exact body_sound hE hD hrc fr h v h' hb σ cf w hf r

noncomputable def runL (E : Env) (n : Nat) : RCT :=
  Nat.rec (motive := fun _ => RCT) (fun _ _ => none) (fun _ ih fr h => bodyL E ih fr h) n
theorem runL_sound (hE : EnvOk P E) : ∀ n, RC P (runL E n)
  | 0 => fun fr h v h' hb => by cases hb
  | n + 1 => bodyL_sound hE (draw_ok hE) (runL_sound hE n)
noncomputable def callL (E : Env) (n : Nat) (f : FuncId) (args : List AV) (h : H) : Option (AV × H) := enterA E f args false fun cf => runL E n cf h

theorem callL_sound (hE : EnvOk P E) {n : Nat} {f : FuncId} {args : List AV} {h h' : H} {v : AV} (hc : callL E n f args h = some (v, h')) {σ : Sg} {w : World} {xs : List Value} (hx : concL σ args = some xs) (r : HRel σ h w.heap) :
    Calls P f ⟨xs⟩ w fun e w' => ∃ σ' x, e = .returned x ∧ conc σ' v = some x ∧ HRel σ' h' w'.heap ∧ Ext σ h w σ' h' w' := by
  unfold callL at hc
  obtain ⟨fr, h1, h2, h3, h4, h5, h6⟩ := enter_rel hE hc
  intro cs
  obtain ⟨σ', w', x, a1, a2, a3, a4⟩ := runL_sound hE n fr h v h' h1 σ _ w (h6 σ xs hx) r cs (fun _ q => by rw [h4] at q; cases q)
  simp only [EndsC, h3] at a4
  obtain ⟨cf', s1, q1, q2, q3, q4, fn, q5, q6⟩ := a4
  rw [h4] at q4
  refine ⟨.returned x, w', cf', ⟨σ', x, rfl, a1, a2, a3⟩, s1, by rw [q1, h2], q2, q3, q4, fn, by rw [q1]; exact q5, q6⟩

/-- a call without arguments that comes to a plain value: memory that was there is left alone -/
theorem callL_plain (hE : EnvOk P E) {n : Nat} {f : FuncId} {h' : H} {b : Bool} (hc : callL E n f [] ⟨0, .nil⟩ = some (.bool b, h')) (w : World) :
    Calls P f #[] w fun e w' => e = .returned (.bool b) ∧ Below w.heap.size w w' := by
  have := callL_sound hE hc (σ := fun _ => none) (w := w) (xs := []) rfl ⟨fun _ _ => rfl, fun i o hi => by simp [get_nil] at hi, fun i j o o' b c c' hi => by simp [get_nil] at hi⟩
  refine this.mono fun e w' he => ?_
  obtain ⟨σ', x, rfl, h1, h2, h3⟩ := he
  simp only [conc, Option.some.injEq] at h1
  subst h1
  exact ⟨rfl, h3.below⟩

end
end Go.Ev
/- The evaluator's tables, out of a program. -/
set_option linter.unusedSimpArgs false
set_option linter.unusedVariables false
namespace Go.Ev
open Go.Conc

/-- a trie of all values of a function below n -/
def ofF {α : Type} (f : Nat → Option α) : Nat → T α
  | 0 => .nil
  | n + 1 => T.set (f n) (ofF f n) n
theorem get_ofF {α : Type} (f : Nat → Option α) : ∀ (n k : Nat), (ofF f n).get k = if k < n then f k else none
  | 0, k => by simp [ofF, get_nil]
  | n + 1, k => by
    simp only [ofF, get_set, get_ofF f n]
    by_cases e : k = n
    · subst e; simp
    · by_cases h : k < n
      · simp [e, h, Nat.lt_succ_of_lt h]
      · have : ¬ k < n + 1 := by omega
        simp [e, h, this]
theorem ofF_some {α : Type} {f : Nat → Option α} {n k : Nat} {x : α} (h : (ofF f n).get k = some x) : f k = some x := by
  rw [get_ofF] at h
  split at h
  · exact h
  · cases h

/-- a trie of a list -/
def ofL {α : Type} : List α → Nat → T α → T α
  | [], _, t => t
  | a :: l, i, t => ofL l (i + 1) (T.set (some a) t i)
theorem get_ofL {α : Type} : ∀ (l : List α) (i : Nat) (t : T α) (k : Nat), (ofL l i t).get k = if i ≤ k ∧ k < i + l.length then l[k - i]? else t.get k
  | [], i, t, k => by rw [if_neg (by simp only [List.length_nil]; omega)]; rfl
  | a :: l, i, t, k => by
    simp only [ofL, get_ofL l, get_set, List.length_cons]
    by_cases e : k = i
    · subst e; rw [if_neg (by omega), if_pos rfl, if_pos (by omega)]; simp
    · by_cases e2 : i + 1 ≤ k ∧ k < i + 1 + l.length
      · rw [if_pos e2, if_pos (by omega), show k - i = (k - (i + 1)) + 1 by omega]; simp
      · rw [if_neg e2, if_neg e, if_neg (by omega)]
theorem ofL_some {α : Type} {l : List α} {k : Nat} {x : α} (h : (ofL l 0 .nil).get k = some x) : l[k]? = some x := by
  rw [get_ofL] at h
  split at h
  · simpa using h
  · simp [get_nil] at h

def fldsOk (P : Program) : TypeDesc → Bool
  | .struct fs => fs.toList.all fun f => (P.info? f.type).isSome
  | _ => true
def mkTI (P : Program) (t : TypeId) : Option TI :=
  match P.info? t with
  | none => none
  | some i => match P.underlying t with
    | none => none
    | some d => match i.zero with
      | none => none
      | some z => match ofV z with
        | none => none
        | some a => fN i.size fun size => fN i.bytes fun bytes =>
          cond (Nat.beq a.cells.length size && fldsOk P d) (some { desc := d, size := size, bytes := bytes, agg := aggD d, zero := a }) none

def kindOp (P : Program) : Op → Nat
  | .move _ => 0
  | .assign _ => 0
  | .pick _ _ _ => 0
  | .build _ _ => 0
  | .load _ _ => 0
  | .nilCheck _ => 0
  | .binOp _ _ _ _ _ => 0
  | .unOp _ _ _ => 0
  | .sliceToArrayPointer _ _ => 0
  | .makeInterface _ _ => 0
  | .makeFunc _ _ _ => 0
  | .slice _ _ _ _ _ => 0
  | .fieldAddr _ _ _ => 0
  | .field _ _ _ => 0
  | .indexAddr _ _ _ => 0
  | .index _ _ _ => 0
  | .lookup _ _ _ _ => 0
  | .entry _ => 0
  | .typeAssert _ _ _ _ => 0
  | .extract _ _ => 0
  | .convert _ d _ => (match P.underlying d with
    | some (.slice _) => 1
    | _ => 0)
  | .alloc _ => 1
  | .box _ _ => 1
  | .buildSlice _ _ _ => 1
  | .makeMap _ none => 1
  | .makeChan _ _ => 1
  | .makeSlice _ _ _ => 1
  | .call c => (match c.callee with
    | .builtin b => (match b with
      | .len => 0
      | .cap => 0
      | .max => 0
      | .min => 0
      | .unsafeSliceData => 0
      | _ => 2)
    | _ => 2)
  | _ => 2
def befG (M : List Nat) (i j : Nat) : Bool := bef M i j
def mkPlan (P : Program) (ops : Array Oper) : Plan :=
  let M := masks ops.toList []
  let n := ops.size
  let kd := ops.toList.map fun o => kindOp P o.op
  let effs := (List.range n).filter fun i => Nat.beq (kd.getD i 0) 2
  let alls := (List.range n).filter fun i => Nat.beq (kd.getD i 0) 1
  let ps := (List.range n).map fun j =>
    match kd.getD j 0 with
    | 0 =>
      let lo := effs.countP fun i => bef M i j
      let hi := effs.countP fun i => !bef M j i
      PE.light ((List.range (hi + 1 - lo)).map (· + lo)) (alls.filter fun x => bef M x j && effs.all fun e => !bef M x e || bef M j e)
    | 1 => PE.alloc
    | _ => PE.eff (alls.filter fun x => bef M x j && effs.all fun e => Nat.ble j e || !bef M x e)
  ⟨ps, alls.filter fun x => effs.all fun e => !bef M x e⟩

def beOf (P : Program) (t : TypeId) : Bool := cond (P.eqGuardType P.depth t) false (!P.stoodInHeld t)
def bxOf (P : Program) (t e : TypeId) : Bool := (match P.info? t with
  | some i => !Nat.beq i.size 0
  | none => false) && (!Nat.beq (P.cellsOf e) 0 && liesAt P P.depth e 1 0 t 1)
def bsOf (P : Program) (t e : TypeId) : Bool := Nat.beq (P.cellsOf e) 1 && (match P.underlying t with
  | some (.pointer u) => sameLayout P P.depth e u
  | _ => false)
def msOf (P : Program) (t : TypeId) (name : String) : Option FuncId :=
  match P.info? t with
  | none => none
  | some i => match i.methods.find? (·.name == name) with
    | none => none
    | some m => cond m.path.isEmpty (match m.func with
      | some (f, b) => cond b none (match P.underlying t with
        | none => none
        | some (.pointer _) => none
        | some _ => some f)
      | none => none) none
def fsOf (P : Program) : T Func := ofL P.funcs.toList 0 .nil
def tsOf (P : Program) : T TI := ofF (mkTI P) P.types.size
def envOf (P : Program) : Env :=
  { fs := fsOf P, ts := tsOf P, ms := msOf P, bx := bxOf P, be := beOf P, bs := bsOf P, plan := fun ops => some (mkPlan P ops), orc := .nil }
/-- .. with functions that are answered out of contracts -/
def envO (P : Program) (o : T (List AV → H → Option (AV × H))) : Env := { envOf P with orc := o }

/-- no function of a name that the machine itself answers -/
def namesOk (P : Program) : Bool := P.funcs.toList.all fun fn => !(fn.name == "runtime.NumGoroutine") && (fn.body.isSome || (Extern.allNextRows.lookup fn.origin).isNone)

theorem mkTI_ok {P : Program} {t : TypeId} {x : TI} (h : mkTI P t = some x) : TOk P t x := by
  unfold mkTI at h
  split at h
  · cases h
  · rename_i i hi
    split at h
    · cases h
    · rename_i d hd
      split at h
      · cases h
      · rename_i z hz
        split at h
        · cases h
        · rename_i a ha
          simp only [fN_eq] at h
          cases hc : Nat.beq a.cells.length i.size && fldsOk P d with
          | false => rw [hc] at h; cases h
          | true =>
            rw [hc] at h; simp only [cond_true, Option.some.injEq] at h
            subst h
            simp only [Bool.and_eq_true] at hc
            refine ⟨hd, rfl, Nat.eq_of_beq_eq_true hc.1, ?_, i, z, hi, rfl, rfl, hz, ha⟩
            have := hc.2
            simp only
            cases d <;> first | rfl | exact this

theorem lookup_noEscape : Extern.allNextRows.lookup "internal/abi.NoEscape" = none := by kernel_rfl
theorem lookup_clone : Extern.allNextRows.lookup "maps.clone" = none := by kernel_rfl
theorem find_noEscape {fn : Func} (h : fn.name = "internal/abi.NoEscape") : Extern.find fn = some Extern.AbiNoEscape.same := by
  have h1 : Extern.allGenericRows.lookup "internal/abi.NoEscape" = none := by kernel_rfl
  have h2 : Extern.allTypedRows.lookup "internal/abi.NoEscape" = none := by kernel_rfl
  have h3 : Extern.allRows.lookup "internal/abi.NoEscape" = some Extern.AbiNoEscape.same := by kernel_rfl
  simp [Extern.find, h, h1, h2, h3]
theorem find_clone {fn : Func} (h : fn.name = "maps.clone") : Extern.find fn = some Extern.MapsClone.clone := by
  have h1 : Extern.allGenericRows.lookup "maps.clone" = none := by kernel_rfl
  have h2 : Extern.allTypedRows.lookup "maps.clone" = none := by kernel_rfl
  have h3 : Extern.allRows.lookup "maps.clone" = some Extern.MapsClone.clone := by kernel_rfl
  simp [Extern.find, h, h1, h2, h3]

theorem lookup_ibs : Extern.allNextRows.lookup "internal/bytealg.IndexByteString" = none := by kernel_rfl
theorem find_ibs {fn : Func} (h : fn.name = "internal/bytealg.IndexByteString") : Extern.find fn = some Extern.BytealgIndexByte.indexByte := by
  have h1 : Extern.allGenericRows.lookup "internal/bytealg.IndexByteString" = none := by kernel_rfl
  have h2 : Extern.allTypedRows.lookup "internal/bytealg.IndexByteString" = none := by kernel_rfl
  have h3 : Extern.allRows.lookup "internal/bytealg.IndexByteString" = some Extern.BytealgIndexByte.indexByte := by kernel_rfl
  simp [Extern.find, h, h1, h2, h3]
theorem ibs_find (s : List UInt8) (c : Nat) (hc : c < 256) : ∀ (l : List UInt8) (k : Nat), s.drop k = l →
    (match (List.range' k l.length).find? (fun i => (⟨⟨s⟩⟩ : ByteArray)[i]! == c.toUInt8) with | some i => Int.ofNat i | none => -1) = indexByteA c l k
  | [], k, _ => by simp [indexByteA]
  | b :: l, k, h => by
    have hk : k < s.length := by
      rcases Nat.lt_or_ge k s.length with q | q
      · exact q
      · rw [List.drop_eq_nil_of_le q] at h; cases h
    have hb : (⟨⟨s⟩⟩ : ByteArray)[k]! = b := by
      have e := List.drop_eq_getElem_cons hk
      rw [h] at e
      have hz : k < (⟨⟨s⟩⟩ : ByteArray).size := hk
      rw [getElem!_pos (⟨⟨s⟩⟩ : ByteArray) k hz]
      show s[k] = b
      exact (List.cons.inj e).1.symm
    have hd : s.drop (k + 1) = l := by
      rw [← List.drop_drop, h]; rfl
    rw [List.length_cons, List.range'_succ, List.find?_cons, hb]
    have hq : (b == c.toUInt8) = Nat.beq b.toNat c := by
      rw [Bool.eq_iff_iff]
      simp only [beq_iff_eq]
      constructor
      · intro e
        have : b.toNat = c := by
          rw [e]
          show (UInt8.ofNat c).toNat = c
          rw [UInt8.toNat_ofNat']
          omega
        rw [this]; exact Nat.beq_refl c
      · intro e
        replace e := Nat.eq_of_beq_eq_true e
        apply UInt8.toNat_inj.1
        show b.toNat = (UInt8.ofNat c).toNat
        rw [UInt8.toNat_ofNat', e]
        omega
    rw [hq]
    simp only [indexByteA]
    cases Nat.beq b.toNat c with
    | true => rfl
    | false => exact ibs_find s c hc l (k + 1) hd
theorem run_ibs {P : Program} {w : World} (s : List UInt8) (c : Nat) (hc : c < 256) : (Extern.BytealgIndexByte.indexByte #[.string ⟨⟨s⟩⟩, .int .u8 (Int.ofNat c)]).run P w = .ok (.int .i64 (indexByteA c s 0)) w := by
  have h := ibs_find s c hc s 0 rfl
  have hsz : (⟨⟨s⟩⟩ : ByteArray).size = s.length := rfl
  change Sem.run P (match (List.range (⟨⟨s⟩⟩ : ByteArray).size).find? (fun i => (⟨⟨s⟩⟩ : ByteArray)[i]! == c.toUInt8) with
    | some i => pure (goInt i)
    | none => pure (goInt (-1))) w = _
  rw [← h, hsz, List.range_eq_range']
  cases List.find? (fun i => (⟨⟨s⟩⟩ : ByteArray)[i]! == c.toUInt8) (List.range' 0 s.length) <;> rfl

theorem run_clone {P : Program} {w : World} {r c : Nat} {es : Array MapEntry} {t : TypeId} (hr : w.heap[r]? = some (.map es c)) :
    (Extern.MapsClone.clone #[.iface t (.map (some r))]).run P w = .ok (.iface t (.map (some w.heap.size))) { w with heap := w.heap.push (.map es c) } := by
  change Sem.run P (do
      let .map entries clock ← getObj r | stuck "maps.clone: a map expected"
      pure (Value.iface t (.map (some (← newObj (.map entries clock)))))) w = _
  simp [getObj, newObj, Sem.run, hr]

theorem ms_ok {P : Program} {t : TypeId} {name : String} {f : FuncId} (h : msOf P t name = some f) (v : Value) (args : Array Value) (w : World) :
    (callMethod (.iface t v) name args).run P w = (callFunc f (#[v] ++ args)).run P w := by
  unfold msOf at h
  split at h
  · cases h
  · rename_i i hi
    split at h
    · cases h
    · rename_i m hm
      cases hp : m.path.isEmpty with
      | false => rw [hp] at h; cases h
      | true =>
        rw [hp] at h; simp only [cond_true] at h
        split at h
        · rename_i g b hf
          cases b with
          | true => cases h
          | false =>
            simp only [cond_false] at h
            split at h
            · cases h
            · cases h
            · rename_i d hn hd
              cases h
              have hpl : m.path.toList = [] := by simpa using hp
              have hdep : P.types.size + Made.depth = (P.types.size + 99) + 1 := rfl
              have hund : ∀ w, (underlying t).run P w = .ok d w := fun w => by simp [underlying, hd]
              have hinf : ∀ w, (typeInfo t).run P w = .ok i w := fun w => by simp [typeInfo, hi]
              have hrec : ∀ (o : Option String) (w : World), (receiverAt t (.val v) false o).run P w = .ok v w := fun o w => by
                simp only [receiverAt, Sem.run_bind, hund, Result.andThen_ok]
                cases d <;> first | rfl | exact absurd rfl (hn _)
              have hmet : ∀ (k : Nat) (w : World), (method (k + 1) t v name).run P w = .ok (f, v) w := fun k w => by
                unfold method
                simp only [Sem.run_bind, hinf, Result.andThen_ok, hm, hpl, follow, Sem.run_pure, hf, hrec]
              have hprog : ∀ w, (program : Sem Program).run P w = .ok P w := fun w => rfl
              simp only [callMethod, Sem.run_bind, hprog, Result.andThen_ok, hdep, hmet]
        · cases h

theorem env_ok {P : Program} (hm : P.follows .mixedOrders = true) (hn : namesOk P = true) : EnvOk P (envOf P) := by
  have hnm : ∀ (f : FuncId) (fn : Func), P.funcs[f]? = some fn → (fn.name == "runtime.NumGoroutine") = false ∧ (fn.body = none → Extern.allNextRows.lookup fn.origin = none) := fun f fn hf => by
    have := List.all_eq_true.1 hn fn (by simpa using Array.mem_of_getElem? hf)
    simp only [Bool.and_eq_true, Bool.not_eq_true', Bool.or_eq_true] at this
    refine ⟨this.1, fun hb => ?_⟩
    rw [hb] at this
    simpa using this.2
  have hfs : ∀ f fn, (envOf P).fs.get f = some fn → P.funcs[f]? = some fn := fun f fn h => by simpa using ofL_some h
  refine ⟨fun f g h => by simp [envOf, get_nil] at h, hm, hfs, fun f fn c h hb args w => ?_, fun f fn h hb hname x w => ?_, fun f fn h hb hname t r w es c hr => ?_, fun f fn h hb hname s c w hc => ?_, fun t x h => mkTI_ok (ofF_some h), fun t name f h v args w => ms_ok h v args w, fun t h => ?_, fun t e h => ?_, fun t e h => ?_⟩
  · have h1 := hfs f fn h
    have h2 : fn.name ≠ "runtime.NumGoroutine" := by simpa using (hnm f fn h1).1
    simp [callFunc, h1, h2, hb]
  · have h1 := hfs f fn h
    have h2 : Extern.findNext fn = none := by simp [Extern.findNext, hname, lookup_noEscape, (hnm f fn h1).2 hb]
    rw [run_callFunc_extern h1 (hnm f fn h1).1 (by rw [hb]; rfl) h2 (find_noEscape hname)]
    rfl
  · have h1 := hfs f fn h
    have h2 : Extern.findNext fn = none := by simp [Extern.findNext, hname, lookup_clone, (hnm f fn h1).2 hb]
    rw [run_callFunc_extern h1 (hnm f fn h1).1 (by rw [hb]; rfl) h2 (find_clone hname)]
    rw [run_clone hr]
    rfl
  · have h1 := hfs f fn h
    have h2 : Extern.findNext fn = none := by simp [Extern.findNext, hname, lookup_ibs, (hnm f fn h1).2 hb]
    rw [run_callFunc_extern h1 (hnm f fn h1).1 (by rw [hb]; rfl) h2 (find_ibs hname)]
    rw [run_ibs s c hc]
    rfl
  · unfold envOf beOf at h
    simp only at h
    cases h1 : P.eqGuardType P.depth t with
    | true => rw [h1] at h; cases h
    | false =>
      rw [h1] at h
      exact ⟨rfl, by simpa using h⟩
  · unfold envOf bxOf at h
    simp only [Bool.and_eq_true] at h
    obtain ⟨h1, h2, h3⟩ := h
    refine ⟨?_, ?_, h3⟩
    · split at h1
      · rename_i i hi
        exact ⟨i, hi, fun q => by rw [q] at h1; cases h1⟩
      · cases h1
    · intro q
      rw [q] at h2; cases h2
  · unfold envOf bsOf at h
    simp only [Bool.and_eq_true] at h
    obtain ⟨h1, h2⟩ := h
    refine ⟨Nat.eq_of_beq_eq_true h1, ?_⟩
    split at h2
    · rename_i u hu; exact ⟨u, hu, h2⟩
    · cases h2

theorem env_okO {P : Program} (hm : P.follows .mixedOrders = true) (hn : namesOk P = true) {o : T (List AV → H → Option (AV × H))} (ho : ∀ f g, o.get f = some g → OrcOk P f g) : EnvOk P (envO P o) :=
  have h := env_ok hm hn
  ⟨ho, h.mixed, h.fs, h.enter, h.noEscape, h.clone, h.ibs, h.ts, h.ms, h.be, h.bx, h.bs⟩

end Go.Ev
