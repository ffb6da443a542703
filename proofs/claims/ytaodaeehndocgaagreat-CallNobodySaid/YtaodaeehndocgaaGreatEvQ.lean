/- The evaluator's soundness: single steps of the machine. -/
import Derived.Test.YtaodaeehndocgaaGreatEvP
set_option linter.unusedSimpArgs false
set_option linter.unusedVariables false
namespace Go.Ev

def okCs (fr : AF) (cs : List Frame) : Prop := fr.roundOf = none → fr.deferred = true → ∃ c cs', cs = c :: cs' ∧ c.mode = .returning
/-- a frame runs to its end -/
def Ends (P : Program) (fr : AF) (cf : Frame) (w : World) (x : Value) (w' : World) : Prop :=
  match fr.roundOf with
  | none => ∀ cs, okCs fr cs → ∃ cf', Steps P (lone cf cs w) (lone cf' cs w') ∧ cf'.fn = fr.fn ∧ cf'.mode = .returning ∧ cf'.defers = [] ∧ cf'.kind = (if fr.deferred then .deferred else .normal) ∧
      ∃ fn, P.funcs[fr.fn]? = some fn ∧ (results fn cf'.tmps).run P w' = .ok x w'
  | some _ => ∀ c cs, Steps P (lone cf (c :: cs) w) (lone (c.finish x) cs w')
def Done (P : Program) (σ : Sg) (h : H) (w : World) (fr : AF) (cf : Frame) (v : AV) (h' : H) : Prop :=
  ∃ σ' w' x, conc σ' v = some x ∧ HRel σ' h' w'.heap ∧ Ext σ h w σ' h' w' ∧ Ends P fr cf w x w'
def RC (P : Program) (rc : AF → H → Option (AV × H)) : Prop :=
  ∀ fr h v h', rc fr h = some (v, h') → ∀ σ cf w, FRel σ fr cf → HRel σ h w.heap → Done P σ h w fr cf v h'

section
variable {P : Program} {E : Env} {σ σ₁ : Sg} {w w₁ : World} {h h₁ h' : H} {fr fr₁ : AF} {cf cf₁ : Frame} {v : AV}

theorem Ends.of_steps (hs : ∀ cs, okCs fr cs → Steps P (lone cf cs w) (lone cf₁ cs w₁)) (e1 : fr₁.fn = fr.fn) (e2 : fr₁.roundOf = fr.roundOf) (e3 : fr₁.deferred = fr.deferred) {x : Value} {w' : World} (a : Ends P fr₁ cf₁ w₁ x w') : Ends P fr cf w x w' := by
  unfold Ends at a ⊢
  rw [e2] at a
  cases hr : fr.roundOf with
  | none =>
    simp only [hr] at a ⊢
    intro cs hc
    have hc' : okCs fr₁ cs := fun q1 q2 => hc hr (e3 ▸ q2)
    obtain ⟨cf', s, q⟩ := a cs hc'
    refine ⟨cf', (hs cs hc).trans s, ?_⟩
    rw [← e1, ← e3]; exact q
  | some l =>
    simp only [hr] at a ⊢
    intro c cs
    exact (hs (c :: cs) (fun q => by rw [hr] at q; cases q)).trans (a c cs)
theorem Done.of_steps (hs : ∀ cs, okCs fr cs → Steps P (lone cf cs w) (lone cf₁ cs w₁)) (e1 : fr₁.fn = fr.fn) (e2 : fr₁.roundOf = fr.roundOf) (e3 : fr₁.deferred = fr.deferred) (hx : Ext σ h w σ₁ h₁ w₁)
    (a : Done P σ₁ h₁ w₁ fr₁ cf₁ v h') : Done P σ h w fr cf v h' := by
  obtain ⟨σ', w', x, a1, a2, a3, a4⟩ := a
  exact ⟨σ', w', x, a1, a2, hx.trans a3, a4.of_steps hs e1 e2 e3⟩
theorem Done.of_step (hs : ∀ cs, step P (lone cf cs w) = .next (lone cf₁ cs w)) (e1 : fr₁.fn = fr.fn) (e2 : fr₁.roundOf = fr.roundOf) (e3 : fr₁.deferred = fr.deferred)
    (a : Done P σ h w fr₁ cf₁ v h') : Done P σ h w fr cf v h' := a.of_steps (fun cs _ => .one (hs cs)) e1 e2 e3 (Ext.refl _ _ _)

section
variable {f : FuncId} {tm : Array Value} {k : List Item} {d : List Deferred} {kd : CallKind} {ro : Option Nat} {cs : List Frame} {c : Frame}
theorem st_skip : step P (lone ⟨f, tm, .code .skip :: k, d, .run, kd, ro⟩ cs w) = .next (lone ⟨f, tm, k, d, .run, kd, ro⟩ cs w) := step_lone_go (by simp [stepG, stepG.exec])
theorem st_label {l : Nat} : step P (lone ⟨f, tm, .code (.label l) :: k, d, .run, kd, ro⟩ cs w) = .next (lone ⟨f, tm, k, d, .run, kd, ro⟩ cs w) := step_lone_go (by simp [stepG, stepG.exec])
theorem st_inBlock {l : Nat} : step P (lone ⟨f, tm, .inBlock l :: k, d, .run, kd, ro⟩ cs w) = .next (lone ⟨f, tm, k, d, .run, kd, ro⟩ cs w) := step_lone_go (by simp [stepG, stepG.exec])
theorem st_inScope {l : Code} : step P (lone ⟨f, tm, .inScope l :: k, d, .run, kd, ro⟩ cs w) = .next (lone ⟨f, tm, k, d, .run, kd, ro⟩ cs w) := step_lone_go (by simp [stepG, stepG.exec])
theorem st_seq {a b : Code} : step P (lone ⟨f, tm, .code (.seq a b) :: k, d, .run, kd, ro⟩ cs w) = .next (lone ⟨f, tm, .code a :: .code b :: k, d, .run, kd, ro⟩ cs w) := step_lone_go (by simp [stepG, stepG.exec])
theorem st_cond {o : Operand} {a b : Code} {t : Bool} (ht : evT tm o = .bool t) : step P (lone ⟨f, tm, .code (.cond o a b) :: k, d, .run, kd, ro⟩ cs w) = .next (lone ⟨f, tm, .code (cond t a b) :: k, d, .run, kd, ro⟩ cs w) :=
  step_lone_go (by
    have e : (Frame.mk f tm (.code (.cond o a b) :: k) d .run kd ro).eval o = .bool t := by rw [eval_evT]; exact ht
    cases t <;> simp [stepG, stepG.exec, e])
theorem st_block {l : Nat} {a : Code} : step P (lone ⟨f, tm, .code (.block l a) :: k, d, .run, kd, ro⟩ cs w) = .next (lone ⟨f, tm, .code a :: .inBlock l :: k, d, .run, kd, ro⟩ cs w) := step_lone_go (by simp [stepG, stepG.exec])
theorem st_loop {a : Code} : step P (lone ⟨f, tm, .code (.loop a) :: k, d, .run, kd, ro⟩ cs w) = .next (lone ⟨f, tm, .code a :: .inLoop a :: k, d, .run, kd, ro⟩ cs w) := step_lone_go (by simp [stepG, stepG.exec])
theorem st_inLoop {a : Code} : step P (lone ⟨f, tm, .inLoop a :: k, d, .run, kd, ro⟩ cs w) = .next (lone ⟨f, tm, .code a :: .inLoop a :: k, d, .run, kd, ro⟩ cs w) := step_lone_go (by simp [stepG, stepG.exec])
theorem st_scope {a : Code} : step P (lone ⟨f, tm, .code (.scope a) :: k, d, .run, kd, ro⟩ cs w) = .next (lone ⟨f, tm, .code a :: .inScope a :: k, d, .run, kd, ro⟩ cs w) := step_lone_go (by simp [stepG, stepG.exec])
theorem st_exit {l : Nat} {k' : List Item} (hx : exitTo l k = some k') : step P (lone ⟨f, tm, .code (.exit l) :: k, d, .run, kd, ro⟩ cs w) = .next (lone ⟨f, tm, k', d, .run, kd, ro⟩ cs w) := step_lone_go (by simp [stepG, stepG.exec, hx])
theorem st_goto {l : Nat} {k' : List Item} (hx : gotoIn l k = some k') : step P (lone ⟨f, tm, .code (.goto l) :: k, d, .run, kd, ro⟩ cs w) = .next (lone ⟨f, tm, k', d, .run, kd, ro⟩ cs w) := step_lone_go (by simp [stepG, stepG.exec, hx])
theorem st_region {id : Nat} {ops : Array Oper} : step P (lone ⟨f, tm, .code (.region id ops false) :: k, d, .run, kd, ro⟩ cs w) = .next (lone ⟨f, tm, .inRegion ops (List.range ops.size) :: k, d, .run, kd, ro⟩ cs w) := step_lone_go (by simp [stepG, stepG.exec])
theorem st_draw {id : Nat} {ops : Array Oper} : step P (lone ⟨f, tm, .code (.region id ops true) :: k, d, .run, kd, ro⟩ cs w) =
    .next (lone ⟨f, tm, .inRegion ops (Region.schedule (P.follows .mixedOrders) ops (w.tape w.drawn (.order f id))) :: k, d, .run, kd, ro⟩ cs { w with drawn := w.drawn + 1 }) :=
  step_lone_go (by simp [stepG, stepG.exec, choose, Sem.run, Question.forced, Question.cut])
theorem st_regionEnd {ops : Array Oper} : step P (lone ⟨f, tm, .inRegion ops [] :: k, d, .run, kd, ro⟩ cs w) = .next (lone ⟨f, tm, k, d, .run, kd, ro⟩ cs w) := step_lone_go (by simp [stepG, stepG.exec])
theorem fin_op {ops : Array Oper} {i : Nat} {rest : List Nat} (x : Value) : (Frame.mk f tm (.inRegion ops (i :: rest) :: k) d .run kd ro).finish x = ⟨f, putT ((ops[i]?).bind (·.dst)) x tm, .inRegion ops rest :: k, d, .run, kd, ro⟩ := by
  cases hq : (ops[i]?).bind (·.dst) <;> simp [Frame.finish, putT, hq]
theorem st_opSkip {ops : Array Oper} {i : Nat} {rest : List Nat} {o : Oper} (ho : ops[i]? = some o) (hw : Region.wanted o (yielded ops tm) = false) :
    step P (lone ⟨f, tm, .inRegion ops (i :: rest) :: k, d, .run, kd, ro⟩ cs w) = .next (lone ⟨f, putT o.dst undef tm, .inRegion ops rest :: k, d, .run, kd, ro⟩ cs w) := by
  have hf := fin_op (f := f) (tm := tm) (k := k) (d := d) (kd := kd) (ro := ro) (ops := ops) (i := i) (rest := rest) undef
  rw [ho] at hf
  simp only [Option.bind_some] at hf
  rw [← hf]
  exact step_lone_go (by simp [stepG, stepG.exec, ho, hw])
theorem stG_op {ops : Array Oper} {i : Nat} {rest : List Nat} {o : Oper} (ho : ops[i]? = some o) (hw : Region.wanted o (yielded ops tm) = true) (hd : ro = none ∨ ∀ c, o.op ≠ .defer c) :
    stepG P true { frame := ⟨f, tm, .inRegion ops (i :: rest) :: k, d, .run, kd, ro⟩, callers := cs, status := .running, dying := none } w =
      stepG.apply P true ⟨f, tm, .inRegion ops (i :: rest) :: k, d, .run, kd, ro⟩ cs none (execOp (evT tm) o) w := by
  have he := eval_evT (Frame.mk f tm (.inRegion ops (i :: rest) :: k) d .run kd ro)
  simp only at he
  simp only [stepG, stepG.exec, stepG.oper, Frame.oper?, ho, hw, he, Option.map_some, Option.getD_some, if_true]
  rcases hd with rfl | hd
  · rfl
  · cases ro with
    | none => rfl
    | some l => cases hop : o.op <;> first | rfl | exact absurd hop (hd _)
theorem st_ret : step P (lone ⟨f, tm, .code .ret :: k, d, .run, kd, none⟩ cs w) = .next (lone ⟨f, tm, .code .ret :: k, d, .returning, kd, none⟩ cs w) := step_lone_go (by simp [stepG, stepG.exec])
theorem st_end : step P (lone ⟨f, tm, [], d, .run, kd, none⟩ cs w) = .next (lone ⟨f, tm, [], d, .returning, kd, none⟩ cs w) := step_lone_go (by simp [stepG, stepG.exec])
section
variable {l : Nat} {x : Value} {w' : World}
theorem st_roundEnd (hr : (Instr.endRound l none).run P w = .ok x w') : step P (lone ⟨f, tm, [], d, .run, .normal, some l⟩ (c :: cs) w) = .next (lone (c.finish x) cs w') := step_lone_go (by simp [stepG, stepG.exec, Sem.runT_eq, hr, doReturn])
theorem st_roundRet (hr : (Instr.endRound l (some .ret)).run P w = .ok x w') : step P (lone ⟨f, tm, .code .ret :: k, d, .run, .normal, some l⟩ (c :: cs) w) = .next (lone (c.finish x) cs w') := step_lone_go (by simp [stepG, stepG.exec, Sem.runT_eq, hr, doReturn])
theorem st_roundExit {id : Nat} (hx : exitTo id k = none) (hr : (Instr.endRound l (some (.exit id))).run P w = .ok x w') : step P (lone ⟨f, tm, .code (.exit id) :: k, d, .run, .normal, some l⟩ (c :: cs) w) = .next (lone (c.finish x) cs w') := step_lone_go (by simp [stepG, stepG.exec, Sem.runT_eq, hx, hr, doReturn])
theorem st_roundGoto {id : Nat} (hx : gotoIn id k = none) (hr : (Instr.endRound l (some (.goto id))).run P w = .ok x w') : step P (lone ⟨f, tm, .code (.goto id) :: k, d, .run, .normal, some l⟩ (c :: cs) w) = .next (lone (c.finish x) cs w') := step_lone_go (by simp [stepG, stepG.exec, Sem.runT_eq, hx, hr, doReturn])
theorem st_begin (hr : (Instr.beginRound l).run P w = .ok () w') : step P (lone ⟨f, tm, .beginRound :: k, d, .run, kd, some l⟩ cs w) = .next (lone ⟨f, tm, k, d, .run, kd, some l⟩ cs w') := step_lone_go (by simp [stepG, stepG.exec, stepG.apply, Sem.runT_eq, hr, Result.andThen, Frame.finish])
theorem st_endLoop {j : Option Code} (hr : (Instr.endLoop l).run P w = .ok j w') : step P (lone ⟨f, tm, .endRangeFunc l :: k, d, .run, kd, ro⟩ cs w) = .next (lone ⟨f, tm, (j.map Item.code).toList ++ k, d, .run, kd, ro⟩ cs w') := step_lone_go (by simp [stepG, stepG.exec, Sem.runT_eq, hr])
theorem st_collected {ds : List Deferred} (hr : (Instr.takeDeferred l).run P w = .ok [] w') : step P (lone ⟨f, tm, k, { target := .collected l, args := #[] } :: ds, .returning, kd, ro⟩ cs w) = .next (lone ⟨f, tm, k, ds, .returning, kd, ro⟩ cs w') := step_lone_go (by simp [stepG, unwind, Sem.runT_eq, hr])
end
theorem st_deferred {g : FuncId} {cap as : List Value} {ds : List Deferred} (hr : (callFunc g ⟨as ++ cap⟩).run P w = .ok (.enter g ⟨as ++ cap⟩) w) :
    step P (lone ⟨f, tm, k, { target := .fn (.func g) ⟨cap⟩, args := ⟨as⟩ } :: ds, .returning, kd, ro⟩ cs w) = .next (lone (Frame.enter P g ⟨as ++ cap⟩ .deferred) (⟨f, tm, k, ds, .returning, kd, ro⟩ :: cs) w) := by
  have hr' : (invoke (.fn (.func g) ⟨cap⟩) ⟨as⟩).run P w = .ok (.enter g ⟨as ++ cap⟩) w := by simpa [invoke] using hr
  exact step_lone_go (by simp [stepG, unwind, callDeferred, Sem.runT_eq, hr'])
theorem st_leaveD {cf : Frame} {fn : Func} {x : Value} (hm : cf.mode = .returning) (hd : cf.defers = []) (hk : cf.kind = .deferred) (hf : P.funcs[cf.fn]? = some fn) (hr : (results fn cf.tmps).run P w = .ok x w) (hc : c.mode = .returning) :
    step P (lone cf (c :: cs) w) = .next (lone c cs w) := step_lone_go (by simp [stepG, unwind, doReturn, hm, hd, hk, hf, hr, hc, Sem.runT_eq])
end

/-- an operation, a call carried out wholly -/
theorem apply_sound (hE : EnvOk P E) {rc : AF → H → Option (AV × H)} (hrc : RC P rc) (r : HRel σ h w.heap) {f : FuncId} {tm : Array Value} {it : Item} {k : List Item} {d : List Deferred} {kd : CallKind} {ro : Option Nat}
    (hit : ∀ q b s t, it ≠ .call q b s t) {s : Sem Next}
    (hg : ∀ cs, stepG P true { frame := ⟨f, tm, it :: k, d, .run, kd, ro⟩, callers := cs, status := .running, dying := none } w = stepG.apply P true ⟨f, tm, it :: k, d, .run, kd, ro⟩ cs none s w)
    {n : AN} {h₀ : H} (hn : NSim P σ h w s n h₀) (hst : stepA E rc (some (n, h₀)) = some (v, h')) :
    ∃ σ' w' x, conc σ' v = some x ∧ HRel σ' h' w'.heap ∧ Ext σ h w σ' h' w' ∧ ∀ cs, Steps P (lone ⟨f, tm, it :: k, d, .run, kd, ro⟩ cs w) (lone ((Frame.mk f tm (it :: k) d .run kd ro).finish x) cs w') := by
  cases n with
  | val u =>
    simp only [stepA] at hst; cases hst
    obtain ⟨σ', w', x, g1, g2, g3, g4⟩ := hn
    refine ⟨σ', w', x, g2, g3, g4, fun cs => .one (step_lone_go ?_)⟩
    rw [hg]
    rcases g1 with g1 | ⟨g1, rfl⟩ <;> simp [stepG.apply, g1, Sem.runT_eq]
  | enter g args =>
    simp only [stepA] at hst
    obtain ⟨rfl, xs, hxs, hr⟩ := hn
    obtain ⟨gr, h1, h2, h3, h4, h5, h6⟩ := enter_rel hE hst
    obtain ⟨σ', w', x, a1, a2, a3, a4⟩ := hrc gr _ _ _ h1 σ _ w (h6 σ xs hxs) r
    refine ⟨σ', w', x, a1, a2, a3, fun cs => ?_⟩
    simp only [Ends, h3] at a4
    obtain ⟨cf', s1, q1, q2, q3, q4, fn, q5, q6⟩ := a4 (⟨f, tm, it :: k, d, .run, kd, ro⟩ :: cs) (fun _ q => by rw [h4] at q; cases q)
    refine Steps.head (m₁ := lone (Frame.enter P g ⟨xs⟩ .normal) (⟨f, tm, it :: k, d, .run, kd, ro⟩ :: cs) w) (step_lone_go ?_) (Steps.trans s1 (.one ?_))
    · rw [hg]
      cases it <;> first | exact absurd rfl (hit _ _ _ _) | simp [stepG.apply, hr, Sem.runT_eq]
    · rw [h4] at q4
      exact step_leave_returned ⟨q2, q3, q4, fn, by rw [q1]; exact q5, q6⟩
  | round l args =>
    simp only [stepA] at hst
    obtain ⟨rfl, b, c, xs, hsl, hxs, hr⟩ := hn
    split at hst
    · rename_i st pend fn nt ltm ps a bd df hgl
      obtain ⟨b', c', x', h1, h2, h3⟩ := r.objs _ _ hgl
      rw [hsl] at h1; cases h1
      obtain ⟨tmps, kk, c2, rfl, ht, hdf⟩ := h3.inv_loop
      obtain ⟨tm', e1, e2, e3⟩ := setParams_rel hst
      have hsz : (⟨xs⟩ : Array Value).size = ps.size := by
        have := concL_length hxs
        simp at e2 ⊢; omega
      have hy := run_yield (P := P) (args := ⟨xs⟩) h2 hsz
      have hfold : (ps.zip (⟨xs⟩ : Array Value)).foldl (fun tmps (t, a) => tmps.setIfInBounds t a) tmps = parms ps.toList xs tmps := by
        rw [← parms_eq, ← Array.foldl_toList]; simp
      rw [hfold] at hy
      obtain ⟨σ', w', x, a1, a2, a3, a4⟩ := hrc _ _ _ _ e1 σ (Frame.round b fn (parms ps.toList xs tmps) a bd .normal) w
        ⟨rfl, e3 σ tmps xs ht hxs, ⟨rfl, trivial, rfl, trivial⟩, trivial, rfl, rfl, ⟨rfl, rfl, b, c, hsl, rfl⟩⟩ r
      refine ⟨σ', w', x, a1, a2, a3, fun cs => ?_⟩
      refine Steps.head (m₁ := lone (Frame.round b fn (parms ps.toList xs tmps) a bd .normal) (⟨f, tm, it :: k, d, .run, kd, ro⟩ :: cs) w) (step_lone_go ?_) (a4 _ _)
      rw [hg]
      rw [hy] at hr
      cases it <;> simp [stepG.apply, hr, Sem.runT_eq]
    · cases hst
  | defer g args => cases hst
  | recover => cases hst

end
end Go.Ev
