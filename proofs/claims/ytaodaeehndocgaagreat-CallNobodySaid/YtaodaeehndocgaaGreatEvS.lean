/- The evaluator's soundness: frames run to their ends. -/
import Derived.Test.YtaodaeehndocgaaGreatEvR
set_option linter.unusedSimpArgs false
set_option linter.unusedVariables false
namespace Go.Ev
open Go.Conc

section
variable {P : Program} {E : Env} {σ σ₁ : Sg} {w w₁ : World} {h h₁ h' : H} {fr fr₁ : AF} {cf cf₁ : Frame} {v : AV}

def modeOf (fr : AF) : FrameMode := if fr.ret then .returning else .run
def kindOf (fr : AF) : CallKind := if fr.deferred then .deferred else .normal
def roundRel (σ : Sg) (fr : AF) (ro : Option Nat) : Prop :=
  match fr.roundOf with
  | none => ro = none
  | some l => fr.deferred = false ∧ fr.ret = false ∧ ∃ b c, σ l = some (b, c) ∧ ro = some b
theorem FRel.inv (r : FRel σ fr cf) : ∃ tm k d ro, cf = ⟨fr.fn, tm, k, d, modeOf fr, kindOf fr, ro⟩ ∧ TRel σ fr.nt fr.tm tm ∧ KRel σ fr.todo k ∧ DLRel σ fr.defers d ∧ roundRel σ fr ro := by
  obtain ⟨f, tm, k, d, m, kd, ro⟩ := cf
  obtain ⟨h1, h2, h3, h4, h5, h6, h7⟩ := r
  simp only at h1 h2 h3 h4 h5 h6 h7
  subst h1 h5 h6
  refine ⟨tm, k, d, ro, rfl, h2, h3, h4, ?_⟩
  unfold roundRel
  exact h7
theorem FRel.mk' {tm : Array Value} {k : List Item} {d : List Deferred} {ro : Option Nat} (h2 : TRel σ fr.nt fr.tm tm) (h3 : KRel σ fr.todo k) (h4 : DLRel σ fr.defers d) (h7 : roundRel σ fr ro) :
    FRel σ fr ⟨fr.fn, tm, k, d, modeOf fr, kindOf fr, ro⟩ := by
  refine ⟨rfl, h2, h3, h4, rfl, rfl, ?_⟩
  unfold roundRel at h7
  exact h7
theorem roundRel.mono (hs : Sub σ σ₁) {ro : Option Nat} (r : roundRel σ fr ro) : roundRel σ₁ fr ro := by
  unfold roundRel at *
  cases hr : fr.roundOf with
  | none => simpa [hr] using r
  | some l => simp only [hr] at r ⊢; obtain ⟨h1, h2, b, c, h3, h4⟩ := r; exact ⟨h1, h2, b, c, hs _ _ h3, h4⟩

theorem Done.next {rc : AF → H → Option (AV × H)} (hrc : RC P rc) (hs : ∀ cs, okCs fr cs → Steps P (lone cf cs w) (lone cf₁ cs w₁)) (e1 : fr₁.fn = fr.fn) (e2 : fr₁.roundOf = fr.roundOf) (e3 : fr₁.deferred = fr.deferred)
    (hx : Ext σ h w σ₁ h₁ w₁) (hb : rc fr₁ h₁ = some (v, h')) (hf : FRel σ₁ fr₁ cf₁) (hh : HRel σ₁ h₁ w₁.heap) : Done P σ h w fr cf v h' :=
  (hrc _ _ _ _ hb σ₁ cf₁ w₁ hf hh).of_steps hs e1 e2 e3 hx

/-- a value taken by an operation of a region -/
theorem putK {fn : FuncId} {tm : Array Value} {k : List Item} {d : List Deferred} {kd : CallKind} {ro : Option Nat} {ops : Array Oper} {i : Nat} {rest : List Nat} {o : Oper} (ho : ops[i]? = some o) (x : Value) :
    (Frame.mk fn tm (.inRegion ops (i :: rest) :: k) d .run kd ro).finish x = ⟨fn, putT o.dst x tm, .inRegion ops rest :: k, d, .run, kd, ro⟩ := by
  rw [fin_op, ho]; rfl

theorem leave_sound {rc : AF → H → Option (AV × H)} (hrc : RC P rc) {jump : Option Code} (hb : leaveA rc fr jump h = some (v, h')) (hret : fr.ret = false)
    (hf : FRel σ fr cf) (r : HRel σ h w.heap)
    (hj : ∀ {tm : Array Value} {k : List Item} {d : List Deferred}, cf = ⟨fr.fn, tm, k, d, .run, kindOf fr, none⟩ → (jump = none ∨ jump = some .ret) → ∀ cs, step P (lone cf cs w) = .next (lone ⟨fr.fn, tm, k, d, .returning, kindOf fr, none⟩ cs w))
    (hl : ∀ {tm : Array Value} {k : List Item} {d : List Deferred} {l : Nat} {x : Value} {w' : World}, cf = ⟨fr.fn, tm, k, d, .run, .normal, some l⟩ → (Instr.endRound l jump).run P w = .ok x w' → ∀ c cs, step P (lone cf (c :: cs) w) = .next (lone (c.finish x) cs w')) :
    Done P σ h w fr cf v h' := by
  obtain ⟨tm, k, d, ro, rfl, h2, h3, h4, h7⟩ := hf.inv
  have hm : modeOf fr = .run := by simp [modeOf, hret]
  rw [hm] at hj hl ⊢
  unfold leaveA at hb
  cases hro : fr.roundOf with
  | none =>
    simp only [hro] at hb
    have hro' : ro = none := by simp only [roundRel, hro] at h7; exact h7
    subst hro'
    have key : rc { fr with ret := true } h = some (v, h') → (jump = none ∨ jump = some .ret) → Done P σ h w fr ⟨fr.fn, tm, k, d, .run, kindOf fr, none⟩ v h' := fun hb hjj =>
      Done.next hrc (fr₁ := { fr with ret := true }) (fun cs _ => .one (hj rfl hjj cs)) rfl rfl rfl (Ext.refl _ _ _) hb
        (FRel.mk' (fr := { fr with ret := true }) h2 h3 h4 (by simp only [roundRel, hro])) r
    cases jump with
    | none => simp only at hb; rw [← hro] at hb; exact key hb (.inl rfl)
    | some c => cases c <;> simp only at hb <;> first | (rw [← hro] at hb; exact key hb (.inr rfl)) | cases hb
  | some l =>
    simp only [hro, endRoundA] at hb
    have h7' := h7
    simp only [roundRel, hro] at h7'
    obtain ⟨hd, _, b, c, hs, rfl⟩ := h7'
    have hkd : kindOf fr = .normal := by simp [kindOf, hd]
    rw [hkd] at hl ⊢
    split at hb
    · rename_i st pend fn nt ltm ps a bd df hgl
      obtain ⟨b', c', x', g1, g2, g3⟩ := r.objs _ _ hgl
      rw [hs] at g1; cases g1
      obtain ⟨tmps, kk, c2, rfl, ht, hdf⟩ := g3.inv_loop
      simp only [putO_eq] at hb
      have hrun := run_endRound (P := P) jump g2
      have hput := put_set r hgl hs g2 (.loop (cond jump.isNone .ready .done) jump fn nt ltm ps a bd df)
        (.loop { state := if jump.isNone then .ready else .done, pending := jump, fn := fn, tmps := tmps, params := ps, assign := a, body := bd, defers := kk })
        ⟨by cases jump <;> rfl, rfl, rfl, ht, rfl, rfl, rfl, c2, hdf⟩
      cases hb
      refine ⟨σ, _, .bool jump.isNone, rfl, hput.1, hput.2, ?_⟩
      simp only [Ends, hro]
      intro c cs
      exact .one (hl rfl hrun c cs)
    · cases hb


theorem step_go_of {cf0 : Frame} {cs : List Frame} {w0 : World} {s : GStep} {fr' : Frame} {cs' : List Frame} {w' : World}
    (hg : (stepG P true { frame := cf0, callers := cs, status := .running, dying := none } w0).bare = s.bare)
    (h : s.bare = .go { frame := fr', callers := cs', status := .running, dying := none } w') : step P (lone cf0 cs w0) = .next (lone fr' cs' w') :=
  step_lone_go (hg.trans h)

/-- a call that is made at the begin of a range over a function -/
theorem apply_sound2 (hE : EnvOk P E) {rc : AF → H → Option (AV × H)} (hrc : RC P rc) (r : HRel σ h w.heap) {cf0 : Frame} {w0 : World} {f : FuncId} {tm : Array Value} {it : Item} {k : List Item} {d : List Deferred} {kd : CallKind} {ro : Option Nat}
    (hit : ∀ q b s t, it ≠ .call q b s t) {s : Sem Next}
    (hg : ∀ cs, (stepG P true { frame := cf0, callers := cs, status := .running, dying := none } w0).bare = (stepG.apply P true ⟨f, tm, it :: k, d, .run, kd, ro⟩ cs none s w).bare)
    {n : AN} {h₀ : H} (hn : NSim P σ h w s n h₀) (hst : stepA E rc (some (n, h₀)) = some (v, h')) :
    ∃ σ' w' x, conc σ' v = some x ∧ HRel σ' h' w'.heap ∧ Ext σ h w σ' h' w' ∧ ∀ cs, Steps P (lone cf0 cs w0) (lone ((Frame.mk f tm (it :: k) d .run kd ro).finish x) cs w') := by
  cases n with
  | val u =>
    simp only [stepA] at hst; cases hst
    obtain ⟨σ', w', x, g1, g2, g3, g4⟩ := hn
    refine ⟨σ', w', x, g2, g3, g4, fun cs => .one (step_go_of (hg cs) ?_)⟩
    rcases g1 with g1 | ⟨g1, rfl⟩ <;> simp [stepG.apply, g1, Sem.runT_eq]
  | enter g args =>
    simp only [stepA] at hst
    obtain ⟨rfl, xs, hxs, hr⟩ := hn
    obtain ⟨gr, h1, h2, h3, h4, h5, h6⟩ := enter_rel hE hst
    obtain ⟨σ', w', x, a1, a2, a3, a4⟩ := hrc gr _ _ _ h1 σ _ w (h6 σ xs hxs) r
    refine ⟨σ', w', x, a1, a2, a3, fun cs => ?_⟩
    simp only [Ends, h3] at a4
    obtain ⟨cf', s1, q1, q2, q3, q4, fn, q5, q6⟩ := a4 (⟨f, tm, it :: k, d, .run, kd, ro⟩ :: cs) (fun _ q => by rw [h4] at q; cases q)
    refine Steps.head (m₁ := lone (Frame.enter P g ⟨xs⟩ .normal) (⟨f, tm, it :: k, d, .run, kd, ro⟩ :: cs) w) (step_go_of (hg cs) ?_) (Steps.trans s1 (.one ?_))
    · cases it <;> first | exact absurd rfl (hit _ _ _ _) | simp [stepG.apply, hr, Sem.runT_eq]
    · rw [h4] at q4
      exact step_leave_returned ⟨q2, q3, q4, fn, by rw [q1]; exact q5, q6⟩
  | round l args =>
    simp only [stepA] at hst
    obtain ⟨rfl, b, c, xs, hsl, hxs, hr⟩ := hn
    split at hst
    · rename_i st pend fn nt ltm ps a bd df hgl
      obtain ⟨b', c', x', h1, h2, h3⟩ := r.objs _ _ hgl
      rw [hsl] at h1; cases h1
      obtain ⟨tmps, kk, c2, rfl, ht, hdf⟩ := h3.inv_loop
      obtain ⟨tm', e1, e2, e3⟩ := setParams_rel hst
      have hsz : (⟨xs⟩ : Array Value).size = ps.size := by
        have := concL_length hxs
        simp at e2 ⊢; omega
      have hy := run_yield (P := P) (args := ⟨xs⟩) h2 hsz
      have hfold : (ps.zip (⟨xs⟩ : Array Value)).foldl (fun tmps (t, a) => tmps.setIfInBounds t a) tmps = parms ps.toList xs tmps := by
        rw [← parms_eq, ← Array.foldl_toList]; simp
      rw [hfold] at hy
      obtain ⟨σ', w', x, a1, a2, a3, a4⟩ := hrc _ _ _ _ e1 σ (Frame.round b fn (parms ps.toList xs tmps) a bd .normal) w
        ⟨rfl, e3 σ tmps xs ht hxs, ⟨rfl, trivial, rfl, trivial⟩, trivial, rfl, rfl, ⟨rfl, rfl, b, c, hsl, rfl⟩⟩ r
      refine ⟨σ', w', x, a1, a2, a3, fun cs => ?_⟩
      refine Steps.head (m₁ := lone (Frame.round b fn (parms ps.toList xs tmps) a bd .normal) (⟨f, tm, it :: k, d, .run, kd, ro⟩ :: cs) w) (step_go_of (hg cs) ?_) (a4 _ _)
      rw [hy] at hr
      cases it <;> simp [stepG.apply, hr, Sem.runT_eq]
    · cases hst
  | defer g args => cases hst
  | recover => cases hst

theorem run_enterLoop_inner {l : Nat} {r : Loop} (hl : w.heap[l]? = some (.loop r)) (fn : FuncId) (tmps : Array Value) (ps : Array Tmp) (assign body : Code) :
    (Instr.enterLoop fn tmps ps assign body (some l)).run P w =
      .ok (w.heap.size, []) (w.alloc (.loop { state := .ready, pending := none, fn, tmps, params := ps, assign, body, defers := r.defers })) := by
  unfold Instr.enterLoop
  simp only [Sem.run_bind, run_newObj_alloc, Result.andThen, Sem.run_pure, run_getLoop hl]

theorem st_range {fn : FuncId} {tm : Array Value} {k : List Item} {d : List Deferred} {kd : CallKind} {ro : Option Nat} {cs : List Frame} {f : Operand} {ps : Array Tmp} {a b : Code} {l : Nat} {mark : List Deferred}
    (he : (Instr.enterLoop fn tm ps a b ro).run P w = .ok (l, mark) w₁) :
    (stepG P true { frame := ⟨fn, tm, .code (.rangeFunc f ps a b) :: k, d, .run, kd, ro⟩, callers := cs, status := .running, dying := none } w).bare =
      (stepG.apply P true ⟨fn, tm, .inRangeFunc l :: k, mark ++ d, .run, kd, ro⟩ cs none
        (do let d ← resolve (evT tm) { callee := .value f, args := #[.const (.func (.yield l) #[] #[])], argTypes := #[] } 0; invoke d.target d.args) w₁).bare := by
  have e := eval_evT (Frame.mk fn tm (.inRangeFunc l :: k) (mark ++ d) .run kd ro)
  simp only at e
  simp only [stepG, stepG.exec, Sem.runT_eq, he, GStep.bare_after, e]

theorem alloc_both (r : HRel σ h w.heap) (o : AObj) (x : Obj) (c : Nat) (hx : ORel (upd σ h.next (w.heap.size, c)) c o x) :
    HRel (upd σ h.next (w.heap.size, c)) ⟨h.next + 1, T.set (some o) h.t h.next⟩ (w.alloc x).heap ∧
    Ext σ h w (upd σ h.next (w.heap.size, c)) ⟨h.next + 1, T.set (some o) h.t h.next⟩ (w.alloc x) :=
  ⟨(r.alloc o x c hx).1, (r.alloc o x c hx).2 _ rfl rfl rfl rfl⟩

/-- a range over a function, its record laid -/
theorem range_go (hE : EnvOk P E) {rc : AF → H → Option (AV × H)} (hrc : RC P rc) (r : HRel σ h w.heap) {f : Operand} {params : Array Tmp} {assign body : Code} {k : List AItem} {df : Nat} {mark : List ADf}
    {tm : Array Value} {k' : List Item} {d : List Deferred} {ro : Option Nat} {fv : AV} {kk c0 : Nat}
    (h2 : TRel σ fr.nt fr.tm tm) (h3 : KRel σ k k') (h4 : DLRel σ (mark ++ fr.defers) d) (h7 : roundRel σ fr ro) (hret : fr.ret = false) (hdf : σ df = some (kk, c0)) (hfv : aev fr.tm f = some fv)
    {w0 : World} {cf0 : Frame}
    (hg : ∀ cs, (stepG P true { frame := cf0, callers := cs, status := .running, dying := none } w0).bare =
      (stepG.apply P true ⟨fr.fn, tm, .inRangeFunc w.heap.size :: k', d, .run, kindOf fr, ro⟩ cs none
        (do let d ← resolve (evT tm) { callee := .value f, args := #[.const (.func (.yield w.heap.size) #[] #[])], argTypes := #[] } 0; invoke d.target d.args)
        (w.alloc (.loop { state := .ready, pending := none, fn := fr.fn, tmps := tm, params := params, assign := assign, body := body, defers := kk }))).bare)
    (hb : (match stepA E rc (valueCallA E fv [.yield h.next] ⟨h.next + 1, T.set (some (.loop .ready none fr.fn fr.nt fr.tm params assign body df)) h.t h.next⟩) with
        | some (_, h₂) => rc { fr with todo := .endRangeFunc h.next :: k, defers := mark ++ fr.defers } h₂
        | none => none) = some (v, h')) :
    ∃ σ₁ h₁ w₁ cf₁, (∀ cs, Steps P (lone cf0 cs w0) (lone cf₁ cs w₁)) ∧ Ext σ h w σ₁ h₁ w₁ ∧ HRel σ₁ h₁ w₁.heap ∧
      rc { fr with todo := .endRangeFunc h.next :: k, defers := mark ++ fr.defers } h₁ = some (v, h') ∧ FRel σ₁ { fr with todo := .endRangeFunc h.next :: k, defers := mark ++ fr.defers } cf₁ := by
  have hs1 : Sub σ (upd σ h.next (w.heap.size, 0)) := sub_upd _ (r.fresh _ (Nat.le_refl _))
  obtain ⟨g1, g2⟩ := alloc_both r (.loop .ready none fr.fn fr.nt fr.tm params assign body df)
    (.loop { state := .ready, pending := none, fn := fr.fn, tmps := tm, params := params, assign := assign, body := body, defers := kk }) 0
    ⟨rfl, rfl, rfl, h2.mono hs1, rfl, rfl, rfl, c0, hs1 _ _ hdf⟩
  cases hst : stepA E rc (valueCallA E fv [.yield h.next] ⟨h.next + 1, T.set (some (.loop .ready none fr.fn fr.nt fr.tm params assign body df)) h.t h.next⟩) with
  | none => rw [hst] at hb; cases hb
  | some p =>
    obtain ⟨u, h₂⟩ := p
    rw [hst] at hb; simp only at hb
    cases hv : valueCallA E fv [.yield h.next] ⟨h.next + 1, T.set (some (.loop .ready none fr.fn fr.nt fr.tm params assign body df)) h.t h.next⟩ with
    | none => rw [hv] at hst; cases hst
    | some q =>
      obtain ⟨n, h₀⟩ := q
      rw [hv] at hst
      have hcf := aev_sound (h2.mono hs1) hfv
      have hy : concL (upd σ h.next (w.heap.size, 0)) [.yield h.next] = some [.func (.yield w.heap.size) #[] #[]] := concL_one.2 (by simp [conc, upd_self])
      obtain ⟨dd, e1, e2⟩ := valueCall_sound hE g1 hcf hy hv
      have hn : NSim P (upd σ h.next (w.heap.size, 0)) ⟨h.next + 1, T.set (some (.loop .ready none fr.fn fr.nt fr.tm params assign body df)) h.t h.next⟩
          (w.alloc (.loop { state := .ready, pending := none, fn := fr.fn, tmps := tm, params := params, assign := assign, body := body, defers := kk }))
          (do let d ← resolve (evT tm) { callee := .value f, args := #[.const (.func (.yield w.heap.size) #[] #[])], argTypes := #[] } 0; invoke d.target d.args) n h₀ := by
        refine e2.congr ?_
        have e1' := e1 (w.alloc (.loop { state := .ready, pending := none, fn := fr.fn, tmps := tm, params := params, assign := assign, body := body, defers := kk }))
        simp [resolve, evT, Act.eval] at e1' ⊢
        rw [e1']
        simp [Result.andThen]
      obtain ⟨σ', w', x, a1, a2, a3, a4⟩ := apply_sound2 hE hrc g1 (by intro _ _ _ _ q; cases q) hg hn hst
      have hsub2 : Sub (upd σ h.next (w.heap.size, 0)) σ' := a3.sub g1
      refine ⟨σ', h₂, w', _, a4, g2.trans a3, a2, hb, ?_⟩
      have hm : modeOf fr = .run := by simp [modeOf, hret]
      have hsub := hs1.trans hsub2
      have := FRel.mk' (fr := { fr with todo := .endRangeFunc h.next :: k, defers := mark ++ fr.defers }) (σ := σ') (tm := tm) (k := .endRangeFunc w.heap.size :: k') (d := d) (ro := ro)
        (h2.mono hsub) ⟨⟨0, hsub2 _ _ (upd_self _ _ _)⟩, h3.mono hsub⟩ (h4.mono hsub) (roundRel.mono (fr := fr) hsub h7)
      simpa [Frame.finish, modeOf, hret, kindOf] using this

end
end Go.Ev
