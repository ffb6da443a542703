/- The evaluator's soundness: one stretch of a frame's run. -/
import Derived.Test.YtaodaeehndocgaaGreatEvS
set_option linter.unusedSimpArgs false
set_option linter.unusedVariables false
namespace Go.Ev
open Go.Conc

section
variable {P : Program} {E : Env} {σ σ₁ : Sg} {w w₁ : World} {h h₁ h' : H} {fr fr₁ : AF} {cf cf₁ : Frame} {v : AV}

theorem drop_range {n i : Nat} (hi : i < n) : (List.range n).drop i = i :: (List.range n).drop (i + 1) := by
  rw [List.drop_eq_getElem_cons (by simpa using hi)]; simp

theorem effA_noDefer {o : Op} {vs : List AV} {n : AN} {h₀ : H} {c : Call} (ho : o = .defer c) (he : effA E o vs h = some (n, h₀)) : ∃ f args, n = .defer f args := by
  subst ho
  cases vs with
  | nil => simp only [effA] at he; cases he
  | cons f args =>
    simp only [effA] at he
    split at he
    · simp only [fL_eq] at he
      repeat (first | (cases he; exact ⟨_, _, rfl⟩) | split at he)
      all_goals (first | (cases he; exact ⟨_, _, rfl⟩) | cases he)
    · cases he

theorem ops_sound2 (hE : EnvOk P E) {rc rcN : AF → H → Option (AV × H)} (hrc : RC P rc) {ops : Array Oper} {o : Oper} {rest : List Oper} {k : List AItem} (ht : fr.todo = .ops ops (o :: rest) :: k) (hret : fr.ret = false)
    (hnx : ∀ fr' h₁, fr'.todo = .ops ops rest :: k → fr'.ret = false → rcN fr' h₁ = some (v, h') → ∀ σ cf w, FRel σ fr' cf → HRel σ h₁ w.heap → Done P σ h₁ w fr' cf v h')
    (hb : opsA2 E rc rcN fr h ops o rest k = some (v, h')) (hf : FRel σ fr cf) (r : HRel σ h w.heap) : Done P σ h w fr cf v h' := by
  obtain ⟨tm, tk, d, ro, rfl, h2, h3, h4, h7⟩ := hf.inv
  have hm : modeOf fr = .run := by simp [modeOf, hret]
  rw [hm]
  rw [ht] at h3
  obtain ⟨it, k', rfl, hi, hk3⟩ := h3.cons; clear h3
  have h3 := hk3
  cases it <;> simp only [IRel] at hi
  rename_i ops' todo
  obtain ⟨rfl, i, rfl, hrest⟩ := hi
  have hlt : i < ops'.size := by
    rcases Nat.lt_or_ge i ops'.size with q | q
    · exact q
    · rw [List.drop_eq_nil_of_le (by simpa using q)] at hrest; cases hrest
  have hsp : ops'[i]? = some o ∧ rest = ops'.toList.drop (i + 1) := by
    rw [List.drop_eq_getElem_cons (by simpa using hlt)] at hrest
    cases hrest
    exact ⟨by simp [hlt], rfl⟩
  obtain ⟨ho, hrest'⟩ := hsp
  rw [drop_range hlt]
  have hI : ∀ σ', IRel σ' (.ops ops' rest) (.inRegion ops' ((List.range ops'.size).drop (i + 1))) := fun _ => ⟨rfl, i + 1, rfl, hrest'⟩
  have hwa := wanted_sound h2 ops' o
  -- what is left behind a value
  have go : ∀ {σ₁ : Sg} {w₁ : World} {h₁ : H} {u : AV} {x : Value}, conc σ₁ u = some x → HRel σ₁ h₁ w₁.heap → Ext σ h w σ₁ h₁ w₁ →
      (∀ cs, okCs fr cs → Steps P (lone ⟨fr.fn, tm, .inRegion ops' (i :: (List.range ops'.size).drop (i + 1)) :: k', d, .run, kindOf fr, ro⟩ cs w)
        (lone ⟨fr.fn, putT o.dst x tm, .inRegion ops' ((List.range ops'.size).drop (i + 1)) :: k', d, .run, kindOf fr, ro⟩ cs w₁)) →
      putDst fr.nt o.dst u fr.tm (fun tm => rcN { fr with tm := tm, todo := .ops ops' rest :: k } h₁) = some (v, h') →
      Done P σ h w fr ⟨fr.fn, tm, .inRegion ops' (i :: (List.range ops'.size).drop (i + 1)) :: k', d, .run, kindOf fr, ro⟩ v h' := by
    intro σ₁ w₁ h₁ u x hx hr hxt hs hp
    obtain ⟨tm', e1, e2⟩ := putDst_eq hp
    have hsub := hxt.sub r
    refine (hnx { fr with tm := tm', todo := .ops ops' rest :: k } _ rfl hret e1 σ₁ _ _ ?_ hr).of_steps hs rfl rfl rfl hxt
    have := FRel.mk' (fr := { fr with tm := tm', todo := .ops ops' rest :: k }) (σ := σ₁) (tm := putT o.dst x tm) (k := .inRegion ops' ((List.range ops'.size).drop (i + 1)) :: k') (d := d) (ro := ro)
      (e2 σ₁ tm x (h2.mono hsub) hx) ⟨hI σ₁, h3.mono hsub⟩ (h4.mono hsub) (roundRel.mono (fr := fr) hsub h7)
    simpa [modeOf, hret, kindOf] using this
  unfold opsA2 at hb
  cases hw : wantedA ops' fr.tm o with
  | false =>
    rw [hw] at hb hwa; simp only [cond_false] at hb
    exact go (conc_undef σ) r (Ext.refl _ _ _) (fun cs _ => .one (st_opSkip ho hwa.symm)) hb
  | true =>
    rw [hw] at hb hwa; simp only [cond_true] at hb
    cases hvs : aevL fr.tm o.op.operands.toList with
    | none => rw [hvs] at hb; cases hb
    | some vs =>
      rw [hvs] at hb; simp only at hb
      have hv := aevL_sound h2 hvs
      cases hc : isComm o.op with
      | true =>
        rw [hc] at hb; simp only [cond_true] at hb
        cases hcm : commA E o.op vs h with
        | none => rw [hcm] at hb; cases hb
        | some p =>
          obtain ⟨u, h₁⟩ := p
          rw [hcm] at hb; simp only at hb
          have hnd : ∀ c, o.op ≠ .defer c := fun c q => by rw [q] at hc; cases hc
          obtain ⟨w', x, a1, a2, a3, a4⟩ := comm_sound hE r hv hcm (cf := ⟨fr.fn, tm, .inRegion ops' (i :: (List.range ops'.size).drop (i + 1)) :: k', d, .run, kindOf fr, ro⟩)
            (fun cs => by
              have := stG_op (P := P) (w := w) (f := fr.fn) (tm := tm) (k := k') (d := d) (kd := kindOf fr) (ro := ro) (cs := cs) (rest := (List.range ops'.size).drop (i + 1)) ho hwa.symm (.inr hnd)
              simpa [G] using this)
          refine go a1 a2 a3 (fun cs _ => ?_) hb
          have := a4 cs
          rw [putK ho] at this; exact this
      | false =>
        rw [hc] at hb; simp only [cond_false] at hb
        cases hl : lightA E o.op vs h with
        | some u =>
          rw [hl] at hb; simp only at hb
          obtain ⟨x, a1, a2⟩ := light_sound hE r hv hl
          have hnd : ∀ c, o.op ≠ .defer c := fun c q => by rw [q] at hl; cases hl
          refine go a2 r (Ext.refl _ _ _) (fun cs _ => .one (step_lone_go ?_)) hb
          rw [stG_op ho hwa.symm (.inr hnd), ← putK ho]
          simp [stepG.apply, a1, Sem.runT_eq]
        | none =>
          rw [hl] at hb; simp only at hb
          cases he : effA E o.op vs h with
          | none => rw [he] at hb; simp only [stepA] at hb; cases hb
          | some p =>
            obtain ⟨n, h₀⟩ := p
            have hs := eff_sound hE r hv he
            have ord : (∀ f args, n ≠ .defer f args) → ∀ u h₁, stepA E rc (some (n, h₀)) = some (u, h₁) →
                putDst fr.nt o.dst u fr.tm (fun tm => rcN { fr with tm := tm, todo := .ops ops' rest :: k } h₁) = some (v, h') →
                Done P σ h w fr ⟨fr.fn, tm, .inRegion ops' (i :: (List.range ops'.size).drop (i + 1)) :: k', d, .run, kindOf fr, ro⟩ v h' := by
              intro hnd u h₁ hst hb
              have hnd' : ∀ c, o.op ≠ .defer c := fun c q => by
                obtain ⟨f, args, e⟩ := effA_noDefer q he
                exact hnd f args e
              obtain ⟨σ', w', x, a1, a2, a3, a4⟩ := apply_sound hE hrc r (f := fr.fn) (tm := tm) (it := .inRegion ops' (i :: (List.range ops'.size).drop (i + 1))) (k := k') (d := d) (kd := kindOf fr) (ro := ro)
                (by intro _ _ _ _ q; cases q) (fun cs => stG_op ho hwa.symm (.inr hnd')) hs hst
              refine go a1 a2 a3 (fun cs _ => ?_) hb
              have := a4 cs
              rw [putK ho] at this; exact this
            rw [he] at hb
            cases n with
            | defer f args =>
              simp only at hb
              cases hro : fr.roundOf with
              | some l => rw [hro] at hb; cases hb
              | none =>
                rw [hro] at hb; simp only at hb
                have hro' : ro = none := by simpa [roundRel, hro] using h7
                subst hro'
                obtain ⟨rfl, cap, as, c1, c2⟩ := hs
                obtain ⟨tm', e1, e2⟩ := putDst_eq hb
                rw [← hro] at e1
                have hfr := FRel.mk' (fr := { fr with tm := tm', todo := .ops ops' rest :: k, defers := .call f args :: fr.defers }) (σ := σ) (tm := putT o.dst undef tm) (k := .inRegion ops' ((List.range ops'.size).drop (i + 1)) :: k')
                    (d := { target := .fn (.func f) ⟨cap⟩, args := ⟨as⟩ } :: d) (ro := none)
                    (e2 σ tm undef h2 (conc_undef σ)) ⟨hI σ, h3⟩ ⟨⟨cap, as, c1, rfl⟩, h4⟩ h7
                refine (hnx { fr with tm := tm', todo := .ops ops' rest :: k, defers := .call f args :: fr.defers } _ rfl hret e1 σ
                  ⟨fr.fn, putT o.dst undef tm, .inRegion ops' ((List.range ops'.size).drop (i + 1)) :: k', { target := .fn (.func f) ⟨cap⟩, args := ⟨as⟩ } :: d, .run, kindOf fr, none⟩ w
                  (by simpa [modeOf, hret, kindOf] using hfr) r).of_steps
                  (fun cs _ => .one (step_lone_go ?_)) rfl rfl rfl (Ext.refl _ _ _)
                rw [stG_op ho hwa.symm (.inl rfl)]
                have := putK (fn := fr.fn) (tm := tm) (k := k') (d := { target := .fn (.func f) ⟨cap⟩, args := ⟨as⟩ } :: d) (kd := kindOf fr) (ro := none) (ops := ops') (rest := (List.range ops'.size).drop (i + 1)) ho undef
                simp only [stepG.apply, Sem.runT_eq, c2, GStep.bare_after, ← this]
                rfl
            | recover =>
              simp only at hb
              cases hd : fr.deferred with
              | false => rw [hd] at hb; cases hb
              | true =>
                rw [hd] at hb; simp only [cond_true] at hb
                cases hro : fr.roundOf with
                | some l => rw [hro] at hb; cases hb
                | none =>
                  rw [hro] at hb; simp only at hb
                  have hro' : ro = none := by simpa [roundRel, hro] using h7
                  subst hro'
                  obtain ⟨rfl, c1⟩ := hs
                  rw [← hro, ← hd] at hb
                  refine go (u := .nilIface) (x := .nilIface) (by rfl) r (Ext.refl _ _ _) (fun cs hcs => .one (step_lone_go ?_)) hb
                  obtain ⟨c, cs', rfl, hcm⟩ := hcs hro hd
                  rw [stG_op ho hwa.symm (.inl rfl), ← putK ho]
                  have hkd : kindOf fr = .deferred := by simp [kindOf, hd]
                  simp [stepG.apply, c1, Sem.runT_eq, tryRecover, hkd, hcm]
            | val u => 
              simp only at hb
              split at hb
              · rename_i u' h₁ hst
                exact ord (by intro _ _ q; cases q) _ _ hst hb
              · cases hb
            | enter f args =>
              simp only at hb
              split at hb
              · rename_i u' h₁ hst
                exact ord (by intro _ _ q; cases q) _ _ hst hb
              · cases hb
            | round l args =>
              simp only at hb
              split at hb
              · rename_i u' h₁ hst
                exact ord (by intro _ _ q; cases q) _ _ hst hb
              · cases hb

theorem ops_sound (hE : EnvOk P E) {rc : AF → H → Option (AV × H)} (hrc : RC P rc) {ops : Array Oper} {o : Oper} {rest : List Oper} {k : List AItem} (ht : fr.todo = .ops ops (o :: rest) :: k) (hret : fr.ret = false)
    (hb : opsA E rc fr h ops o rest k = some (v, h')) (hf : FRel σ fr cf) (r : HRel σ h w.heap) : Done P σ h w fr cf v h' :=
  ops_sound2 hE hrc ht hret (fun fr' h₁ _ _ hb' σ cf w hf' hh' => hrc fr' h₁ v h' hb' σ cf w hf' hh') hb hf r

/-- what is owed of regions that draw their order -/
def DrawOk (P : Program) (E : Env) : Prop :=
  ∀ {rc : AF → H → Option (AV × H)}, RC P rc → ∀ {fr : AF} {h h' : H} {v : AV} {id : Nat} {ops : Array Oper} {k : List AItem} {σ : Sg} {cf : Frame} {w : World},
    fr.todo = .code (.region id ops true) :: k → fr.ret = false → codeA E rc fr h (.region id ops true) k = some (v, h') → FRel σ fr cf → HRel σ h w.heap → Done P σ h w fr cf v h'

theorem code_sound (hE : EnvOk P E) (hD : DrawOk P E) {rc : AF → H → Option (AV × H)} (hrc : RC P rc) {c : Code} {k : List AItem} (ht : fr.todo = .code c :: k) (hret : fr.ret = false)
    (hb : codeA E rc fr h c k = some (v, h')) (hf : FRel σ fr cf) (r : HRel σ h w.heap) : Done P σ h w fr cf v h' := by
  have hf0 := hf
  obtain ⟨tm, tk, d, ro, rfl, h2, h3, h4, h7⟩ := hf.inv
  have hm : modeOf fr = .run := by simp [modeOf, hret]
  rw [hm] at hf0 ⊢
  rw [ht] at h3
  obtain ⟨it, k', rfl, hi, hk3⟩ := h3.cons; clear h3
  have h3 := hk3
  cases it <;> simp only [IRel] at hi
  subst hi
  rename_i c
  have go : ∀ {l : List AItem} {l' : List Item}, rc { fr with todo := l } h = some (v, h') → KRel σ l l' →
      (∀ cs, step P (lone ⟨fr.fn, tm, .code c :: k', d, .run, kindOf fr, ro⟩ cs w) = .next (lone ⟨fr.fn, tm, l', d, .run, kindOf fr, ro⟩ cs w)) →
      Done P σ h w fr ⟨fr.fn, tm, .code c :: k', d, .run, kindOf fr, ro⟩ v h' := by
    intro l l' hb hk hs
    refine Done.next hrc (fr₁ := { fr with todo := l }) (fun cs _ => .one (hs cs)) rfl rfl rfl (Ext.refl _ _ _) hb ?_ r
    have := FRel.mk' (fr := { fr with todo := l }) (σ := σ) (tm := tm) (k := l') (d := d) (ro := ro) h2 hk h4 h7
    simpa [modeOf, hret, kindOf] using this
  cases c with
  | ret =>
    refine leave_sound hrc hb hret hf0 r ?_ ?_
    · intro tm' k₁ d' e _ cs
      cases e; exact st_ret
    · intro tm' k₁ d' l x w' e hr c cs
      simp only [Frame.mk.injEq] at e
      obtain ⟨_, rfl, rfl, rfl, _, hk, rfl⟩ := e
      rw [hk]; exact st_roundRet hr
  | skip => exact go hb h3 fun cs => st_skip
  | label l => exact go hb h3 fun cs => st_label
  | seq a b => exact go (l' := .code a :: .code b :: k') hb ⟨rfl, rfl, h3⟩ fun cs => st_seq
  | cond c a b =>
    simp only [codeA] at hb
    split at hb
    · rename_i t hc
      have := aev_sound h2 hc
      simp only [conc, Option.some.injEq] at this
      exact go (l' := .code (cond t a b) :: k') hb ⟨rfl, h3⟩ fun cs => st_cond this.symm
    · cases hb
  | block id body => exact go (l' := .code body :: .inBlock id :: k') hb ⟨rfl, rfl, h3⟩ fun cs => st_block
  | loop body => exact go (l' := .code body :: .inLoop body :: k') hb ⟨rfl, rfl, h3⟩ fun cs => st_loop
  | scope body => exact go (l' := .code body :: .inScope body :: k') hb ⟨rfl, rfl, h3⟩ fun cs => st_scope
  | exit id =>
    simp only [codeA] at hb
    have hx := exit_sound id h3
    cases he : exitToA id k with
    | some k₁ =>
      rw [he] at hb hx
      obtain ⟨l', q1, q2⟩ := hx
      exact go hb q2 fun cs => st_exit q1
    | none =>
      rw [he] at hb hx
      refine leave_sound hrc hb hret hf0 r ?_ ?_
      · intro tm' k₁ d' e hj
        rcases hj with hj | hj <;> cases hj
      · intro tm' k₁ d' l x w' e hr c cs
        simp only [Frame.mk.injEq] at e
        obtain ⟨_, rfl, rfl, rfl, _, hk, rfl⟩ := e
        rw [hk]; exact st_roundExit hx hr
  | goto id =>
    simp only [codeA] at hb
    have hx := goto_sound id h3
    cases he : gotoInA id k with
    | some k₁ =>
      rw [he] at hb hx
      obtain ⟨l', q1, q2⟩ := hx
      exact go hb q2 fun cs => st_goto q1
    | none =>
      rw [he] at hb hx
      refine leave_sound hrc hb hret hf0 r ?_ ?_
      · intro tm' k₁ d' e hj
        rcases hj with hj | hj <;> cases hj
      · intro tm' k₁ d' l x w' e hr c cs
        simp only [Frame.mk.injEq] at e
        obtain ⟨_, rfl, rfl, rfl, _, hk, rfl⟩ := e
        rw [hk]; exact st_roundGoto hx hr
  | region id ops draw =>
    cases draw with
    | true => exact hD hrc ht hret hb hf0 r
    | false =>
      simp only [codeA, cond_false] at hb
      exact go (l' := .inRegion ops (List.range ops.size) :: k') hb ⟨⟨rfl, 0, rfl, rfl⟩, h3⟩ fun cs => st_region
  | rangeFunc f params assign body =>
    simp only [codeA] at hb
    cases hro : fr.roundOf with
    | some l =>
      rw [hro] at hb; simp only at hb
      have h7' := h7
      simp only [roundRel, hro] at h7'
      obtain ⟨_, _, b, c0, hs, rfl⟩ := h7'
      split at hb
      · rename_i st pend fn nt ltm ps a bd df hgl
        obtain ⟨b', c', x', g1, g2, g3⟩ := r.objs _ _ hgl
        rw [hs] at g1; cases g1
        obtain ⟨tmps, kk, c2, rfl, ht', hdf⟩ := g3.inv_loop
        simp only [newO_eq] at hb
        split at hb
        · rename_i fv hfv
          rw [← hro] at hb
          obtain ⟨σ₁, h₁, w₁, cf₁, a1, a2, a3, a4, a5⟩ := range_go hE hrc r (k := k) (mark := []) (df := df) (kk := kk) h2 h3 h4 h7 hret hdf hfv (fun cs => st_range (mark := []) (run_enterLoop_inner g2 _ _ _ _ _)) hb
          exact Done.next hrc (fr₁ := { fr with todo := .endRangeFunc h.next :: k, defers := [] ++ fr.defers }) (fun cs _ => a1 cs) rfl rfl rfl a2 a4 a5 a3
        · cases hb
      · cases hb
    | none =>
      rw [hro] at hb; simp only at hb
      have hro' : ro = none := by simpa [roundRel, hro] using h7
      subst hro'
      simp only [newO_eq] at hb
      split at hb
      · rename_i fv hfv
        rw [← hro] at hb
        have hs1 : Sub σ (upd σ h.next (w.heap.size, 0)) := sub_upd _ (r.fresh _ (Nat.le_refl _))
        obtain ⟨g1, g2⟩ := alloc_both r .deferred (.deferred (some [])) 0 rfl
        have hm4 : DLRel (upd σ h.next (w.heap.size, 0)) ([ADf.collected h.next] ++ fr.defers) ([{ target := .collected w.heap.size, args := #[] }] ++ d) :=
          ⟨⟨w.heap.size, 0, upd_self _ _ _, rfl⟩, h4.mono hs1⟩
        obtain ⟨σ₁, h₁, w₁, cf₁, a1, a2, a3, a4, a5⟩ := range_go hE hrc g1 (k := k) (mark := [.collected h.next]) (df := h.next) (kk := w.heap.size) (h2.mono hs1) (h3.mono hs1) hm4 (roundRel.mono (fr := fr) hs1 h7) hret (upd_self _ _ _) hfv
          (fun cs => st_range (mark := [{ target := .collected w.heap.size, args := #[] }]) (by
            have := run_enterLoop_outer (P := P) (w := w) fr.fn tm params assign body
            simpa using this)) hb
        exact Done.next hrc (fr₁ := { fr with todo := .endRangeFunc (h.next + 1) :: k, defers := [.collected h.next] ++ fr.defers }) (fun cs _ => a1 cs) rfl rfl rfl (g2.trans a2) a4 a5 a3
      · cases hb
  | refuse s => cases hb

def resS (tmps : Array Value) : ResultVar → Sem Value
  | .tmp t => pure (tmps.getD t undef)
  | .cell a t => do loadVar t (← asAddr (tmps.getD a undef))
theorem results_resS (fn : Func) (tmps : Array Value) : results fn tmps = (do
    let vs ← fn.results.mapM (resS tmps)
    pure (if h : vs.size = 1 then vs[0] else .tuple vs)) := by
  unfold results
  congr 1
theorem resultA_sound (hE : EnvOk P E) {nt : Nat} {tm : T AV} {tmps : Array Value} (ht : TRel σ nt tm tmps) (r : HRel σ h w.heap) {x : ResultVar} {u : AV} (hx : resultA E tm h x = some u) :
    ∃ y, (resS tmps x).run P w = .ok y w ∧ conc σ u = some y := by
  cases x with
  | tmp t =>
    simp only [resultA] at hx
    have := aev_sound ht hx
    exact ⟨_, rfl, by rw [this]; simp [evT, Act.eval]⟩
  | cell a t =>
    simp only [resultA] at hx
    split at hx
    · rename_i i o x hg hte
      obtain ⟨y, e1, e2⟩ := ht.get hg
      obtain ⟨b, c, s1, rfl⟩ := conc_ptr e2
      obtain ⟨z, f1, f2⟩ := load_sound (hE.ts _ _ hte) r hx s1
      refine ⟨z, ?_, f2⟩
      have : tmps.getD a undef = .pointer (some ⟨b, o, none⟩) := by simp [Array.getD_eq_getD_getElem?, e1]
      simp only [resS, this]
      simp only [Sem.run_bind, asAddr, Sem.run_pure, Result.andThen_ok]
      exact f1
    · cases hx

theorem resultsA_sound (hE : EnvOk P E) {nt : Nat} {tm : T AV} {tmps : Array Value} (ht : TRel σ nt tm tmps) (r : HRel σ h w.heap) : ∀ {l : List ResultVar} {us : List AV}, resultsA E tm h l = some us →
    ∃ ys, (l.mapM (resS tmps)).run P w = .ok ys w ∧ concL σ us = some ys
  | [], us, hx => by
    simp only [resultsA] at hx; cases hx
    exact ⟨[], by simp, rfl⟩
  | x :: l, us, hx => by
    simp only [resultsA] at hx
    cases h1 : resultA E tm h x with
    | none => rw [h1] at hx; cases hx
    | some u =>
      rw [h1] at hx; simp only at hx
      cases h2 : resultsA E tm h l with
      | none => rw [h2] at hx; cases hx
      | some us' =>
        rw [h2] at hx; cases hx
        obtain ⟨y, a1, a2⟩ := resultA_sound hE ht r h1
        obtain ⟨ys, b1, b2⟩ := resultsA_sound hE ht r h2
        refine ⟨y :: ys, ?_, concL_cons.2 ⟨_, _, a2, b2, rfl⟩⟩
        simp only [List.mapM_cons, Sem.run_bind, a1, b1, Result.andThen_ok, Sem.run_pure]

theorem results_sound (hE : EnvOk P E) {nt : Nat} {tm : T AV} {tmps : Array Value} (ht : TRel σ nt tm tmps) (r : HRel σ h w.heap) {fn : Func} {u : AV}
    (hx : (match resultsA E tm h fn.results.toList with
      | some [v] => some (v, h)
      | some vs => some (.tuple vs, h)
      | none => none) = some (u, h')) : h' = h ∧ ∃ y, (results fn tmps).run P w = .ok y w ∧ conc σ u = some y := by
  cases h1 : resultsA E tm h fn.results.toList with
  | none => rw [h1] at hx; cases hx
  | some us =>
    obtain ⟨ys, a1, a2⟩ := resultsA_sound hE ht r h1
    have hlen := concL_length a2
    have key : (results fn tmps).run P w = .ok (if hh : (⟨ys⟩ : Array Value).size = 1 then (⟨ys⟩ : Array Value)[0] else .tuple ⟨ys⟩) w := by
      rw [results_resS, Array.mapM_eq_mapM_toList]
      simp [a1]
    rw [h1] at hx
    rw [key]
    cases us with
    | nil =>
      cases hx
      have : ys = [] := by cases ys with
        | nil => rfl
        | cons _ _ => simp at hlen
      subst this
      exact ⟨rfl, _, rfl, by simp [conc, concL]⟩
    | cons u₁ us =>
      cases us with
      | nil =>
        cases hx
        obtain ⟨y, rfl⟩ : ∃ y, ys = [y] := by
          cases ys with
          | nil => simp at hlen
          | cons y l => cases l with
            | nil => exact ⟨y, rfl⟩
            | cons _ _ => simp at hlen
        exact ⟨rfl, _, rfl, by simpa using concL_one.1 a2⟩
      | cons u₂ us =>
        cases hx
        have hne : ¬ (⟨ys⟩ : Array Value).size = 1 := by simp at hlen ⊢; omega
        refine ⟨rfl, _, rfl, ?_⟩
        rw [dif_neg hne]
        simp [conc, a2]

theorem body_sound (hE : EnvOk P E) (hD : DrawOk P E) {rc : AF → H → Option (AV × H)} (hrc : RC P rc) : RC P (bodyA E rc) := by
  intro fr h v h' hb σ cf w hf r
  have hf0 := hf
  obtain ⟨tm, tk, d, ro, rfl, h2, h3, h4, h7⟩ := hf.inv
  unfold bodyA at hb
  cases hret : fr.ret with
  | true =>
    rw [hret] at hb; simp only [cond_true] at hb
    have hm : modeOf fr = .returning := by simp [modeOf, hret]
    have hro : fr.roundOf = none := by
      cases hro : fr.roundOf with
      | none => rfl
      | some l => simp only [roundRel, hro] at h7; rw [hret] at h7; cases h7.2.1
    have hro' : ro = none := by simpa [roundRel, hro] using h7
    subst hro'
    rw [hm] at hf0 ⊢
    cases hd : fr.defers with
    | nil =>
      rw [hd] at hb h4; simp only at hb
      have hd' : d = [] := by
        cases d with
        | nil => rfl
        | cons _ _ => exact h4.elim
      subst hd'
      cases hfs : E.fs.get fr.fn with
      | none => rw [hfs] at hb; cases hb
      | some fn =>
        rw [hfs] at hb; simp only at hb
        obtain ⟨rfl, y, e1, e2⟩ := results_sound hE h2 r hb
        refine ⟨σ, w, y, e2, r, Ext.refl _ _ _, ?_⟩
        simp only [Ends, hro]
        exact fun cs _ => ⟨_, .refl _ _, rfl, rfl, rfl, rfl, fn, hE.fs _ _ hfs, e1⟩
    | cons dd ds =>
      rw [hd] at hb h4
      cases d with
      | nil => exact h4.elim
      | cons d₁ d' =>
        obtain ⟨hd1, hd2⟩ := h4
        cases dd with
        | collected b =>
          simp only at hb
          split at hb
          · rename_i hg
            obtain ⟨b', c', x', g1, g2, g3⟩ := r.objs _ _ hg
            obtain rfl := g3.inv_deferred
            obtain ⟨k0, c0, s1, rfl⟩ := hd1
            rw [s1] at g1; cases g1
            simp only [putO_eq] at hb
            obtain ⟨q1, q2⟩ := put_kill r hg s1 g2 (.deferred none)
            refine Done.next hrc (fr₁ := { fr with defers := ds, ret := true }) (cf₁ := ⟨fr.fn, tm, tk, d', .returning, kindOf fr, none⟩) (fun cs _ => .one (st_collected (run_takeDeferred g2))) rfl rfl rfl q2 hb ?_ q1
            exact FRel.mk' (fr := { fr with defers := ds, ret := true }) (σ := σ) (tm := tm) (k := tk) (d := d') (ro := none) h2 h3 hd2 (by simp only [roundRel, hro])
          · cases hb
        | call f args =>
          simp only at hb
          split at hb
          · rename_i u h₁ hen
            obtain ⟨cap, as, e1, rfl⟩ := hd1
            obtain ⟨gr, q1, q2, q3, q4, q5, q6⟩ := enter_rel hE hen
            obtain ⟨σ', w', x, a1, a2, a3, a4⟩ := hrc gr _ _ _ q1 σ _ w (q6 σ _ e1) r
            have hcall : (callFunc f ⟨as ++ cap⟩).run P w = .ok (.enter f ⟨as ++ cap⟩) w := by
              have hen' := hen
              unfold enterA at hen'
              cases hfs : E.fs.get f with
              | none => rw [hfs] at hen'; cases hen'
              | some fn =>
                rw [hfs] at hen'; simp only at hen'
                cases hbd : fn.body with
                | none => rw [hbd] at hen'; cases hen'
                | some c => exact hE.enter f fn c hfs hbd _ _
            have hsub := a3.sub r
            refine Done.next hrc (fr₁ := { fr with defers := ds, ret := true }) (cf₁ := ⟨fr.fn, tm, tk, d', .returning, kindOf fr, none⟩) (fun cs _ => ?_) rfl rfl rfl a3 hb ?_ a2
            · simp only [Ends, q3] at a4
              obtain ⟨cf', s1, p1, p2, p3, p4, fn, p5, p6⟩ := a4 (⟨fr.fn, tm, tk, d', .returning, kindOf fr, none⟩ :: cs) (fun _ _ => ⟨_, _, rfl, rfl⟩)
              rw [q4] at p4
              refine Steps.head (st_deferred hcall) (Steps.trans s1 (.one ?_))
              exact st_leaveD p2 p3 p4 (by rw [p1]; exact p5) p6 rfl
            · exact FRel.mk' (fr := { fr with defers := ds, ret := true }) (σ := σ') (tm := tm) (k := tk) (d := d') (ro := none) (h2.mono hsub) (h3.mono hsub) (hd2.mono hsub) (by simp only [roundRel, hro])
          · cases hb
  | false =>
    rw [hret] at hb; simp only [cond_false] at hb
    rw [← hret] at hb
    have hm : modeOf fr = .run := by simp [modeOf, hret]
    rw [hm] at hf0 ⊢
    have go : ∀ {l : List AItem} {l' : List Item}, rc { fr with todo := l } h = some (v, h') → KRel σ l l' →
        (∀ cs, step P (lone ⟨fr.fn, tm, tk, d, .run, kindOf fr, ro⟩ cs w) = .next (lone ⟨fr.fn, tm, l', d, .run, kindOf fr, ro⟩ cs w)) →
        Done P σ h w fr ⟨fr.fn, tm, tk, d, .run, kindOf fr, ro⟩ v h' := by
      intro l l' hb hk hs
      refine Done.next hrc (fr₁ := { fr with todo := l }) (fun cs _ => .one (hs cs)) rfl rfl rfl (Ext.refl _ _ _) hb ?_ r
      have := FRel.mk' (fr := { fr with todo := l }) (σ := σ) (tm := tm) (k := l') (d := d) (ro := ro) h2 hk h4 h7
      simpa [modeOf, hret, kindOf] using this
    cases htd : fr.todo with
    | nil =>
      rw [htd] at hb h3; simp only at hb
      obtain rfl := h3.nil
      refine leave_sound hrc hb hret hf0 r ?_ ?_
      · intro tm' k₁ d' e _ cs
        cases e; exact st_end
      · intro tm' k₁ d' l x w' e hr c cs
        simp only [Frame.mk.injEq] at e
        obtain ⟨_, rfl, rfl, rfl, _, hk, rfl⟩ := e
        rw [hk]; exact st_roundEnd hr
    | cons a k =>
      rw [htd] at hb
      cases a with
      | code c => exact code_sound hE hD hrc htd hret hb hf0 r
      | inBlock id =>
        rw [htd] at h3
        obtain ⟨it, k', rfl, hi, hk3⟩ := h3.cons; clear h3
        have h3 := hk3
        cases it <;> simp only [IRel] at hi
        exact go hb h3 fun cs => st_inBlock
      | inScope c =>
        rw [htd] at h3
        obtain ⟨it, k', rfl, hi, hk3⟩ := h3.cons; clear h3
        have h3 := hk3
        cases it <;> simp only [IRel] at hi
        exact go hb h3 fun cs => st_inScope
      | inLoop c =>
        rw [htd] at h3
        obtain ⟨it, k', rfl, hi, hk3⟩ := h3.cons; clear h3
        have h3 := hk3
        cases it <;> simp only [IRel] at hi
        subst hi
        rename_i c
        exact go (l' := .code c :: .inLoop c :: k') hb ⟨rfl, rfl, h3⟩ fun cs => st_inLoop
      | ops ops rest =>
        cases rest with
        | nil =>
          rw [htd] at h3
          obtain ⟨it, k', rfl, hi, hk3⟩ := h3.cons; clear h3
          have h3 := hk3
          cases it <;> simp only [IRel] at hi
          rename_i ops' todo
          obtain ⟨rfl, i, rfl, hrest⟩ := hi
          have : (List.range ops'.size).drop i = [] := by
            refine List.drop_eq_nil_of_le ?_
            have := congrArg List.length hrest
            simp at this ⊢; omega
          rw [this] at go ⊢
          exact go hb h3 fun cs => st_regionEnd
        | cons o rest => exact ops_sound hE hrc htd hret hb hf0 r
      | endRangeFunc l =>
        rw [htd] at h3
        obtain ⟨it, k', rfl, hi, hk3⟩ := h3.cons; clear h3
        have h3 := hk3
        cases it <;> simp only [IRel] at hi
        rename_i b
        obtain ⟨c, hs⟩ := hi
        simp only at hb
        split at hb
        · rename_i st pend fn nt ltm ps a bd df hgl
          obtain ⟨b', c', x', g1, g2, g3⟩ := r.objs _ _ hgl
          rw [hs] at g1; cases g1
          obtain ⟨tmps, kk, c2, rfl, ht, hdf⟩ := g3.inv_loop
          split at hb
          · cases hb
          · rename_i hst
            simp only [putO_eq] at hb
            obtain ⟨q1, q2⟩ := put_set r hgl hs g2 (.loop .exhausted pend fn nt ltm ps a bd df)
              (.loop { state := .exhausted, pending := pend, fn := fn, tmps := tmps, params := ps, assign := a, body := bd, defers := kk }) ⟨rfl, rfl, rfl, ht, rfl, rfl, rfl, c2, hdf⟩
            refine Done.next hrc (cf₁ := ⟨fr.fn, tm, (pend.map Item.code).toList ++ k', d, .run, kindOf fr, ro⟩) (fun cs _ => .one (st_endLoop (run_endLoop g2 hst))) ?_ ?_ ?_ q2 hb ?_ q1
            · rfl
            · rfl
            · rfl
            · cases pend with
              | none =>
                have := FRel.mk' (fr := { fr with todo := k }) (σ := σ) (tm := tm) (k := k') (d := d) (ro := ro) h2 h3 h4 h7
                simpa [modeOf, hret, kindOf] using this
              | some c₁ =>
                have := FRel.mk' (fr := { fr with todo := .code c₁ :: k }) (σ := σ) (tm := tm) (k := .code c₁ :: k') (d := d) (ro := ro) h2 ⟨rfl, h3⟩ h4 h7
                simpa [modeOf, hret, kindOf] using this
        · cases hb
      | beginRound =>
        rw [htd] at h3
        obtain ⟨it, k', rfl, hi, hk3⟩ := h3.cons; clear h3
        have h3 := hk3
        cases it <;> simp only [IRel] at hi
        simp only at hb
        cases hro : fr.roundOf with
        | none => rw [hro] at hb; cases hb
        | some l =>
          rw [hro] at hb; simp only at hb
          have h7' := h7
          simp only [roundRel, hro] at h7'
          obtain ⟨_, _, b, c, hs, rfl⟩ := h7'
          split at hb
          · rename_i pend fn nt ltm ps a bd df hgl
            obtain ⟨b', c', x', g1, g2, g3⟩ := r.objs _ _ hgl
            rw [hs] at g1; cases g1
            obtain ⟨tmps, kk, c2, rfl, ht, hdf⟩ := g3.inv_loop
            simp only [putO_eq] at hb
            obtain ⟨q1, q2⟩ := put_set r hgl hs g2 (.loop .busy pend fn nt ltm ps a bd df)
              (.loop { state := .busy, pending := pend, fn := fn, tmps := tmps, params := ps, assign := a, body := bd, defers := kk }) ⟨rfl, rfl, rfl, ht, rfl, rfl, rfl, c2, hdf⟩
            rw [← hro] at hb
            refine Done.next hrc (fr₁ := { fr with todo := k }) (cf₁ := ⟨fr.fn, tm, k', d, .run, kindOf fr, some b⟩) (fun cs _ => .one (st_begin (run_beginRound g2 rfl))) rfl rfl rfl q2 hb ?_ q1
            have := FRel.mk' (fr := { fr with todo := k }) (σ := σ) (tm := tm) (k := k') (d := d) (ro := some b) h2 h3 h4 h7
            simpa [modeOf, hret, kindOf] using this
          · cases hb

theorem run_sound (hE : EnvOk P E) (hD : DrawOk P E) : ∀ n, RC P (runA E n)
  | 0 => fun fr h v h' hb => by cases hb
  | n + 1 => body_sound hE hD (run_sound hE hD n)

end
end Go.Ev
