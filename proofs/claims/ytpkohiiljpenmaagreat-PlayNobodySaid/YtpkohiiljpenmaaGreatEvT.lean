/- The evaluator's soundness: calls, and all operations that are no communication. -/
import Derived.Test.YtpkohiiljpenmaaGreatEvN
import Derived.RangeFuncRecord
import Derived.Conc.LoneSelect
set_option linter.unusedSimpArgs false
set_option linter.unusedVariables false
namespace Go.Ev

def NSim (P : Program) (σ : Sg) (h : H) (w : World) (s : Sem Next) : AN → H → Prop
  | .val v, h' => Sim P σ h w s v h'
  | .enter f args, h' => h' = h ∧ ∃ xs, concL σ args = some xs ∧ s.run P w = .ok (.enter f ⟨xs⟩) w
  | .round l args, h' => h' = h ∧ ∃ b c xs, σ l = some (b, c) ∧ concL σ args = some xs ∧ s.run P w = (Instr.yield b ⟨xs⟩).run P w
  | .defer f args, h' => h' = h ∧ ∃ cap as, concL σ args = some (as ++ cap) ∧ s.run P w = .ok (.defer { target := .fn (.func f) ⟨cap⟩, args := ⟨as⟩ }) w
  | .recover, h' => h' = h ∧ s.run P w = .ok .recover w

section
variable {P : Program} {E : Env} {σ : Sg} {w : World} {h : H}

theorem NSim.congr {s s' : Sem Next} (e : s'.run P w = s.run P w) {n : AN} {h' : H} (a : NSim P σ h w s n h') : NSim P σ h w s' n h' := by
  cases n with
  | val v =>
    obtain ⟨σ', w', x, g, r⟩ := a
    exact ⟨σ', w', x, by rw [Gives, e]; exact g, r⟩
  | enter f args => obtain ⟨h1, xs, h2, h3⟩ := a; exact ⟨h1, xs, h2, e.trans h3⟩
  | round l args => obtain ⟨h1, b, c, xs, h2, h3, h4⟩ := a; exact ⟨h1, b, c, xs, h2, h3, e.trans h4⟩
  | defer f args => obtain ⟨h1, cap, as, h2, h3⟩ := a; exact ⟨h1, cap, as, h2, e.trans h3⟩
  | recover => exact ⟨a.1, e.trans a.2⟩

theorem VSim.sim {s : Sem Value} {v : AV} {h' : H} (a : VSim P σ h w s v h') {t : Sem Next} (e : ∀ x w', s.run P w = .ok x w' → t.run P w = .ok (.value x) w') : Sim P σ h w t v h' := by
  obtain ⟨σ', w', x, g, r⟩ := a
  exact ⟨σ', w', x, .inl (e x w' g), r⟩

theorem call_sound (hE : EnvOk P E) (r : HRel σ h w.heap) {f : FuncId} {args : List AV} {xs : List Value} (ha : concL σ args = some xs) {n : AN} {h' : H} (hc : callA E f args h = some (n, h')) :
    NSim P σ h w (callFunc f ⟨xs⟩) n h' := by
  unfold callA at hc
  cases hf : E.fs.get f with
  | none => simp [hf] at hc
  | some fn =>
    simp only [hf] at hc
    cases hb : fn.body with
    | some c =>
      simp only [hb] at hc; cases hc
      exact ⟨rfl, xs, ha, hE.enter f fn c hf hb ⟨xs⟩ w⟩
    | none =>
      simp only [hb] at hc
      split at hc
      · rename_i hn
        split at hc
        · cases hc
          obtain ⟨y, l, h1, h2, rfl⟩ := concL_cons.1 ha
          rw [concL_nil] at h2; subst h2
          exact ⟨σ, w, y, .inl (hE.noEscape f fn hf hb hn y w), h1, r, Ext.refl _ _ _⟩
        · cases hc
      · split at hc
        · rename_i hn
          split at hc
          · rename_i t rr
            obtain ⟨y, l, h1, h2, rfl⟩ := concL_cons.1 ha
            rw [concL_nil] at h2; subst h2
            obtain ⟨z, hz, rfl⟩ := conc_iface h1
            obtain ⟨b, c, s1, rfl⟩ := conc_map hz
            split at hc
            · rename_i es cl hg
              obtain ⟨b', c', x', k1, k2, k3⟩ := r.objs _ _ hg
              rw [s1] at k1; cases k1
              obtain ⟨es', rfl, hes⟩ := k3.inv_map
              simp only [newO_eq] at hc; cases hc
              obtain ⟨g1, g2⟩ := new_sound r (.map es cl) (.map es' cl) ⟨rfl, concE_mono (sub_upd _ (r.fresh _ (Nat.le_refl _))) hes⟩
              exact ⟨_, _, _, .inl (hE.clone f fn hf hb hn t b w es' cl k2), by simp [conc, upd_self], g1, g2⟩
            · cases hc
          · cases hc
        · split at hc
          · rename_i hn
            split at hc
            · rename_i s c
              obtain ⟨y, l, h1, h2, rfl⟩ := concL_cons.1 ha
              obtain ⟨z, l', h3, h4, rfl⟩ := concL_cons.1 h2
              rw [concL_nil] at h4; subst h4
              simp only [conc, Option.some.injEq] at h1 h3
              subst h1 h3
              cases hlt : Nat.blt c 256 with
              | false => rw [hlt] at hc; cases hc
              | true =>
                rw [hlt] at hc; simp only [cond_true, fI_eq] at hc
                cases hc
                exact ⟨σ, w, _, .inl (hE.ibs f fn hf hb hn s c w (Nat.le_of_ble_eq_true hlt)), by simp [conc], r, Ext.refl _ _ _⟩
            · cases hc
          · cases hc

theorem valueCall_sound (hE : EnvOk P E) (r : HRel σ h w.heap) {f : AV} {fv : Value} (hf : conc σ f = some fv) {args : List AV} {xs : List Value} (ha : concL σ args = some xs) {n : AN} {h' : H} (hc : valueCallA E f args h = some (n, h')) :
    ∃ d, (∀ w, (Deferred.ofValue fv ⟨xs⟩).run P w = .ok d w) ∧ NSim P σ h w (invoke d.target d.args) n h' := by
  cases f <;> simp only [valueCallA] at hc <;> try (cases hc; done)
  · rename_i f first cap
    simp only [fL_eq] at hc
    obtain ⟨y, z, h1, h2, rfl⟩ := conc_func hf
    refine ⟨{ target := .fn (.func f) ⟨z⟩, args := ⟨y ++ xs⟩ }, fun w => by simp [Deferred.ofValue], ?_⟩
    have hcl := concL_append (concL_append h1 ha) h2
    refine (call_sound hE r hcl hc).congr ?_
    simp [invoke]
  · rename_i l
    cases hc
    obtain ⟨b, c, s1, rfl⟩ := conc_yield hf
    refine ⟨{ target := .fn (.yield b) #[], args := ⟨xs⟩ }, fun w => by simp [Deferred.ofValue], ⟨rfl, b, c, xs, s1, ha, ?_⟩⟩
    simp [invoke]

theorem builtin_sound (hE : EnvOk P E) (r : HRel σ h w.heap) {b : Builtin} {ats : Array TypeId} {vs : List AV} {xs : List Value} (hv : concL σ vs = some xs) {n : AN} {h' : H} (hb : builtinA E b ats vs h = some (n, h')) (ty : TypeId) (cs : Array Bool) :
    NSim P σ h w (builtin b ats ty cs ⟨xs⟩) n h' := by
  obtain ⟨ats⟩ := ats
  unfold builtinA at hb
  split at hb
  · rename_i t u s x hq
    simp only at hq; subst hq
    obtain ⟨y, l, h1, h2, rfl⟩ := concL_cons.1 hv
    obtain ⟨z, l, h3, h4, rfl⟩ := concL_cons.1 h2
    rw [concL_nil] at h4; subst h4
    cases ha : appendA E t u s x h with
    | none => simp [ha, nv] at hb
    | some p =>
      obtain ⟨v, h1'⟩ := p
      simp only [ha, nv] at hb; cases hb
      obtain ⟨σ', w', y', g1, g2, g3, g4⟩ := append_sound hE r h1 h3 ha ty
      refine ⟨σ', w', y', .inl ?_, g2, g3, g4⟩
      show (builtin .append #[t, u] ty cs #[y, z]).run P w = _
      simp only [builtin, Sem.run_bind, g1, Result.andThen_ok, Sem.run_pure]
  · rename_i t ts d s hq
    simp only at hq; subst hq
    obtain ⟨y, l, h1, h2, rfl⟩ := concL_cons.1 hv
    obtain ⟨z, l, h3, h4, rfl⟩ := concL_cons.1 h2
    rw [concL_nil] at h4; subst h4
    cases ha : copyA E t d s h with
    | none => simp [ha, nv] at hb
    | some p =>
      obtain ⟨v, h1'⟩ := p
      simp only [ha, nv] at hb; cases hb
      obtain ⟨w', y', g1, g2, g3, g4⟩ := copy_sound hE r h1 h3 ha ts ty
      refine ⟨σ, w', y', .inl ?_, g2, g3, g4⟩
      show (builtin .copy ⟨t :: ts⟩ ty cs #[y, z]).run P w = _
      simp only [builtin, Sem.run_bind, g1, Result.andThen_ok, Sem.run_pure]
  · rw [concL_nil] at hv; subst hv
    cases hb
    exact ⟨rfl, by simp [builtin]⟩
  · rename_i rr
    obtain ⟨y, l, h1, h2, rfl⟩ := concL_cons.1 hv
    rw [concL_nil] at h2; subst h2
    split at hb
    · rename_i c buf hg
      simp only [putO_eq] at hb; cases hb
      exact (close_sound r hg h1 ⟨ats⟩ ty).sim fun x w' e => by
        show (builtin .close ⟨ats⟩ ty cs #[y]).run P w = _
        simp only [builtin, Sem.run_bind, e, Result.andThen_ok, Sem.run_pure]
    · cases hb
  · rename_i t ts m k hq
    simp only at hq; subst hq
    obtain ⟨y, l, h1, h2, rfl⟩ := concL_cons.1 hv
    obtain ⟨z, l, h3, h4, rfl⟩ := concL_cons.1 h2
    rw [concL_nil] at h4; subst h4
    cases ha : deleteA E t m k h with
    | none => simp [ha, nv] at hb
    | some p =>
      obtain ⟨v, h1'⟩ := p
      simp only [ha, nv] at hb; cases hb
      obtain ⟨w', g1, rfl, g3, g4⟩ := delete_sound hE r h1 h3 ha ts ty
      refine ⟨σ, w', undef, .inl ?_, conc_undef σ, g3, g4⟩
      show (builtin .delete ⟨t :: ts⟩ ty cs #[y, z]).run P w = _
      simp only [builtin, Sem.run_bind, g1, Result.andThen_ok, Sem.run_pure]
  · rename_i t ts p m hq
    simp only at hq; subst hq
    obtain ⟨y, l, h1, h2, rfl⟩ := concL_cons.1 hv
    obtain ⟨z, l, h3, h4, rfl⟩ := concL_cons.1 h2
    rw [concL_nil] at h4; subst h4
    cases ha : unsafeStringA E t p m h with
    | none => simp [ha, nv] at hb
    | some q =>
      obtain ⟨v, h1'⟩ := q
      simp only [ha, nv] at hb; cases hb
      exact (unsafeString_sound hE r h1 h3 ha ts ty).sim fun x w' e => by
        show (builtin .unsafeString ⟨t :: ts⟩ ty cs #[y, z]).run P w = _
        simp only [builtin, Sem.run_bind, e, Result.andThen_ok, Sem.run_pure]
  · cases hb

theorem opCall_sound (hE : EnvOk P E) (r : HRel σ h w.heap) {c : Call} {ρ : Operand → Value} {vs : List AV} (hv : concL σ vs = some (c.operands.toList.map ρ)) {n : AN} {h' : H} (hc : opCall E c vs h = some (n, h')) (ty : TypeId) :
    NSim P σ h w (do let d ← resolve ρ c ty; invoke d.target d.args) n h' := by
  have m1 : c.args.map ρ = ⟨c.args.toList.map ρ⟩ := by rw [← Array.toList_inj]; simp
  unfold opCall at hc
  split at hc
  · rename_i b hcal
    rw [show c.operands.toList.map ρ = c.args.toList.map ρ by simp [Call.operands, hcal]] at hv
    refine (builtin_sound hE r hv hc ty (c.args.map fun | .const _ => true | _ => false)).congr ?_
    simp only [resolve, hcal, m1, Sem.run_bind, Sem.run_pure, Result.andThen_ok, invoke]
    rfl
  · rename_i fo f args hcal
    have hv' : concL σ (f :: args) = some (ρ fo :: c.args.toList.map ρ) := by rw [hv]; simp [Call.operands, hcal]
    obtain ⟨y, l, h1, h2, h3⟩ := concL_cons.1 hv'
    cases h3
    obtain ⟨d, g1, g2⟩ := valueCall_sound hE r h1 h2 hc
    refine g2.congr ?_
    simp only [resolve, hcal, m1, Sem.run_bind, g1, Result.andThen_ok]
  · rename_i ro name rv args hcal
    have hv' : concL σ (rv :: args) = some (ρ ro :: c.args.toList.map ρ) := by rw [hv]; simp [Call.operands, hcal]
    obtain ⟨y, l, h1, h2, h3⟩ := concL_cons.1 hv'
    cases h3
    split at hc
    · rename_i t v
      obtain ⟨z, hz, e⟩ := conc_iface h1
      cases hm : E.ms t name with
      | none => simp [hm] at hc
      | some f =>
        simp only [hm] at hc
        have hcl : concL σ (v :: args) = some (z :: c.args.toList.map ρ) := concL_cons.2 ⟨_, _, hz, h2, rfl⟩
        refine (call_sound hE r hcl hc).congr ?_
        have hms := hE.ms t name f hm z ⟨c.args.toList.map ρ⟩ w
        simp only [resolve, hcal, m1, Sem.run_bind, Sem.run_pure, Result.andThen_ok, invoke, e]
        have e1 : (#[Value.iface t z] ++ (⟨c.args.toList.map ρ⟩ : Array Value))[0]? = some (Value.iface t z) := by simp
        have e2 : (#[Value.iface t z] ++ (⟨c.args.toList.map ρ⟩ : Array Value)).extract 1 (#[Value.iface t z] ++ (⟨c.args.toList.map ρ⟩ : Array Value)).size = ⟨c.args.toList.map ρ⟩ := by
          rw [← Array.toList_inj]; simp [List.take_of_length_le]
        simp only [e1, e2, hms]
        rw [show (#[z] ++ (⟨c.args.toList.map ρ⟩ : Array Value)) = ⟨z :: c.args.toList.map ρ⟩ by rw [← Array.toList_inj]; simp]
    · cases hc
  · cases hc

theorem eff_sound (hE : EnvOk P E) (r : HRel σ h w.heap) {o : Oper} {ρ : Operand → Value} {vs : List AV} (hv : concL σ vs = some (o.op.operands.toList.map ρ)) {n : AN} {h' : H} (hf : effA E o.op vs h = some (n, h')) :
    NSim P σ h w (execOp ρ o) n h' := by
  have alloc : ∀ {ob mk}, allocA E o.op vs = some (ob, mk) → NSim P σ h w (execOp ρ o) (.val (mk h.next)) ⟨h.next + 1, T.set (some ob) h.t h.next⟩ := fun ha => sim_alloc r (alloc_sound hE hv ha)
  obtain ⟨dst, op, type, pos, after, guard⟩ := o
  simp only at hv hf alloc
  have rest : (match allocA E op vs with
      | some (ob, mk) => newO h ob fun j h => some (.val (mk j), h)
      | none => none) = some (n, h') → NSim P σ h w (execOp ρ ⟨dst, op, type, pos, after, guard⟩) n h' := fun hq => by
    cases ha : allocA E op vs with
    | none => simp [ha] at hq
    | some p =>
      obtain ⟨ob, mk⟩ := p
      simp only [ha, newO_eq] at hq; cases hq
      exact alloc ha
  cases op
  case store t p x =>
    obtain ⟨a, b, rfl, ha, hb⟩ := inv2 (by simpa [Op.operands] using hv)
    rcases a with _ | _ | _ | (_ | ⟨i, o⟩) | _ | _ | _ | _ | _ | _ | _ | _ | _ | _ <;> try exact rest hf
    simp only [effA] at hf
    cases hg : E.ts.get t with
    | none => simp [hg] at hf
    | some ti =>
      have ht := hE.ts _ _ hg
      simp only [hg] at hf
      cases hst : storeA ti h i o b with
      | none => simp [hst, nv] at hf
      | some p =>
        obtain ⟨v, h1⟩ := p
        simp only [hst, nv] at hf; cases hf
        obtain ⟨bk, c, s1, e1⟩ := conc_ptr ha
        obtain ⟨w', g1, rfl, g3, g4⟩ := store_sound hE r ht s1 hb hst
        refine ⟨σ, w', undef, .inr ⟨?_, rfl⟩, conc_undef σ, g3, g4⟩
        simp only [execOp, e1, Instr.storeAt, Instr.sureAddr, Sem.run_bind, g1, Result.andThen_ok, Sem.run_pure]
  case mapUpdate t m k x =>
    obtain ⟨a, b, c, rfl, ha, hb, hc⟩ := inv3 (by simpa [Op.operands] using hv)
    simp only [effA] at hf
    cases hst : mapUpdateA E t a b c h with
    | none => simp [hst, nv] at hf
    | some p =>
      obtain ⟨v, h1⟩ := p
      simp only [hst, nv] at hf; cases hf
      obtain ⟨w', g1, rfl, g3, g4⟩ := mapUpdate_sound hE r ha hb hc hst
      refine ⟨σ, w', undef, .inr ⟨?_, rfl⟩, conc_undef σ, g3, g4⟩
      simp only [execOp, Sem.run_bind, g1, Result.andThen_ok, Sem.run_pure]
  case insert t m k x =>
    obtain ⟨a, b, c, rfl, ha, hb, hc⟩ := inv3 (by simpa [Op.operands] using hv)
    simp only [effA] at hf
    cases hst : mapUpdateA E t a b c h with
    | none => simp [hst, nv] at hf
    | some p =>
      obtain ⟨v, h1⟩ := p
      simp only [hst, nv] at hf; cases hf
      obtain ⟨w', g1, rfl, g3, g4⟩ := mapUpdate_sound hE r ha hb hc hst
      refine ⟨σ, w', undef, .inr ⟨?_, rfl⟩, conc_undef σ, g3, g4⟩
      simp only [execOp, Sem.run_bind, g1, Result.andThen_ok, Sem.run_pure]
  case mapEntry t m k =>
    obtain ⟨a, b, rfl, ha, hb⟩ := inv2 (by simpa [Op.operands] using hv)
    simp only [effA] at hf
    cases hst : mapEntryA E t a b h with
    | none => simp [hst, nv] at hf
    | some p =>
      obtain ⟨v, h1⟩ := p
      simp only [hst, nv] at hf; cases hf
      obtain ⟨w', y, g1, g2, g3, g4⟩ := mapEntry_sound hE r ha hb hst
      refine ⟨σ, w', y, .inl ?_, g2, g3, g4⟩
      simp only [execOp, Sem.run_bind, g1, Result.andThen_ok, Sem.run_pure]
  case entryStore t m s x =>
    obtain ⟨a, b, c, rfl, ha, hb, hc⟩ := inv3 (by simpa [Op.operands] using hv)
    simp only [effA] at hf
    cases hst : entryStoreA a b c h with
    | none => simp [hst, nv] at hf
    | some p =>
      obtain ⟨v, h1⟩ := p
      simp only [hst, nv] at hf; cases hf
      obtain ⟨w', g1, rfl, g3, g4⟩ := entryStore_sound (P := P) (t := t) r ha hb hc hst
      refine ⟨σ, w', undef, .inr ⟨?_, rfl⟩, conc_undef σ, g3, g4⟩
      simp only [execOp, Sem.run_bind, g1, Result.andThen_ok, Sem.run_pure]
  case range t x =>
    obtain ⟨a, rfl, ha⟩ := inv1 (by simpa [Op.operands] using hv)
    simp only [effA] at hf
    cases hst : rangeA E t a h with
    | none => simp [hst, nv] at hf
    | some p =>
      obtain ⟨v, h1⟩ := p
      simp only [hst, nv] at hf; cases hf
      exact (range_sound hE r ha hst).sim fun x w' e => by simp only [execOp, Sem.run_bind, e, Result.andThen_ok, Sem.run_pure]
  case next it s =>
    obtain ⟨a, rfl, ha⟩ := inv1 (by simpa [Op.operands] using hv)
    simp only [effA] at hf
    cases hst : nextA a s h with
    | none => simp [hst, nv] at hf
    | some p =>
      obtain ⟨v, h1⟩ := p
      simp only [hst, nv] at hf; cases hf
      exact (next_sound r ha type hst).sim fun x w' e => by simp only [execOp, Sem.run_bind, e, Result.andThen_ok, Sem.run_pure]
  case call c =>
    simp only [effA] at hf
    exact opCall_sound hE r (by simpa [Op.operands] using hv) hf type
  case defer c =>
    cases vs with
    | nil => exact rest hf
    | cons f args =>
      simp only [effA] at hf
      split at hf
      · rename_i fo f first cap hcal
        simp only [fL_eq] at hf; cases hf
        have m1 : c.args.map ρ = ⟨c.args.toList.map ρ⟩ := by rw [← Array.toList_inj]; simp
        have hv' : concL σ (.func f first cap :: args) = some (ρ fo :: c.args.toList.map ρ) := by rw [hv]; simp [Op.operands, Call.operands, hcal]
        obtain ⟨y, l, h1, h2, h3⟩ := concL_cons.1 hv'
        injection h3 with h3 h4
        subst h4
        obtain ⟨y1, z1, k1, k2, k3⟩ := conc_func h1
        rw [k3] at h3
        refine ⟨rfl, z1, y1 ++ c.args.toList.map ρ, concL_append (concL_append k1 h2) k2, ?_⟩
        simp only [execOp, resolve, hcal, m1, Sem.run_bind, h3, Deferred.ofValue, Sem.run_pure, Result.andThen_ok]
        simp
      · cases hf
  all_goals first | exact rest hf | (rcases vs with _ | ⟨a, _ | ⟨b, vs⟩⟩ <;> exact rest hf)

end
end Go.Ev
/- The evaluator's soundness: frames. -/
set_option linter.unusedSimpArgs false
set_option linter.unusedVariables false
namespace Go.Ev

def evT (tm : Array Value) : Operand → Value := (Act.mk tm []).eval
theorem eval_evT (fr : Frame) : fr.eval = evT fr.tmps := funext fun x => by cases x <;> rfl

section
variable {P : Program} {E : Env} {σ σ' : Sg} {w : World} {h : H}

theorem TRel.get {nt : Nat} {tm : T AV} {tmps : Array Value} (r : TRel σ nt tm tmps) {i : Nat} {v : AV} (h : tm.get i = some v) : ∃ x, tmps[i]? = some x ∧ conc σ v = some x := by
  have := r.2 i
  rw [h] at this
  exact this.2
theorem aev_sound {nt : Nat} {tm : T AV} {tmps : Array Value} (r : TRel σ nt tm tmps) {x : Operand} {v : AV} (h : aev tm x = some v) : conc σ v = some (evT tmps x) := by
  cases x with
  | tmp t =>
    simp only [aev] at h
    cases hg : tm.get t with
    | some a =>
      simp [hg] at h; subst h
      obtain ⟨x, h1, h2⟩ := r.get hg
      rw [h2]; simp [evT, Act.eval, h1]
    | none =>
      simp [hg] at h; subst h
      have := r.2 t
      rw [hg] at this
      rw [conc_undef]; simp only [evT, Act.eval]; rw [this]
  | const v' => exact conc_ofV h
  | global g => cases h
  | func f =>
    simp only [aev] at h; cases h
    simp [conc, concL, evT, Act.eval]
theorem aevL_sound {nt : Nat} {tm : T AV} {tmps : Array Value} (r : TRel σ nt tm tmps) : ∀ {l : List Operand} {vs : List AV}, aevL tm l = some vs → concL σ vs = some (l.map (evT tmps))
  | [], vs, h => by simp [aevL] at h; subst h; simp [concL]
  | x :: l, vs, h => by
    simp only [aevL] at h
    cases h1 : aev tm x with
    | none => simp [h1] at h
    | some v =>
      cases h2 : aevL tm l with
      | none => simp [h1, h2] at h
      | some vs' =>
        simp [h1, h2] at h; subst h
        exact concL_cons.2 ⟨_, _, aev_sound r h1, aevL_sound r h2, rfl⟩

theorem TRel.put {nt : Nat} {tm : T AV} {tmps : Array Value} (r : TRel σ nt tm tmps) {d : Nat} (hd : d < nt) {v : AV} {x : Value} (hv : conc σ v = some x) : TRel σ nt (T.set (some v) tm d) (tmps.setIfInBounds d x) := by
  refine ⟨by simp [r.1], fun i => ?_⟩
  rw [get_set]
  by_cases e : i = d
  · subst e
    simp only [if_true]
    exact ⟨hd, x, by simp [r.1, hd], hv⟩
  · simp only [if_neg e]
    have := r.2 i
    split at this
    · obtain ⟨h1, y, h2, h3⟩ := this
      exact ⟨h1, y, by rw [Array.getElem?_setIfInBounds_ne (fun q => e q.symm)]; exact h2, h3⟩
    · rw [Array.getD_eq_getD_getElem?, Array.getElem?_setIfInBounds_ne (fun q => e q.symm), ← Array.getD_eq_getD_getElem?]; exact this

def putT (dst : Option Tmp) (x : Value) (tmps : Array Value) : Array Value :=
  match dst with
  | some d => tmps.setIfInBounds d x
  | none => tmps
theorem putDst_eq {β : Type} {nt : Nat} {dst : Option Tmp} {v : AV} {tm : T AV} {K : T AV → Option β} {y : β} (h : putDst nt dst v tm K = some y) :
    ∃ tm', K tm' = some y ∧ ∀ σ tmps x, TRel σ nt tm tmps → conc σ v = some x → TRel σ nt tm' (putT dst x tmps) := by
  cases dst with
  | none => exact ⟨tm, h, fun σ tmps x r _ => r⟩
  | some d =>
    simp only [putDst] at h
    cases hb : Nat.blt d nt with
    | false => simp [hb] at h
    | true =>
      simp only [hb, cond_true, setK_set] at h
      exact ⟨_, h, fun σ tmps x r hx => r.put (blt_true.1 hb) hx⟩

theorem nth_eq {α : Type} : ∀ (l : List α) (n : Nat), nth l n = l[n]?
  | [], n => by simp [nth]
  | a :: l, 0 => by simp [nth]
  | a :: l, n + 1 => by simp [nth, nth_eq l n]

theorem conc_bool_inv {v : AV} {b : Bool} (h : conc σ v = some (.bool b)) : v = .bool b := by
  cases v with
  | bool c => simp [conc] at h; rw [h]
  | ptr a =>
    rcases a with _ | ⟨i, o⟩
    · simp [conc] at h
    · obtain ⟨_, _, _, e⟩ := conc_ptr h; cases e
  | slice a n c =>
    rcases a with _ | ⟨i, o⟩
    · obtain ⟨_, _, e⟩ := conc_sliceNil h; cases e
    · obtain ⟨_, _, _, e⟩ := conc_slice h; cases e
  | map a =>
    rcases a with _ | i
    · simp [conc] at h
    · obtain ⟨_, _, _, e⟩ := conc_map h; cases e
  | chan a =>
    rcases a with _ | i
    · simp [conc] at h
    · obtain ⟨_, _, _, e⟩ := conc_chan h; cases e
  | func f a b' => obtain ⟨y, z, _, _, h3⟩ := conc_func h; cases h3
  | yield l => obtain ⟨b', c, _, h3⟩ := conc_yield h; cases h3
  | iface t v => obtain ⟨y, _, h3⟩ := conc_iface h; cases h3
  | agg cs => obtain ⟨l, _, h3⟩ := conc_agg h; cases h3
  | tuple cs => obtain ⟨l, _, h3⟩ := conc_tuple h; cases h3
  | int k n => simp [conc] at h
  | str s => simp [conc] at h
  | nilFunc => simp [conc] at h
  | nilIface => simp [conc] at h

theorem wanted_sound {nt : Nat} {tm : T AV} {tmps : Array Value} (r : TRel σ nt tm tmps) (ops : Array Oper) (o : Oper) : wantedA ops tm o = Region.wanted o (yielded ops tmps) := by
  unfold wantedA Region.wanted
  cases o.guard with
  | none => rfl
  | some p =>
    obtain ⟨j, want⟩ := p
    simp only [nth_eq, Array.getElem?_toList]
    unfold yielded
    cases hq : ops[j]? with
    | none => simp
    | some q =>
      simp only [Option.bind_some]
      cases hd : q.dst with
      | none => simp
      | some d =>
        simp only [Option.bind_some]
        have hr := r.2 d
        cases hg : tm.get d with
        | some v =>
          rw [hg] at hr
          obtain ⟨_, x, h2, h3⟩ := hr
          simp only [h2]
          cases v with
          | bool b => have := conc_bool h3; subst this; cases b <;> cases want <;> rfl
          | _ =>
            have : ∀ b, x ≠ .bool b := fun b e => by subst e; have := conc_bool_inv h3; cases this
            cases x <;> first | rfl | exact absurd rfl (this _)
        | none =>
          rw [hg] at hr
          simp only at hr
          have : ∀ b, tmps[d]? ≠ some (.bool b) := fun b e => by
            rw [Array.getD_eq_getD_getElem?, e] at hr; simp [undef] at hr
          cases ht : tmps[d]? with
          | none => simp
          | some x => cases x <;> first | rfl | exact absurd ht (this _)

/-! items -/
def IRel (σ : Sg) : AItem → Item → Prop
  | .code c, .code c' => c' = c
  | .inBlock i, .inBlock i' => i' = i
  | .inLoop c, .inLoop c' => c' = c
  | .inScope c, .inScope c' => c' = c
  | .ops ops rest, .inRegion ops' todo => ops' = ops ∧ ∃ i, todo = (List.range ops.size).drop i ∧ rest = ops.toList.drop i
  | .endRangeFunc l, .endRangeFunc b => ∃ c, σ l = some (b, c)
  | .beginRound, .beginRound => True
  | _, _ => False
theorem IRel.mono (hs : Sub σ σ') {a : AItem} {x : Item} (r : IRel σ a x) : IRel σ' a x := by
  cases a <;> cases x <;> simp only [IRel] at r ⊢ <;> try exact r
  obtain ⟨c, h⟩ := r; exact ⟨c, hs _ _ h⟩
def KRel (σ : Sg) : List AItem → List Item → Prop
  | [], [] => True
  | a :: k, x :: l => IRel σ a x ∧ KRel σ k l
  | _, _ => False
theorem KRel.mono (hs : Sub σ σ') : ∀ {k : List AItem} {l : List Item}, KRel σ k l → KRel σ' k l
  | [], [], _ => trivial
  | [], _ :: _, r => r.elim
  | _ :: _, [], r => r.elim
  | _ :: _, _ :: _, r => ⟨IRel.mono hs r.1, KRel.mono hs r.2⟩
theorem KRel.cons {a : AItem} {k : List AItem} {l : List Item} (r : KRel σ (a :: k) l) : ∃ x l', l = x :: l' ∧ IRel σ a x ∧ KRel σ k l' := by
  cases l with
  | nil => exact r.elim
  | cons x l => exact ⟨x, l, rfl, r.1, r.2⟩
theorem KRel.nil {l : List Item} (r : KRel σ [] l) : l = [] := by
  cases l with
  | nil => rfl
  | cons x l => exact r.elim

theorem exit_sound (id : Nat) : ∀ {k : List AItem} {l : List Item}, KRel σ k l → match exitToA id k with
    | some k' => ∃ l', exitTo id l = some l' ∧ KRel σ k' l'
    | none => exitTo id l = none
  | [], l, r => by obtain rfl := r.nil; simp [exitToA, exitTo]
  | a :: k, l, r => by
    obtain ⟨x, l, rfl, hx, r'⟩ := r.cons
    have ih := exit_sound id r'
    cases a <;> cases x <;> simp only [IRel] at hx <;> first | exact hx.elim | (simp only [exitToA, exitTo]; exact ih) | skip
    subst hx
    rename_i i
    simp only [exitToA, exitTo]
    by_cases e : i = id
    · subst e; simp; exact r'
    · have e1 : Nat.beq i id = false := by
        cases hb : Nat.beq i id with
        | false => rfl
        | true => exact absurd (Nat.eq_of_beq_eq_true hb) e
      simp only [e1, cond_false]
      rw [if_neg (by simpa using e)]
      exact ih
theorem goto_sound (t : Nat) : ∀ {k : List AItem} {l : List Item}, KRel σ k l → match gotoInA t k with
    | some k' => ∃ l', gotoIn t l = some l' ∧ KRel σ k' l'
    | none => gotoIn t l = none
  | [], l, r => by obtain rfl := r.nil; simp [gotoInA, gotoIn]
  | a :: k, l, r => by
    obtain ⟨x, l, rfl, hx, r'⟩ := r.cons
    have ih := goto_sound t r'
    cases a <;> cases x <;> simp only [IRel] at hx <;> first | exact hx.elim | (simp only [gotoInA, gotoIn]; exact ih) | skip
    subst hx
    rename_i c
    simp only [gotoInA, gotoIn]
    cases hf : findLabel c t with
    | none => simp only []; exact ih
    | some rest => exact ⟨_, rfl, rfl, rfl, r'⟩

def DRel (σ : Sg) : ADf → Deferred → Prop
  | .call f args, d => ∃ cap as, concL σ args = some (as ++ cap) ∧ d = { target := .fn (.func f) ⟨cap⟩, args := ⟨as⟩ }
  | .collected b, d => ∃ k c, σ b = some (k, c) ∧ d = { target := .collected k, args := #[] }
theorem DRel.mono (hs : Sub σ σ') {a : ADf} {d : Deferred} (r : DRel σ a d) : DRel σ' a d := by
  cases a with
  | call f args => obtain ⟨cap, as, h1, h2⟩ := r; exact ⟨cap, as, concL_mono hs _ _ h1, h2⟩
  | collected b => obtain ⟨k, c, h1, h2⟩ := r; exact ⟨k, c, hs _ _ h1, h2⟩
def DLRel (σ : Sg) : List ADf → List Deferred → Prop
  | [], [] => True
  | a :: k, x :: l => DRel σ a x ∧ DLRel σ k l
  | _, _ => False
theorem DLRel.mono (hs : Sub σ σ') : ∀ {k : List ADf} {l : List Deferred}, DLRel σ k l → DLRel σ' k l
  | [], [], _ => trivial
  | [], _ :: _, r => r.elim
  | _ :: _, [], r => r.elim
  | _ :: _, _ :: _, r => ⟨DRel.mono hs r.1, DLRel.mono hs r.2⟩

structure FRel (σ : Sg) (fr : AF) (cf : Frame) : Prop where
  fn : cf.fn = fr.fn
  tm : TRel σ fr.nt fr.tm cf.tmps
  todo : KRel σ fr.todo cf.todo
  defers : DLRel σ fr.defers cf.defers
  mode : cf.mode = (if fr.ret then .returning else .run)
  kind : cf.kind = (if fr.deferred then .deferred else .normal)
  round : match fr.roundOf with
    | none => cf.roundOf = none
    | some l => fr.deferred = false ∧ fr.ret = false ∧ ∃ b c, σ l = some (b, c) ∧ cf.roundOf = some b
theorem FRel.mono (hs : Sub σ σ') {fr : AF} {cf : Frame} (r : FRel σ fr cf) : FRel σ' fr cf where
  fn := r.fn
  tm := r.tm.mono hs
  todo := r.todo.mono hs
  defers := r.defers.mono hs
  mode := r.mode
  kind := r.kind
  round := by
    have := r.round
    cases hr : fr.roundOf with
    | none => rw [hr] at this; exact this
    | some l => rw [hr] at this; obtain ⟨h1, h2, b, c, h3, h4⟩ := this; exact ⟨h1, h2, b, c, hs _ _ h3, h4⟩

/-- a function is entered -/
theorem initTm_rel {β : Type} {K : T AV → β} : ∀ (vs : List AV) (i : Nat) (t : T AV), ∃ t', initTm i vs t K = K t' ∧ ∀ j, t'.get j = if i ≤ j ∧ j < i + vs.length then vs[j - i]? else t.get j
  | [], i, t => ⟨t, rfl, fun j => by rw [if_neg (by simp only [List.length_nil]; omega)]⟩
  | v :: vs, i, t => by
    obtain ⟨t', h1, h2⟩ := initTm_rel (K := K) vs (i + 1) (T.set (some v) t i)
    refine ⟨t', by simp only [initTm, setK_set]; exact h1, fun j => ?_⟩
    rw [h2, get_set]
    by_cases e : j = i
    · subst e; rw [if_neg (by omega), if_pos rfl, if_pos (by simp)]; simp
    · by_cases e2 : i + 1 ≤ j ∧ j < i + 1 + vs.length
      · rw [if_pos e2, if_pos (by simp; omega), show j - i = (j - (i + 1)) + 1 by omega]; simp
      · rw [if_neg e2, if_neg e, if_neg (by simp at e2 ⊢; omega)]

theorem enter_rel {β : Type} (hE : EnvOk P E) {f : FuncId} {args : List AV} {d : Bool} {K : AF → Option β} {y : β} (h : enterA E f args d K = some y) :
    ∃ fr, K fr = some y ∧ fr.fn = f ∧ fr.roundOf = none ∧ fr.deferred = d ∧ fr.ret = false ∧
      ∀ σ xs, concL σ args = some xs → FRel σ fr (Frame.enter P f ⟨xs⟩ (if d then .deferred else .normal)) := by
  unfold enterA at h
  cases hf : E.fs.get f with
  | none => simp [hf] at h
  | some fn =>
    have hP := hE.fs f fn hf
    simp only [hf] at h
    cases hb : fn.body with
    | none => simp [hb] at h
    | some c =>
      simp only [hb] at h
      cases hl : Nat.ble args.length fn.ntmps with
      | false => simp [hl] at h
      | true =>
        simp only [hl, cond_true] at h
        obtain ⟨t', h1, h2⟩ := initTm_rel (K := fun tm => K { fn := f, nt := fn.ntmps, tm := tm, todo := [.code c], defers := [], roundOf := none, deferred := d, ret := false }) args 0 .nil
        rw [h1] at h
        have hle := Nat.le_of_ble_eq_true hl
        refine ⟨_, h, rfl, rfl, rfl, rfl, fun σ xs hxs => ?_⟩
        have hxl := concL_length hxs
        refine ⟨rfl, ⟨?_, fun j => ?_⟩, ⟨?_, trivial⟩, trivial, rfl, by cases d <;> rfl, rfl⟩
        · simp [Frame.enter, hP]; omega
        · simp only [Frame.enter, hP, Option.map_some, Option.getD_some]
          rw [h2]
          by_cases e : 0 ≤ j ∧ j < 0 + args.length
          · rw [if_pos e]
            have hlt : j < args.length := by omega
            have hx : j < xs.length := by omega
            simp only [Nat.sub_zero, List.getElem?_eq_getElem hlt]
            obtain ⟨a, ha1, ha2⟩ := concL_nth hxs (n := j) (v := args[j]) (by rw [nth_eq]; exact List.getElem?_eq_getElem hlt)
            refine ⟨by omega, a, ?_, ha2⟩
            rw [Array.getElem?_append_left (by simpa using hx)]
            simpa using ha1
          · rw [if_neg e, get_nil]
            simp only
            rw [Array.getD_eq_getD_getElem?, Array.getElem?_append_right (by simp; omega)]
            simp [Array.getElem?_replicate]
            split <;> rfl
        · simp [IRel, hP, hb]

def parms : List Tmp → List Value → Array Value → Array Value
  | p :: ps, x :: xs, tmps => parms ps xs (tmps.setIfInBounds p x)
  | _, _, tmps => tmps
theorem parms_eq : ∀ (ps : List Tmp) (xs : List Value) (tmps : Array Value), (ps.zip xs).foldl (fun tmps (t, a) => tmps.setIfInBounds t a) tmps = parms ps xs tmps
  | [], _, _ => rfl
  | _ :: _, [], _ => rfl
  | p :: ps, x :: xs, tmps => by simp only [List.zip_cons_cons, List.foldl_cons, parms]; exact parms_eq ps xs _
/-- what is yielded goes into the parameters -/
theorem setParams_rel {β : Type} {nt : Nat} : ∀ {ps : List Tmp} {vs : List AV} {t : T AV} {K : T AV → Option β} {y : β}, setParams nt ps vs t K = some y →
    ∃ t', K t' = some y ∧ ps.length = vs.length ∧ ∀ σ tmps xs, TRel σ nt t tmps → concL σ vs = some xs → TRel σ nt t' (parms ps xs tmps)
  | [], [], t, K, y, h => ⟨t, h, rfl, fun σ tmps xs r _ => by simpa [parms] using r⟩
  | [], _ :: _, t, K, y, h => by simp [setParams] at h
  | _ :: _, [], t, K, y, h => by simp [setParams] at h
  | p :: ps, v :: vs, t, K, y, h => by
    simp only [setParams] at h
    cases hb : Nat.blt p nt with
    | false => simp [hb] at h
    | true =>
      simp only [hb, cond_true, setK_set] at h
      obtain ⟨t', h1, h2, h3⟩ := setParams_rel h
      refine ⟨t', h1, by simp [h2], fun σ tmps xs r hxs => ?_⟩
      obtain ⟨x, l, q1, q2, rfl⟩ := concL_cons.1 hxs
      simp only [parms]
      exact h3 σ _ l (r.put (blt_true.1 hb) q1) q2

theorem put_kill (r : HRel σ h w.heap) {i b c : Nat} {o₀ : AObj} (hi : h.t.get i = some o₀) (hs : σ i = some (b, c)) {y : Obj} (hb : w.heap[b]? = some y) (x : Obj) :
    HRel σ ⟨h.next, T.set none h.t i⟩ (setW w b x).heap ∧ Ext σ h w σ ⟨h.next, T.set none h.t i⟩ (setW w b x) := by
  have hlt : b < w.heap.size := (Array.getElem?_eq_some_iff.1 hb).1
  have hk : ∀ k, k ≠ b → (setW w b x).heap[k]? = w.heap[k]? := fun k hk => by simp only [setW]; rw [Array.getElem?_setIfInBounds_ne (by omega)]
  have old : ∀ j o, (T.set none h.t i).get j = some o → j ≠ i ∧ h.t.get j = some o := fun j o hj => by
    rw [get_set] at hj
    by_cases e : j = i
    · simp [e] at hj
    · simp [e] at hj; exact ⟨e, hj⟩
  refine ⟨⟨r.fresh, fun j o hj => ?_, fun j k o₁ o₂ b' c₁ c₂ hj hk' => r.inj j k o₁ o₂ b' c₁ c₂ (old j o₁ hj).2 (old k o₂ hk').2⟩, ⟨rfl, rfl, rfl, by simp [setW], Nat.le_refl _, fun _ _ => rfl, fun k hk' hn => ?_, fun j o k c' hj hsj hk' => ⟨j, o, c', (old j o hj).2, hsj⟩⟩⟩
  · obtain ⟨e1, e2⟩ := old j o hj
    obtain ⟨b', c', x', g1, g2, g3⟩ := r.objs j o e2
    refine ⟨b', c', x', g1, ?_, g3⟩
    rw [hk b' (fun q => by subst q; exact e1 (r.inj j i o o₀ b' c' c e2 hi g1 hs))]; exact g2
  · exact hk k (fun q => by subst q; exact hn i o₀ c hi hs)

theorem ORel.inv_loop {c : Nat} {st : LoopState} {pend : Option Code} {fn : FuncId} {nt : Nat} {tm : T AV} {ps : Array Tmp} {a b : Code} {d : Nat} {x : Obj} (h : ORel σ c (.loop st pend fn nt tm ps a b d) x) :
    ∃ tmps k c', x = .loop { state := st, pending := pend, fn := fn, tmps := tmps, params := ps, assign := a, body := b, defers := k } ∧ TRel σ nt tm tmps ∧ σ d = some (k, c') := by
  cases x <;> simp only [ORel] at h
  rename_i l
  obtain ⟨h1, h2, h3, h4, h5, h6, h7, c', h8⟩ := h
  obtain ⟨st', pend', fn', tmps', ps', a', b', d'⟩ := l
  simp only at h1 h2 h3 h4 h5 h6 h7 h8
  subst h1 h2 h3 h5 h6 h7
  exact ⟨tmps', d', c', rfl, h4, h8⟩
theorem ORel.inv_deferred {c : Nat} {x : Obj} (h : ORel σ c .deferred x) : x = .deferred (some []) := by
  cases x <;> simp only [ORel] at h
  rw [h]

end
end Go.Ev
/- The evaluator's soundness: single steps of the machine. -/
set_option linter.unusedSimpArgs false
set_option linter.unusedVariables false
namespace Go.Ev

def okCs (fr : AF) (cs : List Frame) : Prop := fr.roundOf = none → fr.deferred = true → ∃ c cs', cs = c :: cs' ∧ c.mode = .returning
/-- a frame runs to its end, above these callers -/
def EndsC (P : Program) (fr : AF) (cf : Frame) (w : World) (x : Value) (w' : World) (cs : List Frame) : Prop :=
  match fr.roundOf with
  | none => ∃ cf', Steps P (lone cf cs w) (lone cf' cs w') ∧ cf'.fn = fr.fn ∧ cf'.mode = .returning ∧ cf'.defers = [] ∧ cf'.kind = (if fr.deferred then .deferred else .normal) ∧
      ∃ fn, P.funcs[fr.fn]? = some fn ∧ (results fn cf'.tmps).run P w' = .ok x w'
  | some _ => ∀ c cs', cs = c :: cs' → Steps P (lone cf (c :: cs') w) (lone (c.finish x) cs' w')
def Ends (P : Program) (fr : AF) (cf : Frame) (w : World) (x : Value) (w' : World) : Prop := ∀ cs, okCs fr cs → EndsC P fr cf w x w' cs
def DoneC (P : Program) (σ : Sg) (h : H) (w : World) (fr : AF) (cf : Frame) (v : AV) (h' : H) (cs : List Frame) : Prop :=
  ∃ σ' w' x, conc σ' v = some x ∧ HRel σ' h' w'.heap ∧ Ext σ h w σ' h' w' ∧ EndsC P fr cf w x w' cs
def Done (P : Program) (σ : Sg) (h : H) (w : World) (fr : AF) (cf : Frame) (v : AV) (h' : H) : Prop := ∀ cs, okCs fr cs → DoneC P σ h w fr cf v h' cs
def RC (P : Program) (rc : AF → H → Option (AV × H)) : Prop :=
  ∀ fr h v h', rc fr h = some (v, h') → ∀ σ cf w, FRel σ fr cf → HRel σ h w.heap → Done P σ h w fr cf v h'

section
variable {P : Program} {E : Env} {σ σ₁ : Sg} {w w₁ : World} {h h₁ h' : H} {fr fr₁ : AF} {cf cf₁ : Frame} {v : AV}

theorem EndsC.of_steps {cs : List Frame} (hs : Steps P (lone cf cs w) (lone cf₁ cs w₁)) (e1 : fr₁.fn = fr.fn) (e2 : fr₁.roundOf = fr.roundOf) (e3 : fr₁.deferred = fr.deferred) {x : Value} {w' : World} (a : EndsC P fr₁ cf₁ w₁ x w' cs) : EndsC P fr cf w x w' cs := by
  unfold EndsC at a ⊢
  rw [e2] at a
  cases hr : fr.roundOf with
  | none =>
    simp only [hr] at a ⊢
    obtain ⟨cf', s, q⟩ := a
    refine ⟨cf', hs.trans s, ?_⟩
    rw [← e1, ← e3]; exact q
  | some l =>
    simp only [hr] at a ⊢
    intro c cs' hcs
    subst hcs
    exact hs.trans (a c cs' rfl)
theorem DoneC.of_steps {cs : List Frame} (hs : Steps P (lone cf cs w) (lone cf₁ cs w₁)) (e1 : fr₁.fn = fr.fn) (e2 : fr₁.roundOf = fr.roundOf) (e3 : fr₁.deferred = fr.deferred) (hx : Ext σ h w σ₁ h₁ w₁)
    (a : DoneC P σ₁ h₁ w₁ fr₁ cf₁ v h' cs) : DoneC P σ h w fr cf v h' cs := by
  obtain ⟨σ', w', x, a1, a2, a3, a4⟩ := a
  exact ⟨σ', w', x, a1, a2, hx.trans a3, a4.of_steps hs e1 e2 e3⟩
theorem okCs.of {cs : List Frame} (hc : okCs fr cs) (e2 : fr₁.roundOf = fr.roundOf) (e3 : fr₁.deferred = fr.deferred) : okCs fr₁ cs := fun q1 q2 => hc (e2 ▸ q1) (e3 ▸ q2)
theorem Done.of_steps (hs : ∀ cs, okCs fr cs → Steps P (lone cf cs w) (lone cf₁ cs w₁)) (e1 : fr₁.fn = fr.fn) (e2 : fr₁.roundOf = fr.roundOf) (e3 : fr₁.deferred = fr.deferred) (hx : Ext σ h w σ₁ h₁ w₁)
    (a : Done P σ₁ h₁ w₁ fr₁ cf₁ v h') : Done P σ h w fr cf v h' := fun cs hc => (a cs (hc.of e2 e3)).of_steps (hs cs hc) e1 e2 e3 hx
theorem Done.of_step (hs : ∀ cs, step P (lone cf cs w) = .next (lone cf₁ cs w)) (e1 : fr₁.fn = fr.fn) (e2 : fr₁.roundOf = fr.roundOf) (e3 : fr₁.deferred = fr.deferred)
    (a : Done P σ h w fr₁ cf₁ v h') : Done P σ h w fr cf v h' := a.of_steps (fun cs _ => .one (hs cs)) e1 e2 e3 (Ext.refl _ _ _)

section
variable {f : FuncId} {tm : Array Value} {k : List Item} {d : List Deferred} {kd : CallKind} {ro : Option Nat} {cs : List Frame} {c : Frame}
theorem st_skip : step P (lone ⟨f, tm, .code .skip :: k, d, .run, kd, ro⟩ cs w) = .next (lone ⟨f, tm, k, d, .run, kd, ro⟩ cs w) := step_lone_go (by simp [stepG, stepG.exec])
theorem st_label {l : Nat} : step P (lone ⟨f, tm, .code (.label l) :: k, d, .run, kd, ro⟩ cs w) = .next (lone ⟨f, tm, k, d, .run, kd, ro⟩ cs w) := step_lone_go (by simp [stepG, stepG.exec])
theorem st_inBlock {l : Nat} : step P (lone ⟨f, tm, .inBlock l :: k, d, .run, kd, ro⟩ cs w) = .next (lone ⟨f, tm, k, d, .run, kd, ro⟩ cs w) := step_lone_go (by simp [stepG, stepG.exec])
theorem st_inScope {l : Code} : step P (lone ⟨f, tm, .inScope l :: k, d, .run, kd, ro⟩ cs w) = .next (lone ⟨f, tm, k, d, .run, kd, ro⟩ cs w) := step_lone_go (by simp [stepG, stepG.exec])
theorem st_seq {a b : Code} : step P (lone ⟨f, tm, .code (.seq a b) :: k, d, .run, kd, ro⟩ cs w) = .next (lone ⟨f, tm, .code a :: .code b :: k, d, .run, kd, ro⟩ cs w) := step_lone_go (by simp [stepG, stepG.exec])
theorem st_cond {o : Operand} {a b : Code} {t : Bool} (ht : evT tm o = .bool t) : step P (lone ⟨f, tm, .code (.cond o a b) :: k, d, .run, kd, ro⟩ cs w) = .next (lone ⟨f, tm, .code (cond t a b) :: k, d, .run, kd, ro⟩ cs w) :=
  step_lone_go (by
    have e : (Frame.mk f tm (.code (.cond o a b) :: k) d .run kd ro).eval o = .bool t := by rw [eval_evT]; exact ht
    cases t <;> simp [stepG, stepG.exec, e])
theorem st_block {l : Nat} {a : Code} : step P (lone ⟨f, tm, .code (.block l a) :: k, d, .run, kd, ro⟩ cs w) = .next (lone ⟨f, tm, .code a :: .inBlock l :: k, d, .run, kd, ro⟩ cs w) := step_lone_go (by simp [stepG, stepG.exec])
theorem st_loop {a : Code} : step P (lone ⟨f, tm, .code (.loop a) :: k, d, .run, kd, ro⟩ cs w) = .next (lone ⟨f, tm, .code a :: .inLoop a :: k, d, .run, kd, ro⟩ cs w) := step_lone_go (by simp [stepG, stepG.exec])
theorem st_inLoop {a : Code} : step P (lone ⟨f, tm, .inLoop a :: k, d, .run, kd, ro⟩ cs w) = .next (lone ⟨f, tm, .code a :: .inLoop a :: k, d, .run, kd, ro⟩ cs w) := step_lone_go (by simp [stepG, stepG.exec])
theorem st_scope {a : Code} : step P (lone ⟨f, tm, .code (.scope a) :: k, d, .run, kd, ro⟩ cs w) = .next (lone ⟨f, tm, .code a :: .inScope a :: k, d, .run, kd, ro⟩ cs w) := step_lone_go (by simp [stepG, stepG.exec])
theorem st_exit {l : Nat} {k' : List Item} (hx : exitTo l k = some k') : step P (lone ⟨f, tm, .code (.exit l) :: k, d, .run, kd, ro⟩ cs w) = .next (lone ⟨f, tm, k', d, .run, kd, ro⟩ cs w) := step_lone_go (by simp [stepG, stepG.exec, hx])
theorem st_goto {l : Nat} {k' : List Item} (hx : gotoIn l k = some k') : step P (lone ⟨f, tm, .code (.goto l) :: k, d, .run, kd, ro⟩ cs w) = .next (lone ⟨f, tm, k', d, .run, kd, ro⟩ cs w) := step_lone_go (by simp [stepG, stepG.exec, hx])
theorem st_region {id : Nat} {ops : Array Oper} : step P (lone ⟨f, tm, .code (.region id ops false) :: k, d, .run, kd, ro⟩ cs w) = .next (lone ⟨f, tm, .inRegion ops (List.range ops.size) :: k, d, .run, kd, ro⟩ cs w) := step_lone_go (by simp [stepG, stepG.exec])
theorem st_draw {id : Nat} {ops : Array Oper} : step P (lone ⟨f, tm, .code (.region id ops true) :: k, d, .run, kd, ro⟩ cs w) =
    .next (lone ⟨f, tm, .inRegion ops (Region.schedule (P.follows .mixedOrders) ops (w.tape w.drawn (.order f id))) :: k, d, .run, kd, ro⟩ cs { w with drawn := w.drawn + 1 }) :=
  step_lone_go (by simp [stepG, stepG.exec, choose, Sem.run, Question.forced, Question.cut])
theorem st_regionEnd {ops : Array Oper} : step P (lone ⟨f, tm, .inRegion ops [] :: k, d, .run, kd, ro⟩ cs w) = .next (lone ⟨f, tm, k, d, .run, kd, ro⟩ cs w) := step_lone_go (by simp [stepG, stepG.exec])
theorem fin_op {ops : Array Oper} {i : Nat} {rest : List Nat} (x : Value) : (Frame.mk f tm (.inRegion ops (i :: rest) :: k) d .run kd ro).finish x = ⟨f, putT ((ops[i]?).bind (·.dst)) x tm, .inRegion ops rest :: k, d, .run, kd, ro⟩ := by
  cases hq : (ops[i]?).bind (·.dst) <;> simp [Frame.finish, putT, hq]
theorem st_opSkip {ops : Array Oper} {i : Nat} {rest : List Nat} {o : Oper} (ho : ops[i]? = some o) (hw : Region.wanted o (yielded ops tm) = false) :
    step P (lone ⟨f, tm, .inRegion ops (i :: rest) :: k, d, .run, kd, ro⟩ cs w) = .next (lone ⟨f, putT o.dst undef tm, .inRegion ops rest :: k, d, .run, kd, ro⟩ cs w) := by
  have hf := fin_op (f := f) (tm := tm) (k := k) (d := d) (kd := kd) (ro := ro) (ops := ops) (i := i) (rest := rest) undef
  rw [ho] at hf
  simp only [Option.bind_some] at hf
  rw [← hf]
  exact step_lone_go (by simp [stepG, stepG.exec, ho, hw])
theorem stG_op {ops : Array Oper} {i : Nat} {rest : List Nat} {o : Oper} (ho : ops[i]? = some o) (hw : Region.wanted o (yielded ops tm) = true) (hd : ro = none ∨ ∀ c, o.op ≠ .defer c) :
    stepG P true { frame := ⟨f, tm, .inRegion ops (i :: rest) :: k, d, .run, kd, ro⟩, callers := cs, status := .running, dying := none } w =
      stepG.apply P true ⟨f, tm, .inRegion ops (i :: rest) :: k, d, .run, kd, ro⟩ cs none (execOp (evT tm) o) w := by
  have he := eval_evT (Frame.mk f tm (.inRegion ops (i :: rest) :: k) d .run kd ro)
  simp only at he
  simp only [stepG, stepG.exec, stepG.oper, Frame.oper?, ho, hw, he, Option.map_some, Option.getD_some, if_true]
  rcases hd with rfl | hd
  · rfl
  · cases ro with
    | none => rfl
    | some l => cases hop : o.op <;> first | rfl | exact absurd hop (hd _)
theorem st_ret : step P (lone ⟨f, tm, .code .ret :: k, d, .run, kd, none⟩ cs w) = .next (lone ⟨f, tm, .code .ret :: k, d, .returning, kd, none⟩ cs w) := step_lone_go (by simp [stepG, stepG.exec])
theorem st_end : step P (lone ⟨f, tm, [], d, .run, kd, none⟩ cs w) = .next (lone ⟨f, tm, [], d, .returning, kd, none⟩ cs w) := step_lone_go (by simp [stepG, stepG.exec])
section
variable {l : Nat} {x : Value} {w' : World}
theorem st_roundEnd (hr : (Instr.endRound l none).run P w = .ok x w') : step P (lone ⟨f, tm, [], d, .run, .normal, some l⟩ (c :: cs) w) = .next (lone (c.finish x) cs w') := step_lone_go (by simp [stepG, stepG.exec, Sem.runT_eq, hr, doReturn])
theorem st_roundRet (hr : (Instr.endRound l (some .ret)).run P w = .ok x w') : step P (lone ⟨f, tm, .code .ret :: k, d, .run, .normal, some l⟩ (c :: cs) w) = .next (lone (c.finish x) cs w') := step_lone_go (by simp [stepG, stepG.exec, Sem.runT_eq, hr, doReturn])
theorem st_roundExit {id : Nat} (hx : exitTo id k = none) (hr : (Instr.endRound l (some (.exit id))).run P w = .ok x w') : step P (lone ⟨f, tm, .code (.exit id) :: k, d, .run, .normal, some l⟩ (c :: cs) w) = .next (lone (c.finish x) cs w') := step_lone_go (by simp [stepG, stepG.exec, Sem.runT_eq, hx, hr, doReturn])
theorem st_roundGoto {id : Nat} (hx : gotoIn id k = none) (hr : (Instr.endRound l (some (.goto id))).run P w = .ok x w') : step P (lone ⟨f, tm, .code (.goto id) :: k, d, .run, .normal, some l⟩ (c :: cs) w) = .next (lone (c.finish x) cs w') := step_lone_go (by simp [stepG, stepG.exec, Sem.runT_eq, hx, hr, doReturn])
theorem st_begin (hr : (Instr.beginRound l).run P w = .ok () w') : step P (lone ⟨f, tm, .beginRound :: k, d, .run, kd, some l⟩ cs w) = .next (lone ⟨f, tm, k, d, .run, kd, some l⟩ cs w') := step_lone_go (by simp [stepG, stepG.exec, stepG.apply, Sem.runT_eq, hr, Result.andThen, Frame.finish])
theorem st_endLoop {j : Option Code} (hr : (Instr.endLoop l).run P w = .ok j w') : step P (lone ⟨f, tm, .endRangeFunc l :: k, d, .run, kd, ro⟩ cs w) = .next (lone ⟨f, tm, (j.map Item.code).toList ++ k, d, .run, kd, ro⟩ cs w') := step_lone_go (by simp [stepG, stepG.exec, Sem.runT_eq, hr])
theorem st_collected {ds : List Deferred} (hr : (Instr.takeDeferred l).run P w = .ok [] w') : step P (lone ⟨f, tm, k, { target := .collected l, args := #[] } :: ds, .returning, kd, ro⟩ cs w) = .next (lone ⟨f, tm, k, ds, .returning, kd, ro⟩ cs w') := step_lone_go (by simp [stepG, unwind, Sem.runT_eq, hr])
end
theorem st_deferred {g : FuncId} {cap as : List Value} {ds : List Deferred} (hr : (callFunc g ⟨as ++ cap⟩).run P w = .ok (.enter g ⟨as ++ cap⟩) w) :
    step P (lone ⟨f, tm, k, { target := .fn (.func g) ⟨cap⟩, args := ⟨as⟩ } :: ds, .returning, kd, ro⟩ cs w) = .next (lone (Frame.enter P g ⟨as ++ cap⟩ .deferred) (⟨f, tm, k, ds, .returning, kd, ro⟩ :: cs) w) := by
  have hr' : (invoke (.fn (.func g) ⟨cap⟩) ⟨as⟩).run P w = .ok (.enter g ⟨as ++ cap⟩) w := by simpa [invoke] using hr
  exact step_lone_go (by simp [stepG, unwind, callDeferred, Sem.runT_eq, hr'])
theorem st_leaveD {cf : Frame} {fn : Func} {x : Value} (hm : cf.mode = .returning) (hd : cf.defers = []) (hk : cf.kind = .deferred) (hf : P.funcs[cf.fn]? = some fn) (hr : (results fn cf.tmps).run P w = .ok x w) (hc : c.mode = .returning) :
    step P (lone cf (c :: cs) w) = .next (lone c cs w) := step_lone_go (by simp [stepG, unwind, doReturn, hm, hd, hk, hf, hr, hc, Sem.runT_eq])
end

/-- an operation, a call carried out wholly -/
theorem apply_sound (hE : EnvOk P E) {rc : AF → H → Option (AV × H)} (hrc : RC P rc) (r : HRel σ h w.heap) {f : FuncId} {tm : Array Value} {it : Item} {k : List Item} {d : List Deferred} {kd : CallKind} {ro : Option Nat}
    (hit : ∀ q b s t, it ≠ .call q b s t) {s : Sem Next}
    (hg : ∀ cs, stepG P true { frame := ⟨f, tm, it :: k, d, .run, kd, ro⟩, callers := cs, status := .running, dying := none } w = stepG.apply P true ⟨f, tm, it :: k, d, .run, kd, ro⟩ cs none s w)
    {n : AN} {h₀ : H} (hn : NSim P σ h w s n h₀) (hst : stepA E rc (some (n, h₀)) = some (v, h')) :
    ∀ cs, ∃ σ' w' x, conc σ' v = some x ∧ HRel σ' h' w'.heap ∧ Ext σ h w σ' h' w' ∧ Steps P (lone ⟨f, tm, it :: k, d, .run, kd, ro⟩ cs w) (lone ((Frame.mk f tm (it :: k) d .run kd ro).finish x) cs w') := by
  intro cs
  cases n with
  | val u =>
    simp only [stepA] at hst; cases hst
    obtain ⟨σ', w', x, g1, g2, g3, g4⟩ := hn
    refine ⟨σ', w', x, g2, g3, g4, .one (step_lone_go ?_)⟩
    rw [hg]
    rcases g1 with g1 | ⟨g1, rfl⟩ <;> simp [stepG.apply, g1, Sem.runT_eq]
  | enter g args =>
    simp only [stepA] at hst
    obtain ⟨rfl, xs, hxs, hr⟩ := hn
    cases ho : orcR E g args _ with
    | some r0 =>
      rw [ho] at hst; simp only [Option.some.injEq] at hst; subst hst
      obtain ⟨e, w', fr', ⟨σ', x, rfl, a1, a2, a3⟩, s1, q1, q2⟩ := orcR_ok hE ho hxs r (⟨f, tm, it :: k, d, .run, kd, ro⟩ :: cs)
      refine ⟨σ', w', x, a1, a2, a3, ?_⟩
      refine Steps.head (m₁ := lone (Frame.enter P g ⟨xs⟩ .normal) (⟨f, tm, it :: k, d, .run, kd, ro⟩ :: cs) w) (step_lone_go ?_) (Steps.trans s1 (.one (step_leave_returned q2)))
      rw [hg]
      cases it <;> first | exact absurd rfl (hit _ _ _ _) | simp [stepG.apply, hr, Sem.runT_eq]
    | none =>
    rw [ho] at hst; simp only at hst
    obtain ⟨gr, h1, h2, h3, h4, h5, h6⟩ := enter_rel hE hst
    obtain ⟨σ', w', x, a1, a2, a3, a4⟩ := hrc gr _ _ _ h1 σ _ w (h6 σ xs hxs) r (⟨f, tm, it :: k, d, .run, kd, ro⟩ :: cs) (fun _ q => by rw [h4] at q; cases q)
    refine ⟨σ', w', x, a1, a2, a3, ?_⟩
    simp only [EndsC, h3] at a4
    obtain ⟨cf', s1, q1, q2, q3, q4, fn, q5, q6⟩ := a4
    refine Steps.head (m₁ := lone (Frame.enter P g ⟨xs⟩ .normal) (⟨f, tm, it :: k, d, .run, kd, ro⟩ :: cs) w) (step_lone_go ?_) (Steps.trans s1 (.one ?_))
    · rw [hg]
      cases it <;> first | exact absurd rfl (hit _ _ _ _) | simp [stepG.apply, hr, Sem.runT_eq]
    · rw [h4] at q4
      exact step_leave_returned ⟨q2, q3, q4, fn, by rw [q1]; exact q5, q6⟩
  | round l args =>
    simp only [stepA] at hst
    obtain ⟨rfl, b, c, xs, hsl, hxs, hr⟩ := hn
    split at hst
    · rename_i st pend fn nt ltm ps a bd df hgl
      obtain ⟨b', c', x', h1, h2, h3⟩ := r.objs _ _ hgl
      rw [hsl] at h1; cases h1
      obtain ⟨tmps, kk, c2, rfl, ht, hdf⟩ := h3.inv_loop
      obtain ⟨tm', e1, e2, e3⟩ := setParams_rel hst
      have hsz : (⟨xs⟩ : Array Value).size = ps.size := by
        have := concL_length hxs
        simp at e2 ⊢; omega
      have hy := run_yield (P := P) (args := ⟨xs⟩) h2 hsz
      have hfold : (ps.zip (⟨xs⟩ : Array Value)).foldl (fun tmps (t, a) => tmps.setIfInBounds t a) tmps = parms ps.toList xs tmps := by
        rw [← parms_eq, ← Array.foldl_toList]; simp
      rw [hfold] at hy
      obtain ⟨σ', w', x, a1, a2, a3, a4⟩ := hrc _ _ _ _ e1 σ (Frame.round b fn (parms ps.toList xs tmps) a bd .normal) w
        ⟨rfl, e3 σ tmps xs ht hxs, ⟨rfl, trivial, rfl, trivial⟩, trivial, rfl, rfl, ⟨rfl, rfl, b, c, hsl, rfl⟩⟩ r (⟨f, tm, it :: k, d, .run, kd, ro⟩ :: cs) (fun q => by cases q)
      refine ⟨σ', w', x, a1, a2, a3, ?_⟩
      refine Steps.head (m₁ := lone (Frame.round b fn (parms ps.toList xs tmps) a bd .normal) (⟨f, tm, it :: k, d, .run, kd, ro⟩ :: cs) w) (step_lone_go ?_) (a4 _ _ rfl)
      rw [hg]
      rw [hy] at hr
      cases it <;> simp [stepG.apply, hr, Sem.runT_eq]
    · cases hst
  | defer g args => cases hst
  | recover => cases hst

end
end Go.Ev
/- The evaluator's soundness: communications of a machine of one. -/
set_option linter.unusedSimpArgs false
set_option linter.unusedVariables false
namespace Go.Ev
open Go.Conc

section
variable {P : Program} {fr : Frame} {cs : List Frame} {w w₁ : World} {es : Array Event} {c cap s r : Nat} {buf : Array Value} {z z' v : Value} {tm closed : Bool}
theorem step_sel_recv_buf (h : stepG P true (G fr cs) w = .comm (G fr cs) #[rcase c z] true .select w₁ es) (hc : w₁.heap[c]? = some (.chan cap buf closed s r tm)) (hsome : 0 < buf.size) :
    step P (solo (G fr cs) w) = .next (solo (G (fr.finish (.tuple #[goInt 0, .bool true, buf.getD 0 undef])) cs) (w₁.setChan c cap (buf.extract 1 buf.size) closed s (r + 1) tm)) := by
  have hp := partners_alone (c := c) true
  rw [step, stepT_solo rfl]
  simp [runT, solo, G, Array.swapAt!, Array.swapAt, h, GStep.es, communicate, ways, rcase, hc, hp, hsome, choose, Sem.run, Question.forced, bind, Sem.bind, pure, Goroutine.finishComm, commResult, World.setChan] at h ⊢
theorem step_sel_recv_shut (h : stepG P true (G fr cs) w = .comm (G fr cs) #[rcase c z] true .select w₁ es) (hc : w₁.heap[c]? = some (.chan cap #[] true s r tm)) :
    step P (solo (G fr cs) w) = .next (solo (G (fr.finish (.tuple #[goInt 0, .bool false, z])) cs) w₁) := by
  have hp := partners_alone (c := c) true
  rw [step, stepT_solo rfl]
  simp [runT, solo, G, Array.swapAt!, Array.swapAt, h, GStep.es, communicate, ways, rcase, hc, hp, choose, Sem.run, Question.forced, bind, Sem.bind, pure, Goroutine.finishComm, commResult] at h ⊢
end

section
variable {P : Program} {E : Env} {σ : Sg} {w : World} {h h' : H}

theorem apply_comm {cf : Frame} {cs : List Frame} {sm : Sem Next} {cases : Array CommCase} {bl : Bool} {shape : CommShape} {s : GStep} (hs : s = stepG.apply P true cf cs none sm w) (hr : sm.run P w = .ok (.comm cases bl shape) w) :
    ∃ es, s = .comm (G cf cs) cases bl shape w es := by
  subst hs
  simp only [stepG.apply, Sem.runT_eq, hr]
  exact ⟨_, rfl⟩

def CommTo (P : Program) (σ : Sg) (h : H) (w : World) (cf : Frame) (v : AV) (h' : H) : Prop :=
  ∃ w' x, conc σ v = some x ∧ HRel σ h' w'.heap ∧ Ext σ h w σ h' w' ∧ ∀ cs, Steps P (lone cf cs w) (lone (cf.finish x) cs w')

theorem chan_put (r : HRel σ h w.heap) {i b c : Nat} {cap : Nat} {buf : List AV} {cl : Bool} (hg : h.t.get i = some (.chan cap buf cl)) (hs : σ i = some (b, c)) {o : Obj} (hb : w.heap[b]? = some o) {buf' : List AV} {l : List Value} (hl : concL σ buf' = some l) (cl' : Bool) (s rc : Nat) :
    HRel σ ⟨h.next, T.set (some (.chan cap buf' cl')) h.t i⟩ (w.setChan b cap ⟨l⟩ cl' s rc false).heap ∧ Ext σ h w σ ⟨h.next, T.set (some (.chan cap buf' cl')) h.t i⟩ (w.setChan b cap ⟨l⟩ cl' s rc false) :=
  put_set r hg hs hb (.chan cap buf' cl') (.chan cap ⟨l⟩ cl' s rc false) ⟨rfl, hl, rfl, rfl⟩

theorem chanA_inv {c : AV} {i cap : Nat} {buf : List AV} {cl : Bool} (hc : chanA c h = some (i, cap, buf, cl)) : c = .chan (some i) ∧ h.t.get i = some (.chan cap buf cl) := by
  unfold chanA at hc
  split at hc
  · split at hc
    · rename_i hg; cases hc; exact ⟨rfl, hg⟩
    · cases hc
  · cases hc
/-- a channel, found -/
theorem chan_at (r : HRel σ h w.heap) {a : AV} {x : Value} (ha : conc σ a = some x) {i cap : Nat} {buf : List AV} {cl : Bool} (hc : chanA a h = some (i, cap, buf, cl)) :
    ∃ b c buf' s rc, σ i = some (b, c) ∧ x = .chan (some b) ∧ h.t.get i = some (.chan cap buf cl) ∧ w.heap[b]? = some (.chan cap ⟨buf'⟩ cl s rc false) ∧ concL σ buf = some buf' := by
  obtain ⟨rfl, hg⟩ := chanA_inv hc
  obtain ⟨b, c, s1, e1⟩ := conc_chan ha
  obtain ⟨b', c', x', h1, h2, h3⟩ := r.objs _ _ hg
  rw [s1] at h1; cases h1
  obtain ⟨⟨buf'⟩, s, rc, rfl, hbf⟩ := h3.inv_chan
  exact ⟨b, c, buf', s, rc, s1, e1, hg, h2, hbf⟩
theorem push_mk (l : List Value) (y : Value) : (⟨l⟩ : Array Value).push y = ⟨l ++ [y]⟩ := by simp
theorem extract_one (l : List Value) (y : Value) : (⟨y :: l⟩ : Array Value).extract 1 = ⟨l⟩ := by simp
theorem room_of {buf : List AV} {buf' : List Value} {cap : Nat} (hbf : concL σ buf = some buf') (hlt : Nat.blt buf.length cap = true) : (⟨buf'⟩ : Array Value).size < cap := by
  have := concL_length hbf
  have := blt_true.1 hlt
  simp at *; omega
theorem full_of {buf : List AV} {buf' : List Value} {cap : Nat} (hbf : concL σ buf = some buf') (hlt : Nat.blt buf.length cap = false) : cap ≤ (⟨buf'⟩ : Array Value).size := by
  have := concL_length hbf
  have : ¬ buf.length < cap := fun q => by rw [blt_true.2 q] at hlt; cases hlt
  simp at *; omega

theorem send_sound (r : HRel σ h w.heap) {a b : AV} {x y : Value} (ha : conc σ a = some x) (hb : conc σ b = some y) {v : AV} (hc : sendA a b h = some (v, h')) {cf : Frame} {sm : Sem Next}
    (hg : ∀ cs, stepG P true (G cf cs) w = stepG.apply P true cf cs none sm w) (hr : ∀ k, x = .chan (some k) → sm.run P w = .ok (.comm #[scase k y (.tuple #[])] true .send) w) : CommTo P σ h w cf v h' := by
  unfold sendA at hc
  split at hc
  · rename_i i cap buf cl hch
    obtain ⟨bk, c, buf', s, rc, s1, e1, hg1, h2, hbf⟩ := chan_at r ha hch
    cases cl with
    | true => cases hc
    | false =>
      simp only [cond_false] at hc
      cases hlt : Nat.blt buf.length cap with
      | false => rw [hlt] at hc; cases hc
      | true =>
        rw [hlt] at hc; simp only [cond_true, fL_eq, putO_eq] at hc; cases hc
        have hl : concL σ (buf ++ [b]) = some (buf' ++ [y]) := concL_append hbf (concL_one.2 hb)
        obtain ⟨g1, g2⟩ := chan_put r hg1 s1 h2 hl false (s + 1) rc
        refine ⟨_, undef, conc_undef σ, g1, g2, fun cs => .one ?_⟩
        obtain ⟨es, he⟩ := apply_comm (hg cs) (hr bk e1)
        have := step_lone_send_room he h2 (room_of hbf hlt)
        rw [push_mk] at this; exact this
  · cases hc

theorem recv_sound (hE : EnvOk P E) (r : HRel σ h w.heap) {t : TypeId} {ok : Bool} {a : AV} {x : Value} (ha : conc σ a = some x) {v : AV} (hc : recvA E t ok a h = some (v, h')) {cf : Frame} {sm : Sem Next}
    (hg : ∀ cs, stepG P true (G cf cs) w = stepG.apply P true cf cs none sm w)
    (hr : ∀ k ti dir e z, x = .chan (some k) → TOk P t ti → ti.desc = .chan dir e → (∀ w, (zeroValue e).run P w = .ok z w) → sm.run P w = .ok (.comm #[rcase k z] true (.recv ok)) w) : CommTo P σ h w cf v h' := by
  unfold recvA at hc
  cases hgt : E.ts.get t with
  | none => simp [hgt] at hc
  | some ti =>
    have ht := hE.ts _ _ hgt
    simp only [hgt] at hc
    split at hc
    · rename_i dir e hd
      cases hge : E.ts.get e with
      | none => simp [hge] at hc
      | some y =>
        obtain ⟨z, hz1, hz2⟩ := (hE.ts _ _ hge).zero
        simp only [hge] at hc
        split at hc
        · cases hc
        · rename_i i cap buf cl hch
          obtain ⟨bk, c, buf', s, rc, s1, e1, hg1, h2, hbf⟩ := chan_at r ha hch
          have hcases := hr bk ti dir e z e1 ht hd hz1
          cases buf with
          | cons u buf =>
            obtain ⟨x', l, q1, q2, q3⟩ := concL_cons.1 hbf
            subst q3
            simp only [putO_eq] at hc
            obtain ⟨g1, g2⟩ := chan_put r hg1 s1 h2 q2 cl s (rc + 1)
            refine ⟨w.setChan bk cap ⟨l⟩ cl s (rc + 1) false, got ok x' true, ?_, ?_, ?_, fun cs => .one ?_⟩
            rotate_left 3
            · obtain ⟨es, he⟩ := apply_comm (hg cs) hcases
              have := step_lone_recv_buf ok he h2 (by simp)
              rw [extract_one] at this; exact this
            all_goals cases ok <;> simp only [cond_true, cond_false] at hc <;> cases hc
            · simpa [got] using q1
            · simp [got, conc, concL, q1]
            · exact g1
            · exact g1
            · exact g2
            · exact g2
          | nil =>
            rw [concL_nil] at hbf
            subst hbf
            cases cl with
            | false => cases hc
            | true =>
              simp only [cond_true] at hc
              refine ⟨w, got ok z false, ?_, ?_, ?_, fun cs => .one ?_⟩
              rotate_left 3
              · obtain ⟨es, he⟩ := apply_comm (hg cs) hcases
                exact step_lone_recv_shut ok he h2
              all_goals cases ok <;> simp only [cond_true, cond_false] at hc <;> cases hc
              · simpa [got] using hz2 σ
              · simp [got, conc, concL, hz2]
              · exact r
              · exact r
              · exact Ext.refl _ _ _
              · exact Ext.refl _ _ _
    · cases hc

theorem selRecv_sound (hE : EnvOk P E) (r : HRel σ h w.heap) {e : TypeId} {bl : Bool} {a : AV} {x : Value} (ha : conc σ a = some x) {v : AV} (hc : selRecvA E bl e a h = some (v, h')) {cf : Frame} {sm : Sem Next}
    (hg : ∀ cs, stepG P true (G cf cs) w = stepG.apply P true cf cs none sm w)
    (hr : ∀ k z, x = .chan (some k) → (∀ w, (zeroValue e).run P w = .ok z w) → sm.run P w = .ok (.comm #[rcase k z] bl .select) w) : CommTo P σ h w cf v h' := by
  unfold selRecvA at hc
  cases hge : E.ts.get e with
  | none => simp [hge] at hc
  | some y =>
    obtain ⟨z, hz1, hz2⟩ := (hE.ts _ _ hge).zero
    simp only [hge] at hc
    split at hc
    · cases hc
    · rename_i i cap buf cl hch
      obtain ⟨bk, c, buf', s, rc, s1, e1, hg1, h2, hbf⟩ := chan_at r ha hch
      have hcases := hr bk z e1 hz1
      cases buf with
      | cons u buf =>
        obtain ⟨x', l, q1, q2, q3⟩ := concL_cons.1 hbf
        subst q3
        simp only [putO_eq] at hc; cases hc
        obtain ⟨g1, g2⟩ := chan_put r hg1 s1 h2 q2 cl s (rc + 1)
        refine ⟨_, .tuple #[goInt 0, .bool true, x'], by simp [conc, concL, q1, goInt], g1, g2, fun cs => .one ?_⟩
        obtain ⟨es, he⟩ := apply_comm (hg cs) hcases
        cases bl with
        | false =>
          have := step_lone_select_recv_buf he h2 (by simp)
          rw [extract_one] at this; exact this
        | true =>
          have := step_sel_recv_buf he h2 (by simp)
          rw [extract_one] at this; exact this
      | nil =>
        rw [concL_nil] at hbf
        subst hbf
        cases cl with
        | true =>
          simp only [cond_true] at hc; cases hc
          refine ⟨w, .tuple #[goInt 0, .bool false, z], by simp [conc, concL, hz2, goInt], r, Ext.refl _ _ _, fun cs => .one ?_⟩
          obtain ⟨es, he⟩ := apply_comm (hg cs) hcases
          cases bl with
          | false => exact step_lone_select_recv_shut he h2
          | true => exact step_sel_recv_shut he h2
        | false =>
          cases bl with
          | true => cases hc
          | false =>
            simp only [cond_false] at hc; cases hc
            refine ⟨w, .tuple #[goInt (-1), .bool false, z], by simp [conc, concL, hz2, goInt], r, Ext.refl _ _ _, fun cs => .one ?_⟩
            obtain ⟨es, he⟩ := apply_comm (hg cs) hcases
            exact step_lone_select_default he h2

theorem selSend_sound (hE : EnvOk P E) (r : HRel σ h w.heap) {e : TypeId} {a b : AV} {x u : Value} (ha : conc σ a = some x) (hb : conc σ b = some u) {v : AV} (hc : selSendA E e a b h = some (v, h')) {cf : Frame} {sm : Sem Next}
    (hg : ∀ cs, stepG P true (G cf cs) w = stepG.apply P true cf cs none sm w)
    (hr : ∀ k z, x = .chan (some k) → (∀ w, (zeroValue e).run P w = .ok z w) → sm.run P w = .ok (.comm #[scase k u z] false .select) w) : CommTo P σ h w cf v h' := by
  unfold selSendA at hc
  cases hge : E.ts.get e with
  | none => simp [hge] at hc
  | some y =>
    obtain ⟨z, hz1, hz2⟩ := (hE.ts _ _ hge).zero
    simp only [hge] at hc
    split at hc
    · cases hc
    · rename_i i cap buf cl hch
      obtain ⟨bk, c, buf', s, rc, s1, e1, hg1, h2, hbf⟩ := chan_at r ha hch
      have hcases := hr bk z e1 hz1
      cases cl with
      | true => cases hc
      | false =>
        simp only [cond_false] at hc
        cases hlt : Nat.blt buf.length cap with
        | false =>
          rw [hlt] at hc; simp only [cond_false] at hc; cases hc
          refine ⟨w, .tuple #[goInt (-1), .bool false], by simp [conc, concL, goInt], r, Ext.refl _ _ _, fun cs => .one ?_⟩
          obtain ⟨es, he⟩ := apply_comm (hg cs) hcases
          exact step_lone_select_send_full he h2 (full_of hbf hlt)
        | true =>
          rw [hlt] at hc; simp only [cond_true, fL_eq, putO_eq] at hc; cases hc
          have hl : concL σ (buf ++ [b]) = some (buf' ++ [u]) := concL_append hbf (concL_one.2 hb)
          obtain ⟨g1, g2⟩ := chan_put r hg1 s1 h2 hl false (s + 1) rc
          refine ⟨_, .tuple #[goInt 0, .bool false], by simp [conc, concL, goInt], g1, g2, fun cs => .one ?_⟩
          obtain ⟨es, he⟩ := apply_comm (hg cs) hcases
          have := step_lone_select_send_room he h2 (room_of hbf hlt)
          rw [push_mk] at this; exact this

theorem comm_sound (hE : EnvOk P E) (r : HRel σ h w.heap) {o : Oper} {ρ : Operand → Value} {vs : List AV} (hv : concL σ vs = some (o.op.operands.toList.map ρ)) {v : AV} (hc : commA E o.op vs h = some (v, h')) {cf : Frame}
    (hg : ∀ cs, stepG P true (G cf cs) w = stepG.apply P true cf cs none (execOp ρ o) w) : CommTo P σ h w cf v h' := by
  obtain ⟨dst, op, type, pos, after, guard⟩ := o
  simp only at hv hc
  cases op
  case send ch x =>
    obtain ⟨a, b, rfl, ha, hb⟩ := inv2 (by simpa [Op.operands] using hv)
    exact send_sound r ha hb hc hg (fun k e => by simp [execOp, scase, e])
  case recv t ch ok =>
    obtain ⟨a, rfl, ha⟩ := inv1 (by simpa [Op.operands] using hv)
    exact recv_sound hE r ha hc hg (fun k ti dir e z q1 q2 q3 q4 => by simp [execOp, rcase, q1, q2.run, q3, q4])
  case select cases bl =>
    obtain ⟨cases⟩ := cases
    simp only [commA, selA] at hc
    split at hc
    · rename_i c
      obtain ⟨cho, so, e⟩ := c
      cases so with
      | none =>
        obtain ⟨a, rfl, ha⟩ := inv1 (by simpa [Op.operands] using hv)
        exact selRecv_sound hE r ha hc hg (fun k z q1 q2 => by simp [execOp, rcase, q1, q2, Array.mapM_eq_mapM_toList])
      | some so =>
        obtain ⟨a, b, rfl, ha, hb⟩ := inv2 (by simpa [Op.operands] using hv)
        cases bl with
        | true => cases hc
        | false => exact selSend_sound hE r ha hb hc hg (fun k z q1 q2 => by simp [execOp, scase, q1, q2, Array.mapM_eq_mapM_toList])
    · cases hc
  all_goals (simp only [commA] at hc; cases hc)

end
end Go.Ev
/- The evaluator's soundness: frames run to their ends. -/
set_option linter.unusedSimpArgs false
set_option linter.unusedVariables false
namespace Go.Ev
open Go.Conc

section
variable {P : Program} {E : Env} {σ σ₁ : Sg} {w w₁ : World} {h h₁ h' : H} {fr fr₁ : AF} {cf cf₁ : Frame} {v : AV}

def modeOf (fr : AF) : FrameMode := if fr.ret then .returning else .run
def kindOf (fr : AF) : CallKind := if fr.deferred then .deferred else .normal
def roundRel (σ : Sg) (fr : AF) (ro : Option Nat) : Prop :=
  match fr.roundOf with
  | none => ro = none
  | some l => fr.deferred = false ∧ fr.ret = false ∧ ∃ b c, σ l = some (b, c) ∧ ro = some b
theorem FRel.inv (r : FRel σ fr cf) : ∃ tm k d ro, cf = ⟨fr.fn, tm, k, d, modeOf fr, kindOf fr, ro⟩ ∧ TRel σ fr.nt fr.tm tm ∧ KRel σ fr.todo k ∧ DLRel σ fr.defers d ∧ roundRel σ fr ro := by
  obtain ⟨f, tm, k, d, m, kd, ro⟩ := cf
  obtain ⟨h1, h2, h3, h4, h5, h6, h7⟩ := r
  simp only at h1 h2 h3 h4 h5 h6 h7
  subst h1 h5 h6
  refine ⟨tm, k, d, ro, rfl, h2, h3, h4, ?_⟩
  unfold roundRel
  exact h7
theorem FRel.mk' {tm : Array Value} {k : List Item} {d : List Deferred} {ro : Option Nat} (h2 : TRel σ fr.nt fr.tm tm) (h3 : KRel σ fr.todo k) (h4 : DLRel σ fr.defers d) (h7 : roundRel σ fr ro) :
    FRel σ fr ⟨fr.fn, tm, k, d, modeOf fr, kindOf fr, ro⟩ := by
  refine ⟨rfl, h2, h3, h4, rfl, rfl, ?_⟩
  unfold roundRel at h7
  exact h7
theorem roundRel.mono (hs : Sub σ σ₁) {ro : Option Nat} (r : roundRel σ fr ro) : roundRel σ₁ fr ro := by
  unfold roundRel at *
  cases hr : fr.roundOf with
  | none => simpa [hr] using r
  | some l => simp only [hr] at r ⊢; obtain ⟨h1, h2, b, c, h3, h4⟩ := r; exact ⟨h1, h2, b, c, hs _ _ h3, h4⟩

theorem Done.next {rc : AF → H → Option (AV × H)} (hrc : RC P rc) (hs : ∀ cs, okCs fr cs → Steps P (lone cf cs w) (lone cf₁ cs w₁)) (e1 : fr₁.fn = fr.fn) (e2 : fr₁.roundOf = fr.roundOf) (e3 : fr₁.deferred = fr.deferred)
    (hx : Ext σ h w σ₁ h₁ w₁) (hb : rc fr₁ h₁ = some (v, h')) (hf : FRel σ₁ fr₁ cf₁) (hh : HRel σ₁ h₁ w₁.heap) : Done P σ h w fr cf v h' :=
  (hrc _ _ _ _ hb σ₁ cf₁ w₁ hf hh).of_steps hs e1 e2 e3 hx

/-- a value taken by an operation of a region -/
theorem putK {fn : FuncId} {tm : Array Value} {k : List Item} {d : List Deferred} {kd : CallKind} {ro : Option Nat} {ops : Array Oper} {i : Nat} {rest : List Nat} {o : Oper} (ho : ops[i]? = some o) (x : Value) :
    (Frame.mk fn tm (.inRegion ops (i :: rest) :: k) d .run kd ro).finish x = ⟨fn, putT o.dst x tm, .inRegion ops rest :: k, d, .run, kd, ro⟩ := by
  rw [fin_op, ho]; rfl

theorem leave_sound {rc : AF → H → Option (AV × H)} (hrc : RC P rc) {jump : Option Code} (hb : leaveA rc fr jump h = some (v, h')) (hret : fr.ret = false)
    (hf : FRel σ fr cf) (r : HRel σ h w.heap)
    (hj : ∀ {tm : Array Value} {k : List Item} {d : List Deferred}, cf = ⟨fr.fn, tm, k, d, .run, kindOf fr, none⟩ → (jump = none ∨ jump = some .ret) → ∀ cs, step P (lone cf cs w) = .next (lone ⟨fr.fn, tm, k, d, .returning, kindOf fr, none⟩ cs w))
    (hl : ∀ {tm : Array Value} {k : List Item} {d : List Deferred} {l : Nat} {x : Value} {w' : World}, cf = ⟨fr.fn, tm, k, d, .run, .normal, some l⟩ → (Instr.endRound l jump).run P w = .ok x w' → ∀ c cs, step P (lone cf (c :: cs) w) = .next (lone (c.finish x) cs w')) :
    Done P σ h w fr cf v h' := by
  obtain ⟨tm, k, d, ro, rfl, h2, h3, h4, h7⟩ := hf.inv
  have hm : modeOf fr = .run := by simp [modeOf, hret]
  rw [hm] at hj hl ⊢
  unfold leaveA at hb
  cases hro : fr.roundOf with
  | none =>
    simp only [hro] at hb
    have hro' : ro = none := by simp only [roundRel, hro] at h7; exact h7
    subst hro'
    have key : rc { fr with ret := true } h = some (v, h') → (jump = none ∨ jump = some .ret) → Done P σ h w fr ⟨fr.fn, tm, k, d, .run, kindOf fr, none⟩ v h' := fun hb hjj =>
      Done.next hrc (fr₁ := { fr with ret := true }) (fun cs _ => .one (hj rfl hjj cs)) rfl rfl rfl (Ext.refl _ _ _) hb
        (FRel.mk' (fr := { fr with ret := true }) h2 h3 h4 (by simp only [roundRel, hro])) r
    cases jump with
    | none => simp only at hb; rw [← hro] at hb; exact key hb (.inl rfl)
    | some c => cases c <;> simp only at hb <;> first | (rw [← hro] at hb; exact key hb (.inr rfl)) | cases hb
  | some l =>
    simp only [hro, endRoundA] at hb
    have h7' := h7
    simp only [roundRel, hro] at h7'
    obtain ⟨hd, _, b, c, hs, rfl⟩ := h7'
    have hkd : kindOf fr = .normal := by simp [kindOf, hd]
    rw [hkd] at hl ⊢
    split at hb
    · rename_i st pend fn nt ltm ps a bd df hgl
      obtain ⟨b', c', x', g1, g2, g3⟩ := r.objs _ _ hgl
      rw [hs] at g1; cases g1
      obtain ⟨tmps, kk, c2, rfl, ht, hdf⟩ := g3.inv_loop
      simp only [putO_eq] at hb
      have hrun := run_endRound (P := P) jump g2
      have hput := put_set r hgl hs g2 (.loop (cond jump.isNone .ready .done) jump fn nt ltm ps a bd df)
        (.loop { state := if jump.isNone then .ready else .done, pending := jump, fn := fn, tmps := tmps, params := ps, assign := a, body := bd, defers := kk })
        ⟨by cases jump <;> rfl, rfl, rfl, ht, rfl, rfl, rfl, c2, hdf⟩
      cases hb
      intro cs0 _
      refine ⟨σ, _, .bool jump.isNone, rfl, hput.1, hput.2, ?_⟩
      simp only [EndsC, hro]
      intro c cs _
      exact .one (hl rfl hrun c cs)
    · cases hb


theorem step_go_of {cf0 : Frame} {cs : List Frame} {w0 : World} {s : GStep} {fr' : Frame} {cs' : List Frame} {w' : World}
    (hg : (stepG P true { frame := cf0, callers := cs, status := .running, dying := none } w0).bare = s.bare)
    (h : s.bare = .go { frame := fr', callers := cs', status := .running, dying := none } w') : step P (lone cf0 cs w0) = .next (lone fr' cs' w') :=
  step_lone_go (hg.trans h)

/-- a call that is made at the begin of a range over a function -/
theorem apply_sound2 (hE : EnvOk P E) {rc : AF → H → Option (AV × H)} (hrc : RC P rc) (r : HRel σ h w.heap) {cf0 : Frame} {w0 : World} {f : FuncId} {tm : Array Value} {it : Item} {k : List Item} {d : List Deferred} {kd : CallKind} {ro : Option Nat}
    (hit : ∀ q b s t, it ≠ .call q b s t) {s : Sem Next}
    (hg : ∀ cs, (stepG P true { frame := cf0, callers := cs, status := .running, dying := none } w0).bare = (stepG.apply P true ⟨f, tm, it :: k, d, .run, kd, ro⟩ cs none s w).bare)
    {n : AN} {h₀ : H} (hn : NSim P σ h w s n h₀) (hst : stepA E rc (some (n, h₀)) = some (v, h')) :
    ∀ cs, ∃ σ' w' x, conc σ' v = some x ∧ HRel σ' h' w'.heap ∧ Ext σ h w σ' h' w' ∧ Steps P (lone cf0 cs w0) (lone ((Frame.mk f tm (it :: k) d .run kd ro).finish x) cs w') := by
  intro cs
  cases n with
  | val u =>
    simp only [stepA] at hst; cases hst
    obtain ⟨σ', w', x, g1, g2, g3, g4⟩ := hn
    refine ⟨σ', w', x, g2, g3, g4, .one (step_go_of (hg cs) ?_)⟩
    rcases g1 with g1 | ⟨g1, rfl⟩ <;> simp [stepG.apply, g1, Sem.runT_eq]
  | enter g args =>
    simp only [stepA] at hst
    obtain ⟨rfl, xs, hxs, hr⟩ := hn
    cases ho : orcR E g args _ with
    | some r0 =>
      rw [ho] at hst; simp only [Option.some.injEq] at hst; subst hst
      obtain ⟨e, w', fr', ⟨σ', x, rfl, a1, a2, a3⟩, s1, q1, q2⟩ := orcR_ok hE ho hxs r (⟨f, tm, it :: k, d, .run, kd, ro⟩ :: cs)
      refine ⟨σ', w', x, a1, a2, a3, ?_⟩
      refine Steps.head (m₁ := lone (Frame.enter P g ⟨xs⟩ .normal) (⟨f, tm, it :: k, d, .run, kd, ro⟩ :: cs) w) (step_go_of (hg cs) ?_) (Steps.trans s1 (.one (step_leave_returned q2)))
      cases it <;> first | exact absurd rfl (hit _ _ _ _) | simp [stepG.apply, hr, Sem.runT_eq]
    | none =>
    rw [ho] at hst; simp only at hst
    obtain ⟨gr, h1, h2, h3, h4, h5, h6⟩ := enter_rel hE hst
    obtain ⟨σ', w', x, a1, a2, a3, a4⟩ := hrc gr _ _ _ h1 σ _ w (h6 σ xs hxs) r (⟨f, tm, it :: k, d, .run, kd, ro⟩ :: cs) (fun _ q => by rw [h4] at q; cases q)
    refine ⟨σ', w', x, a1, a2, a3, ?_⟩
    simp only [EndsC, h3] at a4
    obtain ⟨cf', s1, q1, q2, q3, q4, fn, q5, q6⟩ := a4
    refine Steps.head (m₁ := lone (Frame.enter P g ⟨xs⟩ .normal) (⟨f, tm, it :: k, d, .run, kd, ro⟩ :: cs) w) (step_go_of (hg cs) ?_) (Steps.trans s1 (.one ?_))
    · cases it <;> first | exact absurd rfl (hit _ _ _ _) | simp [stepG.apply, hr, Sem.runT_eq]
    · rw [h4] at q4
      exact step_leave_returned ⟨q2, q3, q4, fn, by rw [q1]; exact q5, q6⟩
  | round l args =>
    simp only [stepA] at hst
    obtain ⟨rfl, b, c, xs, hsl, hxs, hr⟩ := hn
    split at hst
    · rename_i st pend fn nt ltm ps a bd df hgl
      obtain ⟨b', c', x', h1, h2, h3⟩ := r.objs _ _ hgl
      rw [hsl] at h1; cases h1
      obtain ⟨tmps, kk, c2, rfl, ht, hdf⟩ := h3.inv_loop
      obtain ⟨tm', e1, e2, e3⟩ := setParams_rel hst
      have hsz : (⟨xs⟩ : Array Value).size = ps.size := by
        have := concL_length hxs
        simp at e2 ⊢; omega
      have hy := run_yield (P := P) (args := ⟨xs⟩) h2 hsz
      have hfold : (ps.zip (⟨xs⟩ : Array Value)).foldl (fun tmps (t, a) => tmps.setIfInBounds t a) tmps = parms ps.toList xs tmps := by
        rw [← parms_eq, ← Array.foldl_toList]; simp
      rw [hfold] at hy
      obtain ⟨σ', w', x, a1, a2, a3, a4⟩ := hrc _ _ _ _ e1 σ (Frame.round b fn (parms ps.toList xs tmps) a bd .normal) w
        ⟨rfl, e3 σ tmps xs ht hxs, ⟨rfl, trivial, rfl, trivial⟩, trivial, rfl, rfl, ⟨rfl, rfl, b, c, hsl, rfl⟩⟩ r (⟨f, tm, it :: k, d, .run, kd, ro⟩ :: cs) (fun q => by cases q)
      refine ⟨σ', w', x, a1, a2, a3, ?_⟩
      refine Steps.head (m₁ := lone (Frame.round b fn (parms ps.toList xs tmps) a bd .normal) (⟨f, tm, it :: k, d, .run, kd, ro⟩ :: cs) w) (step_go_of (hg cs) ?_) (a4 _ _ rfl)
      rw [hy] at hr
      cases it <;> simp [stepG.apply, hr, Sem.runT_eq]
    · cases hst
  | defer g args => cases hst
  | recover => cases hst

theorem run_enterLoop_inner {l : Nat} {r : Loop} (hl : w.heap[l]? = some (.loop r)) (fn : FuncId) (tmps : Array Value) (ps : Array Tmp) (assign body : Code) :
    (Instr.enterLoop fn tmps ps assign body (some l)).run P w =
      .ok (w.heap.size, []) (w.alloc (.loop { state := .ready, pending := none, fn, tmps, params := ps, assign, body, defers := r.defers })) := by
  unfold Instr.enterLoop
  simp only [Sem.run_bind, run_newObj_alloc, Result.andThen, Sem.run_pure, run_getLoop hl]

theorem st_range {fn : FuncId} {tm : Array Value} {k : List Item} {d : List Deferred} {kd : CallKind} {ro : Option Nat} {cs : List Frame} {f : Operand} {ps : Array Tmp} {a b : Code} {l : Nat} {mark : List Deferred}
    (he : (Instr.enterLoop fn tm ps a b ro).run P w = .ok (l, mark) w₁) :
    (stepG P true { frame := ⟨fn, tm, .code (.rangeFunc f ps a b) :: k, d, .run, kd, ro⟩, callers := cs, status := .running, dying := none } w).bare =
      (stepG.apply P true ⟨fn, tm, .inRangeFunc l :: k, mark ++ d, .run, kd, ro⟩ cs none
        (do let d ← resolve (evT tm) { callee := .value f, args := #[.const (.func (.yield l) #[] #[])], argTypes := #[] } 0; invoke d.target d.args) w₁).bare := by
  have e := eval_evT (Frame.mk fn tm (.inRangeFunc l :: k) (mark ++ d) .run kd ro)
  simp only at e
  simp only [stepG, stepG.exec, Sem.runT_eq, he, GStep.bare_after, e]

theorem alloc_both (r : HRel σ h w.heap) (o : AObj) (x : Obj) (c : Nat) (hx : ORel (upd σ h.next (w.heap.size, c)) c o x) :
    HRel (upd σ h.next (w.heap.size, c)) ⟨h.next + 1, T.set (some o) h.t h.next⟩ (w.alloc x).heap ∧
    Ext σ h w (upd σ h.next (w.heap.size, c)) ⟨h.next + 1, T.set (some o) h.t h.next⟩ (w.alloc x) :=
  ⟨(r.alloc o x c hx).1, (r.alloc o x c hx).2 _ rfl rfl rfl rfl⟩

/-- a range over a function, its record laid -/
theorem range_go (hE : EnvOk P E) {rc : AF → H → Option (AV × H)} (hrc : RC P rc) (r : HRel σ h w.heap) {f : Operand} {params : Array Tmp} {assign body : Code} {k : List AItem} {df : Nat} {mark : List ADf}
    {tm : Array Value} {k' : List Item} {d : List Deferred} {ro : Option Nat} {fv : AV} {kk c0 : Nat}
    (h2 : TRel σ fr.nt fr.tm tm) (h3 : KRel σ k k') (h4 : DLRel σ (mark ++ fr.defers) d) (h7 : roundRel σ fr ro) (hret : fr.ret = false) (hdf : σ df = some (kk, c0)) (hfv : aev fr.tm f = some fv)
    {w0 : World} {cf0 : Frame}
    (hg : ∀ cs, (stepG P true { frame := cf0, callers := cs, status := .running, dying := none } w0).bare =
      (stepG.apply P true ⟨fr.fn, tm, .inRangeFunc w.heap.size :: k', d, .run, kindOf fr, ro⟩ cs none
        (do let d ← resolve (evT tm) { callee := .value f, args := #[.const (.func (.yield w.heap.size) #[] #[])], argTypes := #[] } 0; invoke d.target d.args)
        (w.alloc (.loop { state := .ready, pending := none, fn := fr.fn, tmps := tm, params := params, assign := assign, body := body, defers := kk }))).bare)
    (hb : (match stepA E rc (valueCallA E fv [.yield h.next] ⟨h.next + 1, T.set (some (.loop .ready none fr.fn fr.nt fr.tm params assign body df)) h.t h.next⟩) with
        | some (_, h₂) => rc { fr with todo := .endRangeFunc h.next :: k, defers := mark ++ fr.defers } h₂
        | none => none) = some (v, h')) :
    ∀ cs, ∃ σ₁ h₁ w₁ cf₁, (Steps P (lone cf0 cs w0) (lone cf₁ cs w₁)) ∧ Ext σ h w σ₁ h₁ w₁ ∧ HRel σ₁ h₁ w₁.heap ∧
      rc { fr with todo := .endRangeFunc h.next :: k, defers := mark ++ fr.defers } h₁ = some (v, h') ∧ FRel σ₁ { fr with todo := .endRangeFunc h.next :: k, defers := mark ++ fr.defers } cf₁ := by
  have hs1 : Sub σ (upd σ h.next (w.heap.size, 0)) := sub_upd _ (r.fresh _ (Nat.le_refl _))
  obtain ⟨g1, g2⟩ := alloc_both r (.loop .ready none fr.fn fr.nt fr.tm params assign body df)
    (.loop { state := .ready, pending := none, fn := fr.fn, tmps := tm, params := params, assign := assign, body := body, defers := kk }) 0
    ⟨rfl, rfl, rfl, h2.mono hs1, rfl, rfl, rfl, c0, hs1 _ _ hdf⟩
  cases hst : stepA E rc (valueCallA E fv [.yield h.next] ⟨h.next + 1, T.set (some (.loop .ready none fr.fn fr.nt fr.tm params assign body df)) h.t h.next⟩) with
  | none => rw [hst] at hb; cases hb
  | some p =>
    obtain ⟨u, h₂⟩ := p
    rw [hst] at hb; simp only at hb
    cases hv : valueCallA E fv [.yield h.next] ⟨h.next + 1, T.set (some (.loop .ready none fr.fn fr.nt fr.tm params assign body df)) h.t h.next⟩ with
    | none => rw [hv] at hst; cases hst
    | some q =>
      obtain ⟨n, h₀⟩ := q
      rw [hv] at hst
      have hcf := aev_sound (h2.mono hs1) hfv
      have hy : concL (upd σ h.next (w.heap.size, 0)) [.yield h.next] = some [.func (.yield w.heap.size) #[] #[]] := concL_one.2 (by simp [conc, upd_self])
      obtain ⟨dd, e1, e2⟩ := valueCall_sound hE g1 hcf hy hv
      have hn : NSim P (upd σ h.next (w.heap.size, 0)) ⟨h.next + 1, T.set (some (.loop .ready none fr.fn fr.nt fr.tm params assign body df)) h.t h.next⟩
          (w.alloc (.loop { state := .ready, pending := none, fn := fr.fn, tmps := tm, params := params, assign := assign, body := body, defers := kk }))
          (do let d ← resolve (evT tm) { callee := .value f, args := #[.const (.func (.yield w.heap.size) #[] #[])], argTypes := #[] } 0; invoke d.target d.args) n h₀ := by
        refine e2.congr ?_
        have e1' := e1 (w.alloc (.loop { state := .ready, pending := none, fn := fr.fn, tmps := tm, params := params, assign := assign, body := body, defers := kk }))
        simp [resolve, evT, Act.eval] at e1' ⊢
        rw [e1']
        simp [Result.andThen]
      intro cs
      obtain ⟨σ', w', x, a1, a2, a3, a4⟩ := apply_sound2 hE hrc g1 (by intro _ _ _ _ q; cases q) hg hn hst cs
      have hsub2 : Sub (upd σ h.next (w.heap.size, 0)) σ' := a3.sub g1
      refine ⟨σ', h₂, w', _, a4, g2.trans a3, a2, hb, ?_⟩
      have hm : modeOf fr = .run := by simp [modeOf, hret]
      have hsub := hs1.trans hsub2
      have := FRel.mk' (fr := { fr with todo := .endRangeFunc h.next :: k, defers := mark ++ fr.defers }) (σ := σ') (tm := tm) (k := .endRangeFunc w.heap.size :: k') (d := d) (ro := ro)
        (h2.mono hsub) ⟨⟨0, hsub2 _ _ (upd_self _ _ _)⟩, h3.mono hsub⟩ (h4.mono hsub) (roundRel.mono (fr := fr) hsub h7)
      simpa [Frame.finish, modeOf, hret, kindOf] using this

end
end Go.Ev
/- The evaluator's soundness: one stretch of a frame's run. -/
set_option linter.unusedSimpArgs false
set_option linter.unusedVariables false
namespace Go.Ev
open Go.Conc

section
variable {P : Program} {E : Env} {σ σ₁ : Sg} {w w₁ : World} {h h₁ h' : H} {fr fr₁ : AF} {cf cf₁ : Frame} {v : AV}

theorem drop_range {n i : Nat} (hi : i < n) : (List.range n).drop i = i :: (List.range n).drop (i + 1) := by
  rw [List.drop_eq_getElem_cons (by simpa using hi)]; simp

theorem effA_noDefer {o : Op} {vs : List AV} {n : AN} {h₀ : H} {c : Call} (ho : o = .defer c) (he : effA E o vs h = some (n, h₀)) : ∃ f args, n = .defer f args := by
  subst ho
  cases vs with
  | nil => simp only [effA] at he; cases he
  | cons f args =>
    simp only [effA] at he
    split at he
    · simp only [fL_eq] at he
      repeat (first | (cases he; exact ⟨_, _, rfl⟩) | split at he)
      all_goals (first | (cases he; exact ⟨_, _, rfl⟩) | cases he)
    · cases he

theorem ops_sound2 (hE : EnvOk P E) {rc rcN : AF → H → Option (AV × H)} (hrc : RC P rc) {ops : Array Oper} {o : Oper} {rest : List Oper} {k : List AItem} (ht : fr.todo = .ops ops (o :: rest) :: k) (hret : fr.ret = false)
    (hnx : ∀ fr' h₁, fr'.todo = .ops ops rest :: k → fr'.ret = false → rcN fr' h₁ = some (v, h') → ∀ σ cf w, FRel σ fr' cf → HRel σ h₁ w.heap → Done P σ h₁ w fr' cf v h')
    (hb : opsA2 E rc rcN fr h ops o rest k = some (v, h')) (hf : FRel σ fr cf) (r : HRel σ h w.heap) : Done P σ h w fr cf v h' := by
  obtain ⟨tm, tk, d, ro, rfl, h2, h3, h4, h7⟩ := hf.inv
  have hm : modeOf fr = .run := by simp [modeOf, hret]
  rw [hm]
  rw [ht] at h3
  obtain ⟨it, k', rfl, hi, hk3⟩ := h3.cons; clear h3
  have h3 := hk3
  cases it <;> simp only [IRel] at hi
  rename_i ops' todo
  obtain ⟨rfl, i, rfl, hrest⟩ := hi
  have hlt : i < ops'.size := by
    rcases Nat.lt_or_ge i ops'.size with q | q
    · exact q
    · rw [List.drop_eq_nil_of_le (by simpa using q)] at hrest; cases hrest
  have hsp : ops'[i]? = some o ∧ rest = ops'.toList.drop (i + 1) := by
    rw [List.drop_eq_getElem_cons (by simpa using hlt)] at hrest
    cases hrest
    exact ⟨by simp [hlt], rfl⟩
  obtain ⟨ho, hrest'⟩ := hsp
  rw [drop_range hlt]
  have hI : ∀ σ', IRel σ' (.ops ops' rest) (.inRegion ops' ((List.range ops'.size).drop (i + 1))) := fun _ => ⟨rfl, i + 1, rfl, hrest'⟩
  have hwa := wanted_sound h2 ops' o
  intro cs hcs
  -- what is left behind a value
  have go : ∀ {σ₁ : Sg} {w₁ : World} {h₁ : H} {u : AV} {x : Value}, conc σ₁ u = some x → HRel σ₁ h₁ w₁.heap → Ext σ h w σ₁ h₁ w₁ →
      (Steps P (lone ⟨fr.fn, tm, .inRegion ops' (i :: (List.range ops'.size).drop (i + 1)) :: k', d, .run, kindOf fr, ro⟩ cs w)
        (lone ⟨fr.fn, putT o.dst x tm, .inRegion ops' ((List.range ops'.size).drop (i + 1)) :: k', d, .run, kindOf fr, ro⟩ cs w₁)) →
      putDst fr.nt o.dst u fr.tm (fun tm => rcN { fr with tm := tm, todo := .ops ops' rest :: k } h₁) = some (v, h') →
      DoneC P σ h w fr ⟨fr.fn, tm, .inRegion ops' (i :: (List.range ops'.size).drop (i + 1)) :: k', d, .run, kindOf fr, ro⟩ v h' cs := by
    intro σ₁ w₁ h₁ u x hx hr hxt hs hp
    obtain ⟨tm', e1, e2⟩ := putDst_eq hp
    have hsub := hxt.sub r
    refine (hnx { fr with tm := tm', todo := .ops ops' rest :: k } _ rfl hret e1 σ₁ _ _ ?_ hr cs (hcs.of rfl rfl)).of_steps hs rfl rfl rfl hxt
    have := FRel.mk' (fr := { fr with tm := tm', todo := .ops ops' rest :: k }) (σ := σ₁) (tm := putT o.dst x tm) (k := .inRegion ops' ((List.range ops'.size).drop (i + 1)) :: k') (d := d) (ro := ro)
      (e2 σ₁ tm x (h2.mono hsub) hx) ⟨hI σ₁, h3.mono hsub⟩ (h4.mono hsub) (roundRel.mono (fr := fr) hsub h7)
    simpa [modeOf, hret, kindOf] using this
  unfold opsA2 at hb
  cases hw : wantedA ops' fr.tm o with
  | false =>
    rw [hw] at hb hwa; simp only [cond_false] at hb
    exact go (conc_undef σ) r (Ext.refl _ _ _) (.one (st_opSkip ho hwa.symm)) hb
  | true =>
    rw [hw] at hb hwa; simp only [cond_true] at hb
    cases hvs : aevL fr.tm o.op.operands.toList with
    | none => rw [hvs] at hb; cases hb
    | some vs =>
      rw [hvs] at hb; simp only at hb
      have hv := aevL_sound h2 hvs
      cases hc : isComm o.op with
      | true =>
        rw [hc] at hb; simp only [cond_true] at hb
        cases hcm : commA E o.op vs h with
        | none => rw [hcm] at hb; cases hb
        | some p =>
          obtain ⟨u, h₁⟩ := p
          rw [hcm] at hb; simp only at hb
          have hnd : ∀ c, o.op ≠ .defer c := fun c q => by rw [q] at hc; cases hc
          obtain ⟨w', x, a1, a2, a3, a4⟩ := comm_sound hE r hv hcm (cf := ⟨fr.fn, tm, .inRegion ops' (i :: (List.range ops'.size).drop (i + 1)) :: k', d, .run, kindOf fr, ro⟩)
            (fun cs => by
              have := stG_op (P := P) (w := w) (f := fr.fn) (tm := tm) (k := k') (d := d) (kd := kindOf fr) (ro := ro) (cs := cs) (rest := (List.range ops'.size).drop (i + 1)) ho hwa.symm (.inr hnd)
              simpa [G] using this)
          refine go a1 a2 a3 ?_ hb
          have := a4 cs
          rw [putK ho] at this; exact this
      | false =>
        rw [hc] at hb; simp only [cond_false] at hb
        cases hl : lightA E o.op vs h with
        | some u =>
          rw [hl] at hb; simp only at hb
          obtain ⟨x, a1, a2⟩ := light_sound hE r hv hl
          have hnd : ∀ c, o.op ≠ .defer c := fun c q => by rw [q] at hl; cases hl
          refine go a2 r (Ext.refl _ _ _) (.one (step_lone_go ?_)) hb
          rw [stG_op ho hwa.symm (.inr hnd), ← putK ho]
          simp [stepG.apply, a1, Sem.runT_eq]
        | none =>
          rw [hl] at hb; simp only at hb
          cases he : effA E o.op vs h with
          | none => rw [he] at hb; simp only [stepA] at hb; cases hb
          | some p =>
            obtain ⟨n, h₀⟩ := p
            have hs := eff_sound hE r hv he
            have ord : (∀ f args, n ≠ .defer f args) → ∀ u h₁, stepA E rc (some (n, h₀)) = some (u, h₁) →
                putDst fr.nt o.dst u fr.tm (fun tm => rcN { fr with tm := tm, todo := .ops ops' rest :: k } h₁) = some (v, h') →
                DoneC P σ h w fr ⟨fr.fn, tm, .inRegion ops' (i :: (List.range ops'.size).drop (i + 1)) :: k', d, .run, kindOf fr, ro⟩ v h' cs := by
              intro hnd u h₁ hst hb
              have hnd' : ∀ c, o.op ≠ .defer c := fun c q => by
                obtain ⟨f, args, e⟩ := effA_noDefer q he
                exact hnd f args e
              obtain ⟨σ', w', x, a1, a2, a3, a4⟩ := apply_sound hE hrc r (f := fr.fn) (tm := tm) (it := .inRegion ops' (i :: (List.range ops'.size).drop (i + 1))) (k := k') (d := d) (kd := kindOf fr) (ro := ro)
                (by intro _ _ _ _ q; cases q) (fun cs => stG_op ho hwa.symm (.inr hnd')) hs hst cs
              refine go a1 a2 a3 ?_ hb
              have := a4
              rw [putK ho] at this; exact this
            rw [he] at hb
            cases n with
            | defer f args =>
              simp only at hb
              cases hro : fr.roundOf with
              | some l => rw [hro] at hb; cases hb
              | none =>
                rw [hro] at hb; simp only at hb
                have hro' : ro = none := by simpa [roundRel, hro] using h7
                subst hro'
                obtain ⟨rfl, cap, as, c1, c2⟩ := hs
                obtain ⟨tm', e1, e2⟩ := putDst_eq hb
                rw [← hro] at e1
                have hfr := FRel.mk' (fr := { fr with tm := tm', todo := .ops ops' rest :: k, defers := .call f args :: fr.defers }) (σ := σ) (tm := putT o.dst undef tm) (k := .inRegion ops' ((List.range ops'.size).drop (i + 1)) :: k')
                    (d := { target := .fn (.func f) ⟨cap⟩, args := ⟨as⟩ } :: d) (ro := none)
                    (e2 σ tm undef h2 (conc_undef σ)) ⟨hI σ, h3⟩ ⟨⟨cap, as, c1, rfl⟩, h4⟩ h7
                refine (hnx { fr with tm := tm', todo := .ops ops' rest :: k, defers := .call f args :: fr.defers } _ rfl hret e1 σ
                  ⟨fr.fn, putT o.dst undef tm, .inRegion ops' ((List.range ops'.size).drop (i + 1)) :: k', { target := .fn (.func f) ⟨cap⟩, args := ⟨as⟩ } :: d, .run, kindOf fr, none⟩ w
                  (by simpa [modeOf, hret, kindOf] using hfr) r cs (hcs.of rfl rfl)).of_steps
                  (.one (step_lone_go ?_)) rfl rfl rfl (Ext.refl _ _ _)
                rw [stG_op ho hwa.symm (.inl rfl)]
                have := putK (fn := fr.fn) (tm := tm) (k := k') (d := { target := .fn (.func f) ⟨cap⟩, args := ⟨as⟩ } :: d) (kd := kindOf fr) (ro := none) (ops := ops') (rest := (List.range ops'.size).drop (i + 1)) ho undef
                simp only [stepG.apply, Sem.runT_eq, c2, GStep.bare_after, ← this]
                rfl
            | recover =>
              simp only at hb
              cases hd : fr.deferred with
              | false => rw [hd] at hb; cases hb
              | true =>
                rw [hd] at hb; simp only [cond_true] at hb
                cases hro : fr.roundOf with
                | some l => rw [hro] at hb; cases hb
                | none =>
                  rw [hro] at hb; simp only at hb
                  have hro' : ro = none := by simpa [roundRel, hro] using h7
                  subst hro'
                  obtain ⟨rfl, c1⟩ := hs
                  rw [← hro, ← hd] at hb
                  refine go (u := .nilIface) (x := .nilIface) (by rfl) r (Ext.refl _ _ _) (.one (step_lone_go ?_)) hb
                  obtain ⟨c, cs', rfl, hcm⟩ := hcs hro hd
                  rw [stG_op ho hwa.symm (.inl rfl), ← putK ho]
                  have hkd : kindOf fr = .deferred := by simp [kindOf, hd]
                  simp [stepG.apply, c1, Sem.runT_eq, tryRecover, hkd, hcm]
            | val u => 
              simp only at hb
              split at hb
              · rename_i u' h₁ hst
                exact ord (by intro _ _ q; cases q) _ _ hst hb
              · cases hb
            | enter f args =>
              simp only at hb
              split at hb
              · rename_i u' h₁ hst
                exact ord (by intro _ _ q; cases q) _ _ hst hb
              · cases hb
            | round l args =>
              simp only at hb
              split at hb
              · rename_i u' h₁ hst
                exact ord (by intro _ _ q; cases q) _ _ hst hb
              · cases hb

theorem ops_sound (hE : EnvOk P E) {rc : AF → H → Option (AV × H)} (hrc : RC P rc) {ops : Array Oper} {o : Oper} {rest : List Oper} {k : List AItem} (ht : fr.todo = .ops ops (o :: rest) :: k) (hret : fr.ret = false)
    (hb : opsA E rc fr h ops o rest k = some (v, h')) (hf : FRel σ fr cf) (r : HRel σ h w.heap) : Done P σ h w fr cf v h' :=
  ops_sound2 hE hrc ht hret (fun fr' h₁ _ _ hb' σ cf w hf' hh' => hrc fr' h₁ v h' hb' σ cf w hf' hh') hb hf r

/-- what is owed of regions that draw their order -/
def DrawOk (P : Program) (E : Env) : Prop :=
  ∀ {rc : AF → H → Option (AV × H)}, RC P rc → ∀ {fr : AF} {h h' : H} {v : AV} {id : Nat} {ops : Array Oper} {k : List AItem} {σ : Sg} {cf : Frame} {w : World},
    fr.todo = .code (.region id ops true) :: k → fr.ret = false → codeA E rc fr h (.region id ops true) k = some (v, h') → FRel σ fr cf → HRel σ h w.heap → Done P σ h w fr cf v h'

theorem code_sound (hE : EnvOk P E) (hD : DrawOk P E) {rc : AF → H → Option (AV × H)} (hrc : RC P rc) {c : Code} {k : List AItem} (ht : fr.todo = .code c :: k) (hret : fr.ret = false)
    (hb : codeA E rc fr h c k = some (v, h')) (hf : FRel σ fr cf) (r : HRel σ h w.heap) : Done P σ h w fr cf v h' := by
  have hf0 := hf
  obtain ⟨tm, tk, d, ro, rfl, h2, h3, h4, h7⟩ := hf.inv
  have hm : modeOf fr = .run := by simp [modeOf, hret]
  rw [hm] at hf0 ⊢
  rw [ht] at h3
  obtain ⟨it, k', rfl, hi, hk3⟩ := h3.cons; clear h3
  have h3 := hk3
  cases it <;> simp only [IRel] at hi
  subst hi
  rename_i c
  have go : ∀ {l : List AItem} {l' : List Item}, rc { fr with todo := l } h = some (v, h') → KRel σ l l' →
      (∀ cs, step P (lone ⟨fr.fn, tm, .code c :: k', d, .run, kindOf fr, ro⟩ cs w) = .next (lone ⟨fr.fn, tm, l', d, .run, kindOf fr, ro⟩ cs w)) →
      Done P σ h w fr ⟨fr.fn, tm, .code c :: k', d, .run, kindOf fr, ro⟩ v h' := by
    intro l l' hb hk hs
    refine Done.next hrc (fr₁ := { fr with todo := l }) (fun cs _ => .one (hs cs)) rfl rfl rfl (Ext.refl _ _ _) hb ?_ r
    have := FRel.mk' (fr := { fr with todo := l }) (σ := σ) (tm := tm) (k := l') (d := d) (ro := ro) h2 hk h4 h7
    simpa [modeOf, hret, kindOf] using this
  cases c with
  | ret =>
    refine leave_sound hrc hb hret hf0 r ?_ ?_
    · intro tm' k₁ d' e _ cs
      cases e; exact st_ret
    · intro tm' k₁ d' l x w' e hr c cs
      simp only [Frame.mk.injEq] at e
      obtain ⟨_, rfl, rfl, rfl, _, hk, rfl⟩ := e
      rw [hk]; exact st_roundRet hr
  | skip => exact go hb h3 fun cs => st_skip
  | label l => exact go hb h3 fun cs => st_label
  | seq a b => exact go (l' := .code a :: .code b :: k') hb ⟨rfl, rfl, h3⟩ fun cs => st_seq
  | cond c a b =>
    simp only [codeA] at hb
    split at hb
    · rename_i t hc
      have := aev_sound h2 hc
      simp only [conc, Option.some.injEq] at this
      exact go (l' := .code (cond t a b) :: k') hb ⟨rfl, h3⟩ fun cs => st_cond this.symm
    · cases hb
  | block id body => exact go (l' := .code body :: .inBlock id :: k') hb ⟨rfl, rfl, h3⟩ fun cs => st_block
  | loop body => exact go (l' := .code body :: .inLoop body :: k') hb ⟨rfl, rfl, h3⟩ fun cs => st_loop
  | scope body => exact go (l' := .code body :: .inScope body :: k') hb ⟨rfl, rfl, h3⟩ fun cs => st_scope
  | exit id =>
    simp only [codeA] at hb
    have hx := exit_sound id h3
    cases he : exitToA id k with
    | some k₁ =>
      rw [he] at hb hx
      obtain ⟨l', q1, q2⟩ := hx
      exact go hb q2 fun cs => st_exit q1
    | none =>
      rw [he] at hb hx
      refine leave_sound hrc hb hret hf0 r ?_ ?_
      · intro tm' k₁ d' e hj
        rcases hj with hj | hj <;> cases hj
      · intro tm' k₁ d' l x w' e hr c cs
        simp only [Frame.mk.injEq] at e
        obtain ⟨_, rfl, rfl, rfl, _, hk, rfl⟩ := e
        rw [hk]; exact st_roundExit hx hr
  | goto id =>
    simp only [codeA] at hb
    have hx := goto_sound id h3
    cases he : gotoInA id k with
    | some k₁ =>
      rw [he] at hb hx
      obtain ⟨l', q1, q2⟩ := hx
      exact go hb q2 fun cs => st_goto q1
    | none =>
      rw [he] at hb hx
      refine leave_sound hrc hb hret hf0 r ?_ ?_
      · intro tm' k₁ d' e hj
        rcases hj with hj | hj <;> cases hj
      · intro tm' k₁ d' l x w' e hr c cs
        simp only [Frame.mk.injEq] at e
        obtain ⟨_, rfl, rfl, rfl, _, hk, rfl⟩ := e
        rw [hk]; exact st_roundGoto hx hr
  | region id ops draw =>
    cases draw with
    | true => exact hD hrc ht hret hb hf0 r
    | false =>
      simp only [codeA, cond_false] at hb
      exact go (l' := .inRegion ops (List.range ops.size) :: k') hb ⟨⟨rfl, 0, rfl, rfl⟩, h3⟩ fun cs => st_region
  | rangeFunc f params assign body =>
    simp only [codeA] at hb
    cases hro : fr.roundOf with
    | some l =>
      rw [hro] at hb; simp only at hb
      have h7' := h7
      simp only [roundRel, hro] at h7'
      obtain ⟨_, _, b, c0, hs, rfl⟩ := h7'
      split at hb
      · rename_i st pend fn nt ltm ps a bd df hgl
        obtain ⟨b', c', x', g1, g2, g3⟩ := r.objs _ _ hgl
        rw [hs] at g1; cases g1
        obtain ⟨tmps, kk, c2, rfl, ht', hdf⟩ := g3.inv_loop
        simp only [newO_eq] at hb
        split at hb
        · rename_i fv hfv
          rw [← hro] at hb
          intro cs hcs
          obtain ⟨σ₁, h₁, w₁, cf₁, a1, a2, a3, a4, a5⟩ := range_go hE hrc r (k := k) (mark := []) (df := df) (kk := kk) h2 h3 h4 h7 hret hdf hfv (fun cs => st_range (mark := []) (run_enterLoop_inner g2 _ _ _ _ _)) hb cs
          exact (hrc _ _ _ _ a4 σ₁ cf₁ w₁ a5 a3 cs (okCs.of (fr₁ := { fr with todo := .endRangeFunc h.next :: k, defers := [] ++ fr.defers }) hcs rfl rfl)).of_steps a1 rfl rfl rfl a2
        · cases hb
      · cases hb
    | none =>
      rw [hro] at hb; simp only at hb
      have hro' : ro = none := by simpa [roundRel, hro] using h7
      subst hro'
      simp only [newO_eq] at hb
      split at hb
      · rename_i fv hfv
        rw [← hro] at hb
        have hs1 : Sub σ (upd σ h.next (w.heap.size, 0)) := sub_upd _ (r.fresh _ (Nat.le_refl _))
        obtain ⟨g1, g2⟩ := alloc_both r .deferred (.deferred (some [])) 0 rfl
        have hm4 : DLRel (upd σ h.next (w.heap.size, 0)) ([ADf.collected h.next] ++ fr.defers) ([{ target := .collected w.heap.size, args := #[] }] ++ d) :=
          ⟨⟨w.heap.size, 0, upd_self _ _ _, rfl⟩, h4.mono hs1⟩
        intro cs hcs
        obtain ⟨σ₁, h₁, w₁, cf₁, a1, a2, a3, a4, a5⟩ := range_go hE hrc g1 (k := k) (mark := [.collected h.next]) (df := h.next) (kk := w.heap.size) (h2.mono hs1) (h3.mono hs1) hm4 (roundRel.mono (fr := fr) hs1 h7) hret (upd_self _ _ _) hfv
          (fun cs => st_range (mark := [{ target := .collected w.heap.size, args := #[] }]) (by
            have := run_enterLoop_outer (P := P) (w := w) fr.fn tm params assign body
            simpa using this)) hb cs
        exact (hrc _ _ _ _ a4 σ₁ cf₁ w₁ a5 a3 cs (okCs.of (fr₁ := { fr with todo := .endRangeFunc (h.next + 1) :: k, defers := [.collected h.next] ++ fr.defers }) hcs rfl rfl)).of_steps a1 rfl rfl rfl (g2.trans a2)
      · cases hb
  | refuse s => cases hb

def resS (tmps : Array Value) : ResultVar → Sem Value
  | .tmp t => pure (tmps.getD t undef)
  | .cell a t => do loadVar t (← asAddr (tmps.getD a undef))
theorem results_resS (fn : Func) (tmps : Array Value) : results fn tmps = (do
    let vs ← fn.results.mapM (resS tmps)
    pure (if h : vs.size = 1 then vs[0] else .tuple vs)) := by
  unfold results
  congr 1
theorem resultA_sound (hE : EnvOk P E) {nt : Nat} {tm : T AV} {tmps : Array Value} (ht : TRel σ nt tm tmps) (r : HRel σ h w.heap) {x : ResultVar} {u : AV} (hx : resultA E tm h x = some u) :
    ∃ y, (resS tmps x).run P w = .ok y w ∧ conc σ u = some y := by
  cases x with
  | tmp t =>
    simp only [resultA] at hx
    have := aev_sound ht hx
    exact ⟨_, rfl, by rw [this]; simp [evT, Act.eval]⟩
  | cell a t =>
    simp only [resultA] at hx
    split at hx
    · rename_i i o x hg hte
      obtain ⟨y, e1, e2⟩ := ht.get hg
      obtain ⟨b, c, s1, rfl⟩ := conc_ptr e2
      obtain ⟨z, f1, f2⟩ := load_sound (hE.ts _ _ hte) r hx s1
      refine ⟨z, ?_, f2⟩
      have : tmps.getD a undef = .pointer (some ⟨b, o, none⟩) := by simp [Array.getD_eq_getD_getElem?, e1]
      simp only [resS, this]
      simp only [Sem.run_bind, asAddr, Sem.run_pure, Result.andThen_ok]
      exact f1
    · cases hx

theorem resultsA_sound (hE : EnvOk P E) {nt : Nat} {tm : T AV} {tmps : Array Value} (ht : TRel σ nt tm tmps) (r : HRel σ h w.heap) : ∀ {l : List ResultVar} {us : List AV}, resultsA E tm h l = some us →
    ∃ ys, (l.mapM (resS tmps)).run P w = .ok ys w ∧ concL σ us = some ys
  | [], us, hx => by
    simp only [resultsA] at hx; cases hx
    exact ⟨[], by simp, rfl⟩
  | x :: l, us, hx => by
    simp only [resultsA] at hx
    cases h1 : resultA E tm h x with
    | none => rw [h1] at hx; cases hx
    | some u =>
      rw [h1] at hx; simp only at hx
      cases h2 : resultsA E tm h l with
      | none => rw [h2] at hx; cases hx
      | some us' =>
        rw [h2] at hx; cases hx
        obtain ⟨y, a1, a2⟩ := resultA_sound hE ht r h1
        obtain ⟨ys, b1, b2⟩ := resultsA_sound hE ht r h2
        refine ⟨y :: ys, ?_, concL_cons.2 ⟨_, _, a2, b2, rfl⟩⟩
        simp only [List.mapM_cons, Sem.run_bind, a1, b1, Result.andThen_ok, Sem.run_pure]

theorem results_sound (hE : EnvOk P E) {nt : Nat} {tm : T AV} {tmps : Array Value} (ht : TRel σ nt tm tmps) (r : HRel σ h w.heap) {fn : Func} {u : AV}
    (hx : (match resultsA E tm h fn.results.toList with
      | some [v] => some (v, h)
      | some vs => some (.tuple vs, h)
      | none => none) = some (u, h')) : h' = h ∧ ∃ y, (results fn tmps).run P w = .ok y w ∧ conc σ u = some y := by
  cases h1 : resultsA E tm h fn.results.toList with
  | none => rw [h1] at hx; cases hx
  | some us =>
    obtain ⟨ys, a1, a2⟩ := resultsA_sound hE ht r h1
    have hlen := concL_length a2
    have key : (results fn tmps).run P w = .ok (if hh : (⟨ys⟩ : Array Value).size = 1 then (⟨ys⟩ : Array Value)[0] else .tuple ⟨ys⟩) w := by
      rw [results_resS, Array.mapM_eq_mapM_toList]
      simp [a1]
    rw [h1] at hx
    rw [key]
    cases us with
    | nil =>
      cases hx
      have : ys = [] := by cases ys with
        | nil => rfl
        | cons _ _ => simp at hlen
      subst this
      exact ⟨rfl, _, rfl, by simp [conc, concL]⟩
    | cons u₁ us =>
      cases us with
      | nil =>
        cases hx
        obtain ⟨y, rfl⟩ : ∃ y, ys = [y] := by
          cases ys with
          | nil => simp at hlen
          | cons y l => cases l with
            | nil => exact ⟨y, rfl⟩
            | cons _ _ => simp at hlen
        exact ⟨rfl, _, rfl, by simpa using concL_one.1 a2⟩
      | cons u₂ us =>
        cases hx
        have hne : ¬ (⟨ys⟩ : Array Value).size = 1 := by simp at hlen ⊢; omega
        refine ⟨rfl, _, rfl, ?_⟩
        rw [dif_neg hne]
        simp [conc, a2]

theorem body_sound (hE : EnvOk P E) (hD : DrawOk P E) {rc : AF → H → Option (AV × H)} (hrc : RC P rc) : RC P (bodyA E rc) := by
  intro fr h v h' hb σ cf w hf r
  have hf0 := hf
  obtain ⟨tm, tk, d, ro, rfl, h2, h3, h4, h7⟩ := hf.inv
  unfold bodyA at hb
  cases hret : fr.ret with
  | true =>
    rw [hret] at hb; simp only [cond_true] at hb
    have hm : modeOf fr = .returning := by simp [modeOf, hret]
    have hro : fr.roundOf = none := by
      cases hro : fr.roundOf with
      | none => rfl
      | some l => simp only [roundRel, hro] at h7; rw [hret] at h7; cases h7.2.1
    have hro' : ro = none := by simpa [roundRel, hro] using h7
    subst hro'
    rw [hm] at hf0 ⊢
    cases hd : fr.defers with
    | nil =>
      rw [hd] at hb h4; simp only at hb
      have hd' : d = [] := by
        cases d with
        | nil => rfl
        | cons _ _ => exact h4.elim
      subst hd'
      cases hfs : E.fs.get fr.fn with
      | none => rw [hfs] at hb; cases hb
      | some fn =>
        rw [hfs] at hb; simp only at hb
        obtain ⟨rfl, y, e1, e2⟩ := results_sound hE h2 r hb
        intro cs _
        refine ⟨σ, w, y, e2, r, Ext.refl _ _ _, ?_⟩
        simp only [EndsC, hro]
        exact ⟨_, .refl _ _, rfl, rfl, rfl, rfl, fn, hE.fs _ _ hfs, e1⟩
    | cons dd ds =>
      rw [hd] at hb h4
      cases d with
      | nil => exact h4.elim
      | cons d₁ d' =>
        obtain ⟨hd1, hd2⟩ := h4
        cases dd with
        | collected b =>
          simp only at hb
          split at hb
          · rename_i hg
            obtain ⟨b', c', x', g1, g2, g3⟩ := r.objs _ _ hg
            obtain rfl := g3.inv_deferred
            obtain ⟨k0, c0, s1, rfl⟩ := hd1
            rw [s1] at g1; cases g1
            simp only [putO_eq] at hb
            obtain ⟨q1, q2⟩ := put_kill r hg s1 g2 (.deferred none)
            refine Done.next hrc (fr₁ := { fr with defers := ds, ret := true }) (cf₁ := ⟨fr.fn, tm, tk, d', .returning, kindOf fr, none⟩) (fun cs _ => .one (st_collected (run_takeDeferred g2))) rfl rfl rfl q2 hb ?_ q1
            exact FRel.mk' (fr := { fr with defers := ds, ret := true }) (σ := σ) (tm := tm) (k := tk) (d := d') (ro := none) h2 h3 hd2 (by simp only [roundRel, hro])
          · cases hb
        | call f args =>
          simp only at hb
          split at hb
          · rename_i u h₁ hen
            obtain ⟨cap, as, e1, rfl⟩ := hd1
            obtain ⟨gr, q1, q2, q3, q4, q5, q6⟩ := enter_rel hE hen
            intro cs hcs
            obtain ⟨σ', w', x, a1, a2, a3, a4⟩ := hrc gr _ _ _ q1 σ _ w (q6 σ _ e1) r (⟨fr.fn, tm, tk, d', .returning, kindOf fr, none⟩ :: cs) (fun _ _ => ⟨_, _, rfl, rfl⟩)
            have hcall : (callFunc f ⟨as ++ cap⟩).run P w = .ok (.enter f ⟨as ++ cap⟩) w := by
              have hen' := hen
              unfold enterA at hen'
              cases hfs : E.fs.get f with
              | none => rw [hfs] at hen'; cases hen'
              | some fn =>
                rw [hfs] at hen'; simp only at hen'
                cases hbd : fn.body with
                | none => rw [hbd] at hen'; cases hen'
                | some c => exact hE.enter f fn c hfs hbd _ _
            have hsub := a3.sub r
            refine (hrc _ _ _ _ hb σ' ⟨fr.fn, tm, tk, d', .returning, kindOf fr, none⟩ w' ?_ a2 cs (okCs.of (fr₁ := { fr with defers := ds, ret := true }) hcs rfl rfl)).of_steps ?_ rfl rfl rfl a3
            rotate_left
            · simp only [EndsC, q3] at a4
              obtain ⟨cf', s1, p1, p2, p3, p4, fn, p5, p6⟩ := a4
              rw [q4] at p4
              refine Steps.head (st_deferred hcall) (Steps.trans s1 (.one ?_))
              exact st_leaveD p2 p3 p4 (by rw [p1]; exact p5) p6 rfl
            · exact FRel.mk' (fr := { fr with defers := ds, ret := true }) (σ := σ') (tm := tm) (k := tk) (d := d') (ro := none) (h2.mono hsub) (h3.mono hsub) (hd2.mono hsub) (by simp only [roundRel, hro])
          · cases hb
  | false =>
    rw [hret] at hb; simp only [cond_false] at hb
    rw [← hret] at hb
    have hm : modeOf fr = .run := by simp [modeOf, hret]
    rw [hm] at hf0 ⊢
    have go : ∀ {l : List AItem} {l' : List Item}, rc { fr with todo := l } h = some (v, h') → KRel σ l l' →
        (∀ cs, step P (lone ⟨fr.fn, tm, tk, d, .run, kindOf fr, ro⟩ cs w) = .next (lone ⟨fr.fn, tm, l', d, .run, kindOf fr, ro⟩ cs w)) →
        Done P σ h w fr ⟨fr.fn, tm, tk, d, .run, kindOf fr, ro⟩ v h' := by
      intro l l' hb hk hs
      refine Done.next hrc (fr₁ := { fr with todo := l }) (fun cs _ => .one (hs cs)) rfl rfl rfl (Ext.refl _ _ _) hb ?_ r
      have := FRel.mk' (fr := { fr with todo := l }) (σ := σ) (tm := tm) (k := l') (d := d) (ro := ro) h2 hk h4 h7
      simpa [modeOf, hret, kindOf] using this
    cases htd : fr.todo with
    | nil =>
      rw [htd] at hb h3; simp only at hb
      obtain rfl := h3.nil
      refine leave_sound hrc hb hret hf0 r ?_ ?_
      · intro tm' k₁ d' e _ cs
        cases e; exact st_end
      · intro tm' k₁ d' l x w' e hr c cs
        simp only [Frame.mk.injEq] at e
        obtain ⟨_, rfl, rfl, rfl, _, hk, rfl⟩ := e
        rw [hk]; exact st_roundEnd hr
    | cons a k =>
      rw [htd] at hb
      cases a with
      | code c => exact code_sound hE hD hrc htd hret hb hf0 r
      | inBlock id =>
        rw [htd] at h3
        obtain ⟨it, k', rfl, hi, hk3⟩ := h3.cons; clear h3
        have h3 := hk3
        cases it <;> simp only [IRel] at hi
        exact go hb h3 fun cs => st_inBlock
      | inScope c =>
        rw [htd] at h3
        obtain ⟨it, k', rfl, hi, hk3⟩ := h3.cons; clear h3
        have h3 := hk3
        cases it <;> simp only [IRel] at hi
        exact go hb h3 fun cs => st_inScope
      | inLoop c =>
        rw [htd] at h3
        obtain ⟨it, k', rfl, hi, hk3⟩ := h3.cons; clear h3
        have h3 := hk3
        cases it <;> simp only [IRel] at hi
        subst hi
        rename_i c
        exact go (l' := .code c :: .inLoop c :: k') hb ⟨rfl, rfl, h3⟩ fun cs => st_inLoop
      | ops ops rest =>
        cases rest with
        | nil =>
          rw [htd] at h3
          obtain ⟨it, k', rfl, hi, hk3⟩ := h3.cons; clear h3
          have h3 := hk3
          cases it <;> simp only [IRel] at hi
          rename_i ops' todo
          obtain ⟨rfl, i, rfl, hrest⟩ := hi
          have : (List.range ops'.size).drop i = [] := by
            refine List.drop_eq_nil_of_le ?_
            have := congrArg List.length hrest
            simp at this ⊢; omega
          rw [this] at go ⊢
          exact go hb h3 fun cs => st_regionEnd
        | cons o rest => exact ops_sound hE hrc htd hret hb hf0 r
      | endRangeFunc l =>
        rw [htd] at h3
        obtain ⟨it, k', rfl, hi, hk3⟩ := h3.cons; clear h3
        have h3 := hk3
        cases it <;> simp only [IRel] at hi
        rename_i b
        obtain ⟨c, hs⟩ := hi
        simp only at hb
        split at hb
        · rename_i st pend fn nt ltm ps a bd df hgl
          obtain ⟨b', c', x', g1, g2, g3⟩ := r.objs _ _ hgl
          rw [hs] at g1; cases g1
          obtain ⟨tmps, kk, c2, rfl, ht, hdf⟩ := g3.inv_loop
          split at hb
          · cases hb
          · rename_i hst
            simp only [putO_eq] at hb
            obtain ⟨q1, q2⟩ := put_set r hgl hs g2 (.loop .exhausted pend fn nt ltm ps a bd df)
              (.loop { state := .exhausted, pending := pend, fn := fn, tmps := tmps, params := ps, assign := a, body := bd, defers := kk }) ⟨rfl, rfl, rfl, ht, rfl, rfl, rfl, c2, hdf⟩
            refine Done.next hrc (cf₁ := ⟨fr.fn, tm, (pend.map Item.code).toList ++ k', d, .run, kindOf fr, ro⟩) (fun cs _ => .one (st_endLoop (run_endLoop g2 hst))) ?_ ?_ ?_ q2 hb ?_ q1
            · rfl
            · rfl
            · rfl
            · cases pend with
              | none =>
                have := FRel.mk' (fr := { fr with todo := k }) (σ := σ) (tm := tm) (k := k') (d := d) (ro := ro) h2 h3 h4 h7
                simpa [modeOf, hret, kindOf] using this
              | some c₁ =>
                have := FRel.mk' (fr := { fr with todo := .code c₁ :: k }) (σ := σ) (tm := tm) (k := .code c₁ :: k') (d := d) (ro := ro) h2 ⟨rfl, h3⟩ h4 h7
                simpa [modeOf, hret, kindOf] using this
        · cases hb
      | beginRound =>
        rw [htd] at h3
        obtain ⟨it, k', rfl, hi, hk3⟩ := h3.cons; clear h3
        have h3 := hk3
        cases it <;> simp only [IRel] at hi
        simp only at hb
        cases hro : fr.roundOf with
        | none => rw [hro] at hb; cases hb
        | some l =>
          rw [hro] at hb; simp only at hb
          have h7' := h7
          simp only [roundRel, hro] at h7'
          obtain ⟨_, _, b, c, hs, rfl⟩ := h7'
          split at hb
          · rename_i pend fn nt ltm ps a bd df hgl
            obtain ⟨b', c', x', g1, g2, g3⟩ := r.objs _ _ hgl
            rw [hs] at g1; cases g1
            obtain ⟨tmps, kk, c2, rfl, ht, hdf⟩ := g3.inv_loop
            simp only [putO_eq] at hb
            obtain ⟨q1, q2⟩ := put_set r hgl hs g2 (.loop .busy pend fn nt ltm ps a bd df)
              (.loop { state := .busy, pending := pend, fn := fn, tmps := tmps, params := ps, assign := a, body := bd, defers := kk }) ⟨rfl, rfl, rfl, ht, rfl, rfl, rfl, c2, hdf⟩
            rw [← hro] at hb
            refine Done.next hrc (fr₁ := { fr with todo := k }) (cf₁ := ⟨fr.fn, tm, k', d, .run, kindOf fr, some b⟩) (fun cs _ => .one (st_begin (run_beginRound g2 rfl))) rfl rfl rfl q2 hb ?_ q1
            have := FRel.mk' (fr := { fr with todo := k }) (σ := σ) (tm := tm) (k := k') (d := d) (ro := some b) h2 h3 h4 h7
            simpa [modeOf, hret, kindOf] using this
          · cases hb

theorem run_sound (hE : EnvOk P E) (hD : DrawOk P E) : ∀ n, RC P (runA E n)
  | 0 => fun fr h v h' hb => by cases hb
  | n + 1 => body_sound hE hD (run_sound hE hD n)

end
end Go.Ev
