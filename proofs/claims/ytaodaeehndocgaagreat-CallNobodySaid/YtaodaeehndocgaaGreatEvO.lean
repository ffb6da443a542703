/- The evaluator's soundness: calls, and all operations that are no communication. -/
import Derived.Test.YtaodaeehndocgaaGreatEvN
set_option linter.unusedSimpArgs false
set_option linter.unusedVariables false
namespace Go.Ev

def NSim (P : Program) (σ : Sg) (h : H) (w : World) (s : Sem Next) : AN → H → Prop
  | .val v, h' => Sim P σ h w s v h'
  | .enter f args, h' => h' = h ∧ ∃ xs, concL σ args = some xs ∧ s.run P w = .ok (.enter f ⟨xs⟩) w
  | .round l args, h' => h' = h ∧ ∃ b c xs, σ l = some (b, c) ∧ concL σ args = some xs ∧ s.run P w = (Instr.yield b ⟨xs⟩).run P w
  | .defer f args, h' => h' = h ∧ ∃ cap as, concL σ args = some (as ++ cap) ∧ s.run P w = .ok (.defer { target := .fn (.func f) ⟨cap⟩, args := ⟨as⟩ }) w
  | .recover, h' => h' = h ∧ s.run P w = .ok .recover w

section
variable {P : Program} {E : Env} {σ : Sg} {w : World} {h : H}

theorem NSim.congr {s s' : Sem Next} (e : s'.run P w = s.run P w) {n : AN} {h' : H} (a : NSim P σ h w s n h') : NSim P σ h w s' n h' := by
  cases n with
  | val v =>
    obtain ⟨σ', w', x, g, r⟩ := a
    exact ⟨σ', w', x, by rw [Gives, e]; exact g, r⟩
  | enter f args => obtain ⟨h1, xs, h2, h3⟩ := a; exact ⟨h1, xs, h2, e.trans h3⟩
  | round l args => obtain ⟨h1, b, c, xs, h2, h3, h4⟩ := a; exact ⟨h1, b, c, xs, h2, h3, e.trans h4⟩
  | defer f args => obtain ⟨h1, cap, as, h2, h3⟩ := a; exact ⟨h1, cap, as, h2, e.trans h3⟩
  | recover => exact ⟨a.1, e.trans a.2⟩

theorem VSim.sim {s : Sem Value} {v : AV} {h' : H} (a : VSim P σ h w s v h') {t : Sem Next} (e : ∀ x w', s.run P w = .ok x w' → t.run P w = .ok (.value x) w') : Sim P σ h w t v h' := by
  obtain ⟨σ', w', x, g, r⟩ := a
  exact ⟨σ', w', x, .inl (e x w' g), r⟩

theorem call_sound (hE : EnvOk P E) (r : HRel σ h w.heap) {f : FuncId} {args : List AV} {xs : List Value} (ha : concL σ args = some xs) {n : AN} {h' : H} (hc : callA E f args h = some (n, h')) :
    NSim P σ h w (callFunc f ⟨xs⟩) n h' := by
  unfold callA at hc
  cases hf : E.fs.get f with
  | none => simp [hf] at hc
  | some fn =>
    simp only [hf] at hc
    cases hb : fn.body with
    | some c =>
      simp only [hb] at hc; cases hc
      exact ⟨rfl, xs, ha, hE.enter f fn c hf hb ⟨xs⟩ w⟩
    | none =>
      simp only [hb] at hc
      split at hc
      · rename_i hn
        split at hc
        · cases hc
          obtain ⟨y, l, h1, h2, rfl⟩ := concL_cons.1 ha
          rw [concL_nil] at h2; subst h2
          exact ⟨σ, w, y, .inl (hE.noEscape f fn hf hb hn y w), h1, r, Ext.refl _ _ _⟩
        · cases hc
      · split at hc
        · rename_i hn
          split at hc
          · rename_i t rr
            obtain ⟨y, l, h1, h2, rfl⟩ := concL_cons.1 ha
            rw [concL_nil] at h2; subst h2
            obtain ⟨z, hz, rfl⟩ := conc_iface h1
            obtain ⟨b, c, s1, rfl⟩ := conc_map hz
            split at hc
            · rename_i es cl hg
              obtain ⟨b', c', x', k1, k2, k3⟩ := r.objs _ _ hg
              rw [s1] at k1; cases k1
              obtain ⟨es', rfl, hes⟩ := k3.inv_map
              simp only [newO_eq] at hc; cases hc
              obtain ⟨g1, g2⟩ := new_sound r (.map es cl) (.map es' cl) ⟨rfl, concE_mono (sub_upd _ (r.fresh _ (Nat.le_refl _))) hes⟩
              exact ⟨_, _, _, .inl (hE.clone f fn hf hb hn t b w es' cl k2), by simp [conc, upd_self], g1, g2⟩
            · cases hc
          · cases hc
        · cases hc

theorem valueCall_sound (hE : EnvOk P E) (r : HRel σ h w.heap) {f : AV} {fv : Value} (hf : conc σ f = some fv) {args : List AV} {xs : List Value} (ha : concL σ args = some xs) {n : AN} {h' : H} (hc : valueCallA E f args h = some (n, h')) :
    ∃ d, (∀ w, (Deferred.ofValue fv ⟨xs⟩).run P w = .ok d w) ∧ NSim P σ h w (invoke d.target d.args) n h' := by
  cases f <;> simp only [valueCallA] at hc <;> try (cases hc; done)
  · rename_i f first cap
    simp only [fL_eq] at hc
    obtain ⟨y, z, h1, h2, rfl⟩ := conc_func hf
    refine ⟨{ target := .fn (.func f) ⟨z⟩, args := ⟨y ++ xs⟩ }, fun w => by simp [Deferred.ofValue], ?_⟩
    have hcl := concL_append (concL_append h1 ha) h2
    refine (call_sound hE r hcl hc).congr ?_
    simp [invoke]
  · rename_i l
    cases hc
    obtain ⟨b, c, s1, rfl⟩ := conc_yield hf
    refine ⟨{ target := .fn (.yield b) #[], args := ⟨xs⟩ }, fun w => by simp [Deferred.ofValue], ⟨rfl, b, c, xs, s1, ha, ?_⟩⟩
    simp [invoke]

theorem builtin_sound (hE : EnvOk P E) (r : HRel σ h w.heap) {b : Builtin} {ats : Array TypeId} {vs : List AV} {xs : List Value} (hv : concL σ vs = some xs) {n : AN} {h' : H} (hb : builtinA E b ats vs h = some (n, h')) (ty : TypeId) (cs : Array Bool) :
    NSim P σ h w (builtin b ats ty cs ⟨xs⟩) n h' := by
  obtain ⟨ats⟩ := ats
  unfold builtinA at hb
  split at hb
  · rename_i t u s x hq
    simp only at hq; subst hq
    obtain ⟨y, l, h1, h2, rfl⟩ := concL_cons.1 hv
    obtain ⟨z, l, h3, h4, rfl⟩ := concL_cons.1 h2
    rw [concL_nil] at h4; subst h4
    cases ha : appendA E t u s x h with
    | none => simp [ha, nv] at hb
    | some p =>
      obtain ⟨v, h1'⟩ := p
      simp only [ha, nv] at hb; cases hb
      obtain ⟨σ', w', y', g1, g2, g3, g4⟩ := append_sound hE r h1 h3 ha ty
      refine ⟨σ', w', y', .inl ?_, g2, g3, g4⟩
      show (builtin .append #[t, u] ty cs #[y, z]).run P w = _
      simp only [builtin, Sem.run_bind, g1, Result.andThen_ok, Sem.run_pure]
  · rename_i t ts d s hq
    simp only at hq; subst hq
    obtain ⟨y, l, h1, h2, rfl⟩ := concL_cons.1 hv
    obtain ⟨z, l, h3, h4, rfl⟩ := concL_cons.1 h2
    rw [concL_nil] at h4; subst h4
    cases ha : copyA E t d s h with
    | none => simp [ha, nv] at hb
    | some p =>
      obtain ⟨v, h1'⟩ := p
      simp only [ha, nv] at hb; cases hb
      obtain ⟨w', y', g1, g2, g3, g4⟩ := copy_sound hE r h1 h3 ha ts ty
      refine ⟨σ, w', y', .inl ?_, g2, g3, g4⟩
      show (builtin .copy ⟨t :: ts⟩ ty cs #[y, z]).run P w = _
      simp only [builtin, Sem.run_bind, g1, Result.andThen_ok, Sem.run_pure]
  · rw [concL_nil] at hv; subst hv
    cases hb
    exact ⟨rfl, by simp [builtin]⟩
  · rename_i rr
    obtain ⟨y, l, h1, h2, rfl⟩ := concL_cons.1 hv
    rw [concL_nil] at h2; subst h2
    split at hb
    · rename_i c buf hg
      simp only [putO_eq] at hb; cases hb
      exact (close_sound r hg h1 ⟨ats⟩ ty).sim fun x w' e => by
        show (builtin .close ⟨ats⟩ ty cs #[y]).run P w = _
        simp only [builtin, Sem.run_bind, e, Result.andThen_ok, Sem.run_pure]
    · cases hb
  · rename_i t ts m k hq
    simp only at hq; subst hq
    obtain ⟨y, l, h1, h2, rfl⟩ := concL_cons.1 hv
    obtain ⟨z, l, h3, h4, rfl⟩ := concL_cons.1 h2
    rw [concL_nil] at h4; subst h4
    cases ha : deleteA E t m k h with
    | none => simp [ha, nv] at hb
    | some p =>
      obtain ⟨v, h1'⟩ := p
      simp only [ha, nv] at hb; cases hb
      obtain ⟨w', g1, rfl, g3, g4⟩ := delete_sound hE r h1 h3 ha ts ty
      refine ⟨σ, w', undef, .inl ?_, conc_undef σ, g3, g4⟩
      show (builtin .delete ⟨t :: ts⟩ ty cs #[y, z]).run P w = _
      simp only [builtin, Sem.run_bind, g1, Result.andThen_ok, Sem.run_pure]
  · rename_i t ts p m hq
    simp only at hq; subst hq
    obtain ⟨y, l, h1, h2, rfl⟩ := concL_cons.1 hv
    obtain ⟨z, l, h3, h4, rfl⟩ := concL_cons.1 h2
    rw [concL_nil] at h4; subst h4
    cases ha : unsafeStringA E t p m h with
    | none => simp [ha, nv] at hb
    | some q =>
      obtain ⟨v, h1'⟩ := q
      simp only [ha, nv] at hb; cases hb
      exact (unsafeString_sound hE r h1 h3 ha ts ty).sim fun x w' e => by
        show (builtin .unsafeString ⟨t :: ts⟩ ty cs #[y, z]).run P w = _
        simp only [builtin, Sem.run_bind, e, Result.andThen_ok, Sem.run_pure]
  · cases hb

theorem opCall_sound (hE : EnvOk P E) (r : HRel σ h w.heap) {c : Call} {ρ : Operand → Value} {vs : List AV} (hv : concL σ vs = some (c.operands.toList.map ρ)) {n : AN} {h' : H} (hc : opCall E c vs h = some (n, h')) (ty : TypeId) :
    NSim P σ h w (do let d ← resolve ρ c ty; invoke d.target d.args) n h' := by
  have m1 : c.args.map ρ = ⟨c.args.toList.map ρ⟩ := by rw [← Array.toList_inj]; simp
  unfold opCall at hc
  split at hc
  · rename_i b hcal
    rw [show c.operands.toList.map ρ = c.args.toList.map ρ by simp [Call.operands, hcal]] at hv
    refine (builtin_sound hE r hv hc ty (c.args.map fun | .const _ => true | _ => false)).congr ?_
    simp only [resolve, hcal, m1, Sem.run_bind, Sem.run_pure, Result.andThen_ok, invoke]
    rfl
  · rename_i fo f args hcal
    have hv' : concL σ (f :: args) = some (ρ fo :: c.args.toList.map ρ) := by rw [hv]; simp [Call.operands, hcal]
    obtain ⟨y, l, h1, h2, h3⟩ := concL_cons.1 hv'
    cases h3
    obtain ⟨d, g1, g2⟩ := valueCall_sound hE r h1 h2 hc
    refine g2.congr ?_
    simp only [resolve, hcal, m1, Sem.run_bind, g1, Result.andThen_ok]
  · rename_i ro name rv args hcal
    have hv' : concL σ (rv :: args) = some (ρ ro :: c.args.toList.map ρ) := by rw [hv]; simp [Call.operands, hcal]
    obtain ⟨y, l, h1, h2, h3⟩ := concL_cons.1 hv'
    cases h3
    split at hc
    · rename_i t v
      obtain ⟨z, hz, e⟩ := conc_iface h1
      cases hm : E.ms t name with
      | none => simp [hm] at hc
      | some f =>
        simp only [hm] at hc
        have hcl : concL σ (v :: args) = some (z :: c.args.toList.map ρ) := concL_cons.2 ⟨_, _, hz, h2, rfl⟩
        refine (call_sound hE r hcl hc).congr ?_
        have hms := hE.ms t name f hm z ⟨c.args.toList.map ρ⟩ w
        simp only [resolve, hcal, m1, Sem.run_bind, Sem.run_pure, Result.andThen_ok, invoke, e]
        have e1 : (#[Value.iface t z] ++ (⟨c.args.toList.map ρ⟩ : Array Value))[0]? = some (Value.iface t z) := by simp
        have e2 : (#[Value.iface t z] ++ (⟨c.args.toList.map ρ⟩ : Array Value)).extract 1 (#[Value.iface t z] ++ (⟨c.args.toList.map ρ⟩ : Array Value)).size = ⟨c.args.toList.map ρ⟩ := by
          rw [← Array.toList_inj]; simp [List.take_of_length_le]
        simp only [e1, e2, hms]
        rw [show (#[z] ++ (⟨c.args.toList.map ρ⟩ : Array Value)) = ⟨z :: c.args.toList.map ρ⟩ by rw [← Array.toList_inj]; simp]
    · cases hc
  · cases hc

theorem eff_sound (hE : EnvOk P E) (r : HRel σ h w.heap) {o : Oper} {ρ : Operand → Value} {vs : List AV} (hv : concL σ vs = some (o.op.operands.toList.map ρ)) {n : AN} {h' : H} (hf : effA E o.op vs h = some (n, h')) :
    NSim P σ h w (execOp ρ o) n h' := by
  have alloc : ∀ {ob mk}, allocA E o.op vs = some (ob, mk) → NSim P σ h w (execOp ρ o) (.val (mk h.next)) ⟨h.next + 1, T.set (some ob) h.t h.next⟩ := fun ha => sim_alloc r (alloc_sound hE hv ha)
  obtain ⟨dst, op, type, pos, after, guard⟩ := o
  simp only at hv hf alloc
  have rest : (match allocA E op vs with
      | some (ob, mk) => newO h ob fun j h => some (.val (mk j), h)
      | none => none) = some (n, h') → NSim P σ h w (execOp ρ ⟨dst, op, type, pos, after, guard⟩) n h' := fun hq => by
    cases ha : allocA E op vs with
    | none => simp [ha] at hq
    | some p =>
      obtain ⟨ob, mk⟩ := p
      simp only [ha, newO_eq] at hq; cases hq
      exact alloc ha
  cases op
  case store t p x =>
    obtain ⟨a, b, rfl, ha, hb⟩ := inv2 (by simpa [Op.operands] using hv)
    rcases a with _ | _ | _ | (_ | ⟨i, o⟩) | _ | _ | _ | _ | _ | _ | _ | _ | _ | _ <;> try exact rest hf
    simp only [effA] at hf
    cases hg : E.ts.get t with
    | none => simp [hg] at hf
    | some ti =>
      have ht := hE.ts _ _ hg
      simp only [hg] at hf
      cases hst : storeA ti h i o b with
      | none => simp [hst, nv] at hf
      | some p =>
        obtain ⟨v, h1⟩ := p
        simp only [hst, nv] at hf; cases hf
        obtain ⟨bk, c, s1, e1⟩ := conc_ptr ha
        obtain ⟨w', g1, rfl, g3, g4⟩ := store_sound hE r ht s1 hb hst
        refine ⟨σ, w', undef, .inr ⟨?_, rfl⟩, conc_undef σ, g3, g4⟩
        simp only [execOp, e1, Instr.storeAt, Instr.sureAddr, Sem.run_bind, g1, Result.andThen_ok, Sem.run_pure]
  case mapUpdate t m k x =>
    obtain ⟨a, b, c, rfl, ha, hb, hc⟩ := inv3 (by simpa [Op.operands] using hv)
    simp only [effA] at hf
    cases hst : mapUpdateA E t a b c h with
    | none => simp [hst, nv] at hf
    | some p =>
      obtain ⟨v, h1⟩ := p
      simp only [hst, nv] at hf; cases hf
      obtain ⟨w', g1, rfl, g3, g4⟩ := mapUpdate_sound hE r ha hb hc hst
      refine ⟨σ, w', undef, .inr ⟨?_, rfl⟩, conc_undef σ, g3, g4⟩
      simp only [execOp, Sem.run_bind, g1, Result.andThen_ok, Sem.run_pure]
  case insert t m k x =>
    obtain ⟨a, b, c, rfl, ha, hb, hc⟩ := inv3 (by simpa [Op.operands] using hv)
    simp only [effA] at hf
    cases hst : mapUpdateA E t a b c h with
    | none => simp [hst, nv] at hf
    | some p =>
      obtain ⟨v, h1⟩ := p
      simp only [hst, nv] at hf; cases hf
      obtain ⟨w', g1, rfl, g3, g4⟩ := mapUpdate_sound hE r ha hb hc hst
      refine ⟨σ, w', undef, .inr ⟨?_, rfl⟩, conc_undef σ, g3, g4⟩
      simp only [execOp, Sem.run_bind, g1, Result.andThen_ok, Sem.run_pure]
  case mapEntry t m k =>
    obtain ⟨a, b, rfl, ha, hb⟩ := inv2 (by simpa [Op.operands] using hv)
    simp only [effA] at hf
    cases hst : mapEntryA E t a b h with
    | none => simp [hst, nv] at hf
    | some p =>
      obtain ⟨v, h1⟩ := p
      simp only [hst, nv] at hf; cases hf
      obtain ⟨w', y, g1, g2, g3, g4⟩ := mapEntry_sound hE r ha hb hst
      refine ⟨σ, w', y, .inl ?_, g2, g3, g4⟩
      simp only [execOp, Sem.run_bind, g1, Result.andThen_ok, Sem.run_pure]
  case entryStore t m s x =>
    obtain ⟨a, b, c, rfl, ha, hb, hc⟩ := inv3 (by simpa [Op.operands] using hv)
    simp only [effA] at hf
    cases hst : entryStoreA a b c h with
    | none => simp [hst, nv] at hf
    | some p =>
      obtain ⟨v, h1⟩ := p
      simp only [hst, nv] at hf; cases hf
      obtain ⟨w', g1, rfl, g3, g4⟩ := entryStore_sound (P := P) (t := t) r ha hb hc hst
      refine ⟨σ, w', undef, .inr ⟨?_, rfl⟩, conc_undef σ, g3, g4⟩
      simp only [execOp, Sem.run_bind, g1, Result.andThen_ok, Sem.run_pure]
  case range t x =>
    obtain ⟨a, rfl, ha⟩ := inv1 (by simpa [Op.operands] using hv)
    simp only [effA] at hf
    cases hst : rangeA E t a h with
    | none => simp [hst, nv] at hf
    | some p =>
      obtain ⟨v, h1⟩ := p
      simp only [hst, nv] at hf; cases hf
      exact (range_sound hE r ha hst).sim fun x w' e => by simp only [execOp, Sem.run_bind, e, Result.andThen_ok, Sem.run_pure]
  case next it s =>
    obtain ⟨a, rfl, ha⟩ := inv1 (by simpa [Op.operands] using hv)
    simp only [effA] at hf
    cases hst : nextA a s h with
    | none => simp [hst, nv] at hf
    | some p =>
      obtain ⟨v, h1⟩ := p
      simp only [hst, nv] at hf; cases hf
      exact (next_sound r ha type hst).sim fun x w' e => by simp only [execOp, Sem.run_bind, e, Result.andThen_ok, Sem.run_pure]
  case call c =>
    simp only [effA] at hf
    exact opCall_sound hE r (by simpa [Op.operands] using hv) hf type
  case defer c =>
    cases vs with
    | nil => exact rest hf
    | cons f args =>
      simp only [effA] at hf
      split at hf
      · rename_i fo f first cap hcal
        simp only [fL_eq] at hf; cases hf
        have m1 : c.args.map ρ = ⟨c.args.toList.map ρ⟩ := by rw [← Array.toList_inj]; simp
        have hv' : concL σ (.func f first cap :: args) = some (ρ fo :: c.args.toList.map ρ) := by rw [hv]; simp [Op.operands, Call.operands, hcal]
        obtain ⟨y, l, h1, h2, h3⟩ := concL_cons.1 hv'
        injection h3 with h3 h4
        subst h4
        obtain ⟨y1, z1, k1, k2, k3⟩ := conc_func h1
        rw [k3] at h3
        refine ⟨rfl, z1, y1 ++ c.args.toList.map ρ, concL_append (concL_append k1 h2) k2, ?_⟩
        simp only [execOp, resolve, hcal, m1, Sem.run_bind, h3, Deferred.ofValue, Sem.run_pure, Result.andThen_ok]
        simp
      · cases hf
  all_goals first | exact rest hf | (rcases vs with _ | ⟨a, _ | ⟨b, vs⟩⟩ <;> exact rest hf)

end
end Go.Ev
