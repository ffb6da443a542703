/- The evaluator's soundness: frames. -/
import Derived.Test.YtaodaeehndocgaaGreatEvO
import Derived.RangeFuncRecord
set_option linter.unusedSimpArgs false
set_option linter.unusedVariables false
namespace Go.Ev

def evT (tm : Array Value) : Operand → Value := (Act.mk tm []).eval
theorem eval_evT (fr : Frame) : fr.eval = evT fr.tmps := funext fun x => by cases x <;> rfl

section
variable {P : Program} {E : Env} {σ σ' : Sg} {w : World} {h : H}

theorem TRel.get {nt : Nat} {tm : T AV} {tmps : Array Value} (r : TRel σ nt tm tmps) {i : Nat} {v : AV} (h : tm.get i = some v) : ∃ x, tmps[i]? = some x ∧ conc σ v = some x := by
  have := r.2 i
  rw [h] at this
  exact this.2
theorem aev_sound {nt : Nat} {tm : T AV} {tmps : Array Value} (r : TRel σ nt tm tmps) {x : Operand} {v : AV} (h : aev tm x = some v) : conc σ v = some (evT tmps x) := by
  cases x with
  | tmp t =>
    simp only [aev] at h
    cases hg : tm.get t with
    | some a =>
      simp [hg] at h; subst h
      obtain ⟨x, h1, h2⟩ := r.get hg
      rw [h2]; simp [evT, Act.eval, h1]
    | none =>
      simp [hg] at h; subst h
      have := r.2 t
      rw [hg] at this
      rw [conc_undef]; simp only [evT, Act.eval]; rw [this]
  | const v' => exact conc_ofV h
  | global g => cases h
  | func f =>
    simp only [aev] at h; cases h
    simp [conc, concL, evT, Act.eval]
theorem aevL_sound {nt : Nat} {tm : T AV} {tmps : Array Value} (r : TRel σ nt tm tmps) : ∀ {l : List Operand} {vs : List AV}, aevL tm l = some vs → concL σ vs = some (l.map (evT tmps))
  | [], vs, h => by simp [aevL] at h; subst h; simp [concL]
  | x :: l, vs, h => by
    simp only [aevL] at h
    cases h1 : aev tm x with
    | none => simp [h1] at h
    | some v =>
      cases h2 : aevL tm l with
      | none => simp [h1, h2] at h
      | some vs' =>
        simp [h1, h2] at h; subst h
        exact concL_cons.2 ⟨_, _, aev_sound r h1, aevL_sound r h2, rfl⟩

theorem TRel.put {nt : Nat} {tm : T AV} {tmps : Array Value} (r : TRel σ nt tm tmps) {d : Nat} (hd : d < nt) {v : AV} {x : Value} (hv : conc σ v = some x) : TRel σ nt (T.set (some v) tm d) (tmps.setIfInBounds d x) := by
  refine ⟨by simp [r.1], fun i => ?_⟩
  rw [get_set]
  by_cases e : i = d
  · subst e
    simp only [if_true]
    exact ⟨hd, x, by simp [r.1, hd], hv⟩
  · simp only [if_neg e]
    have := r.2 i
    split at this
    · obtain ⟨h1, y, h2, h3⟩ := this
      exact ⟨h1, y, by rw [Array.getElem?_setIfInBounds_ne (fun q => e q.symm)]; exact h2, h3⟩
    · rw [Array.getD_eq_getD_getElem?, Array.getElem?_setIfInBounds_ne (fun q => e q.symm), ← Array.getD_eq_getD_getElem?]; exact this

def putT (dst : Option Tmp) (x : Value) (tmps : Array Value) : Array Value :=
  match dst with
  | some d => tmps.setIfInBounds d x
  | none => tmps
theorem putDst_eq {β : Type} {nt : Nat} {dst : Option Tmp} {v : AV} {tm : T AV} {K : T AV → Option β} {y : β} (h : putDst nt dst v tm K = some y) :
    ∃ tm', K tm' = some y ∧ ∀ σ tmps x, TRel σ nt tm tmps → conc σ v = some x → TRel σ nt tm' (putT dst x tmps) := by
  cases dst with
  | none => exact ⟨tm, h, fun σ tmps x r _ => r⟩
  | some d =>
    simp only [putDst] at h
    cases hb : Nat.blt d nt with
    | false => simp [hb] at h
    | true =>
      simp only [hb, cond_true, setK_set] at h
      exact ⟨_, h, fun σ tmps x r hx => r.put (blt_true.1 hb) hx⟩

theorem nth_eq {α : Type} : ∀ (l : List α) (n : Nat), nth l n = l[n]?
  | [], n => by simp [nth]
  | a :: l, 0 => by simp [nth]
  | a :: l, n + 1 => by simp [nth, nth_eq l n]

theorem conc_bool_inv {v : AV} {b : Bool} (h : conc σ v = some (.bool b)) : v = .bool b := by
  cases v with
  | bool c => simp [conc] at h; rw [h]
  | ptr a =>
    rcases a with _ | ⟨i, o⟩
    · simp [conc] at h
    · obtain ⟨_, _, _, e⟩ := conc_ptr h; cases e
  | slice a n c =>
    rcases a with _ | ⟨i, o⟩
    · obtain ⟨_, _, e⟩ := conc_sliceNil h; cases e
    · obtain ⟨_, _, _, e⟩ := conc_slice h; cases e
  | map a =>
    rcases a with _ | i
    · simp [conc] at h
    · obtain ⟨_, _, _, e⟩ := conc_map h; cases e
  | chan a =>
    rcases a with _ | i
    · simp [conc] at h
    · obtain ⟨_, _, _, e⟩ := conc_chan h; cases e
  | func f a b' => obtain ⟨y, z, _, _, h3⟩ := conc_func h; cases h3
  | yield l => obtain ⟨b', c, _, h3⟩ := conc_yield h; cases h3
  | iface t v => obtain ⟨y, _, h3⟩ := conc_iface h; cases h3
  | agg cs => obtain ⟨l, _, h3⟩ := conc_agg h; cases h3
  | tuple cs => obtain ⟨l, _, h3⟩ := conc_tuple h; cases h3
  | int k n => simp [conc] at h
  | str s => simp [conc] at h
  | nilFunc => simp [conc] at h
  | nilIface => simp [conc] at h

theorem wanted_sound {nt : Nat} {tm : T AV} {tmps : Array Value} (r : TRel σ nt tm tmps) (ops : Array Oper) (o : Oper) : wantedA ops tm o = Region.wanted o (yielded ops tmps) := by
  unfold wantedA Region.wanted
  cases o.guard with
  | none => rfl
  | some p =>
    obtain ⟨j, want⟩ := p
    simp only [nth_eq, Array.getElem?_toList]
    unfold yielded
    cases hq : ops[j]? with
    | none => simp
    | some q =>
      simp only [Option.bind_some]
      cases hd : q.dst with
      | none => simp
      | some d =>
        simp only [Option.bind_some]
        have hr := r.2 d
        cases hg : tm.get d with
        | some v =>
          rw [hg] at hr
          obtain ⟨_, x, h2, h3⟩ := hr
          simp only [h2]
          cases v with
          | bool b => have := conc_bool h3; subst this; cases b <;> cases want <;> rfl
          | _ =>
            have : ∀ b, x ≠ .bool b := fun b e => by subst e; have := conc_bool_inv h3; cases this
            cases x <;> first | rfl | exact absurd rfl (this _)
        | none =>
          rw [hg] at hr
          simp only at hr
          have : ∀ b, tmps[d]? ≠ some (.bool b) := fun b e => by
            rw [Array.getD_eq_getD_getElem?, e] at hr; simp [undef] at hr
          cases ht : tmps[d]? with
          | none => simp
          | some x => cases x <;> first | rfl | exact absurd ht (this _)

/-! items -/
def IRel (σ : Sg) : AItem → Item → Prop
  | .code c, .code c' => c' = c
  | .inBlock i, .inBlock i' => i' = i
  | .inLoop c, .inLoop c' => c' = c
  | .inScope c, .inScope c' => c' = c
  | .ops ops rest, .inRegion ops' todo => ops' = ops ∧ ∃ i, todo = (List.range ops.size).drop i ∧ rest = ops.toList.drop i
  | .endRangeFunc l, .endRangeFunc b => ∃ c, σ l = some (b, c)
  | .beginRound, .beginRound => True
  | _, _ => False
theorem IRel.mono (hs : Sub σ σ') {a : AItem} {x : Item} (r : IRel σ a x) : IRel σ' a x := by
  cases a <;> cases x <;> simp only [IRel] at r ⊢ <;> try exact r
  obtain ⟨c, h⟩ := r; exact ⟨c, hs _ _ h⟩
def KRel (σ : Sg) : List AItem → List Item → Prop
  | [], [] => True
  | a :: k, x :: l => IRel σ a x ∧ KRel σ k l
  | _, _ => False
theorem KRel.mono (hs : Sub σ σ') : ∀ {k : List AItem} {l : List Item}, KRel σ k l → KRel σ' k l
  | [], [], _ => trivial
  | [], _ :: _, r => r.elim
  | _ :: _, [], r => r.elim
  | _ :: _, _ :: _, r => ⟨IRel.mono hs r.1, KRel.mono hs r.2⟩
theorem KRel.cons {a : AItem} {k : List AItem} {l : List Item} (r : KRel σ (a :: k) l) : ∃ x l', l = x :: l' ∧ IRel σ a x ∧ KRel σ k l' := by
  cases l with
  | nil => exact r.elim
  | cons x l => exact ⟨x, l, rfl, r.1, r.2⟩
theorem KRel.nil {l : List Item} (r : KRel σ [] l) : l = [] := by
  cases l with
  | nil => rfl
  | cons x l => exact r.elim

theorem exit_sound (id : Nat) : ∀ {k : List AItem} {l : List Item}, KRel σ k l → match exitToA id k with
    | some k' => ∃ l', exitTo id l = some l' ∧ KRel σ k' l'
    | none => exitTo id l = none
  | [], l, r => by obtain rfl := r.nil; simp [exitToA, exitTo]
  | a :: k, l, r => by
    obtain ⟨x, l, rfl, hx, r'⟩ := r.cons
    have ih := exit_sound id r'
    cases a <;> cases x <;> simp only [IRel] at hx <;> first | exact hx.elim | (simp only [exitToA, exitTo]; exact ih) | skip
    subst hx
    rename_i i
    simp only [exitToA, exitTo]
    by_cases e : i = id
    · subst e; simp; exact r'
    · have e1 : Nat.beq i id = false := by
        cases hb : Nat.beq i id with
        | false => rfl
        | true => exact absurd (Nat.eq_of_beq_eq_true hb) e
      simp only [e1, cond_false]
      rw [if_neg (by simpa using e)]
      exact ih
theorem goto_sound (t : Nat) : ∀ {k : List AItem} {l : List Item}, KRel σ k l → match gotoInA t k with
    | some k' => ∃ l', gotoIn t l = some l' ∧ KRel σ k' l'
    | none => gotoIn t l = none
  | [], l, r => by obtain rfl := r.nil; simp [gotoInA, gotoIn]
  | a :: k, l, r => by
    obtain ⟨x, l, rfl, hx, r'⟩ := r.cons
    have ih := goto_sound t r'
    cases a <;> cases x <;> simp only [IRel] at hx <;> first | exact hx.elim | (simp only [gotoInA, gotoIn]; exact ih) | skip
    subst hx
    rename_i c
    simp only [gotoInA, gotoIn]
    cases hf : findLabel c t with
    | none => simp only []; exact ih
    | some rest => exact ⟨_, rfl, rfl, rfl, r'⟩

def DRel (σ : Sg) : ADf → Deferred → Prop
  | .call f args, d => ∃ cap as, concL σ args = some (as ++ cap) ∧ d = { target := .fn (.func f) ⟨cap⟩, args := ⟨as⟩ }
  | .collected b, d => ∃ k c, σ b = some (k, c) ∧ d = { target := .collected k, args := #[] }
theorem DRel.mono (hs : Sub σ σ') {a : ADf} {d : Deferred} (r : DRel σ a d) : DRel σ' a d := by
  cases a with
  | call f args => obtain ⟨cap, as, h1, h2⟩ := r; exact ⟨cap, as, concL_mono hs _ _ h1, h2⟩
  | collected b => obtain ⟨k, c, h1, h2⟩ := r; exact ⟨k, c, hs _ _ h1, h2⟩
def DLRel (σ : Sg) : List ADf → List Deferred → Prop
  | [], [] => True
  | a :: k, x :: l => DRel σ a x ∧ DLRel σ k l
  | _, _ => False
theorem DLRel.mono (hs : Sub σ σ') : ∀ {k : List ADf} {l : List Deferred}, DLRel σ k l → DLRel σ' k l
  | [], [], _ => trivial
  | [], _ :: _, r => r.elim
  | _ :: _, [], r => r.elim
  | _ :: _, _ :: _, r => ⟨DRel.mono hs r.1, DLRel.mono hs r.2⟩

structure FRel (σ : Sg) (fr : AF) (cf : Frame) : Prop where
  fn : cf.fn = fr.fn
  tm : TRel σ fr.nt fr.tm cf.tmps
  todo : KRel σ fr.todo cf.todo
  defers : DLRel σ fr.defers cf.defers
  mode : cf.mode = (if fr.ret then .returning else .run)
  kind : cf.kind = (if fr.deferred then .deferred else .normal)
  round : match fr.roundOf with
    | none => cf.roundOf = none
    | some l => fr.deferred = false ∧ fr.ret = false ∧ ∃ b c, σ l = some (b, c) ∧ cf.roundOf = some b
theorem FRel.mono (hs : Sub σ σ') {fr : AF} {cf : Frame} (r : FRel σ fr cf) : FRel σ' fr cf where
  fn := r.fn
  tm := r.tm.mono hs
  todo := r.todo.mono hs
  defers := r.defers.mono hs
  mode := r.mode
  kind := r.kind
  round := by
    have := r.round
    cases hr : fr.roundOf with
    | none => rw [hr] at this; exact this
    | some l => rw [hr] at this; obtain ⟨h1, h2, b, c, h3, h4⟩ := this; exact ⟨h1, h2, b, c, hs _ _ h3, h4⟩

/-- a function is entered -/
theorem initTm_rel {β : Type} {K : T AV → β} : ∀ (vs : List AV) (i : Nat) (t : T AV), ∃ t', initTm i vs t K = K t' ∧ ∀ j, t'.get j = if i ≤ j ∧ j < i + vs.length then vs[j - i]? else t.get j
  | [], i, t => ⟨t, rfl, fun j => by rw [if_neg (by simp only [List.length_nil]; omega)]⟩
  | v :: vs, i, t => by
    obtain ⟨t', h1, h2⟩ := initTm_rel (K := K) vs (i + 1) (T.set (some v) t i)
    refine ⟨t', by simp only [initTm, setK_set]; exact h1, fun j => ?_⟩
    rw [h2, get_set]
    by_cases e : j = i
    · subst e; rw [if_neg (by omega), if_pos rfl, if_pos (by simp)]; simp
    · by_cases e2 : i + 1 ≤ j ∧ j < i + 1 + vs.length
      · rw [if_pos e2, if_pos (by simp; omega), show j - i = (j - (i + 1)) + 1 by omega]; simp
      · rw [if_neg e2, if_neg e, if_neg (by simp at e2 ⊢; omega)]

theorem enter_rel {β : Type} (hE : EnvOk P E) {f : FuncId} {args : List AV} {d : Bool} {K : AF → Option β} {y : β} (h : enterA E f args d K = some y) :
    ∃ fr, K fr = some y ∧ fr.fn = f ∧ fr.roundOf = none ∧ fr.deferred = d ∧ fr.ret = false ∧
      ∀ σ xs, concL σ args = some xs → FRel σ fr (Frame.enter P f ⟨xs⟩ (if d then .deferred else .normal)) := by
  unfold enterA at h
  cases hf : E.fs.get f with
  | none => simp [hf] at h
  | some fn =>
    have hP := hE.fs f fn hf
    simp only [hf] at h
    cases hb : fn.body with
    | none => simp [hb] at h
    | some c =>
      simp only [hb] at h
      cases hl : Nat.ble args.length fn.ntmps with
      | false => simp [hl] at h
      | true =>
        simp only [hl, cond_true] at h
        obtain ⟨t', h1, h2⟩ := initTm_rel (K := fun tm => K { fn := f, nt := fn.ntmps, tm := tm, todo := [.code c], defers := [], roundOf := none, deferred := d, ret := false }) args 0 .nil
        rw [h1] at h
        have hle := Nat.le_of_ble_eq_true hl
        refine ⟨_, h, rfl, rfl, rfl, rfl, fun σ xs hxs => ?_⟩
        have hxl := concL_length hxs
        refine ⟨rfl, ⟨?_, fun j => ?_⟩, ⟨?_, trivial⟩, trivial, rfl, by cases d <;> rfl, rfl⟩
        · simp [Frame.enter, hP]; omega
        · simp only [Frame.enter, hP, Option.map_some, Option.getD_some]
          rw [h2]
          by_cases e : 0 ≤ j ∧ j < 0 + args.length
          · rw [if_pos e]
            have hlt : j < args.length := by omega
            have hx : j < xs.length := by omega
            simp only [Nat.sub_zero, List.getElem?_eq_getElem hlt]
            obtain ⟨a, ha1, ha2⟩ := concL_nth hxs (n := j) (v := args[j]) (by rw [nth_eq]; exact List.getElem?_eq_getElem hlt)
            refine ⟨by omega, a, ?_, ha2⟩
            rw [Array.getElem?_append_left (by simpa using hx)]
            simpa using ha1
          · rw [if_neg e, get_nil]
            simp only
            rw [Array.getD_eq_getD_getElem?, Array.getElem?_append_right (by simp; omega)]
            simp [Array.getElem?_replicate]
            split <;> rfl
        · simp [IRel, hP, hb]

def parms : List Tmp → List Value → Array Value → Array Value
  | p :: ps, x :: xs, tmps => parms ps xs (tmps.setIfInBounds p x)
  | _, _, tmps => tmps
theorem parms_eq : ∀ (ps : List Tmp) (xs : List Value) (tmps : Array Value), (ps.zip xs).foldl (fun tmps (t, a) => tmps.setIfInBounds t a) tmps = parms ps xs tmps
  | [], _, _ => rfl
  | _ :: _, [], _ => rfl
  | p :: ps, x :: xs, tmps => by simp only [List.zip_cons_cons, List.foldl_cons, parms]; exact parms_eq ps xs _
/-- what is yielded goes into the parameters -/
theorem setParams_rel {β : Type} {nt : Nat} : ∀ {ps : List Tmp} {vs : List AV} {t : T AV} {K : T AV → Option β} {y : β}, setParams nt ps vs t K = some y →
    ∃ t', K t' = some y ∧ ps.length = vs.length ∧ ∀ σ tmps xs, TRel σ nt t tmps → concL σ vs = some xs → TRel σ nt t' (parms ps xs tmps)
  | [], [], t, K, y, h => ⟨t, h, rfl, fun σ tmps xs r _ => by simpa [parms] using r⟩
  | [], _ :: _, t, K, y, h => by simp [setParams] at h
  | _ :: _, [], t, K, y, h => by simp [setParams] at h
  | p :: ps, v :: vs, t, K, y, h => by
    simp only [setParams] at h
    cases hb : Nat.blt p nt with
    | false => simp [hb] at h
    | true =>
      simp only [hb, cond_true, setK_set] at h
      obtain ⟨t', h1, h2, h3⟩ := setParams_rel h
      refine ⟨t', h1, by simp [h2], fun σ tmps xs r hxs => ?_⟩
      obtain ⟨x, l, q1, q2, rfl⟩ := concL_cons.1 hxs
      simp only [parms]
      exact h3 σ _ l (r.put (blt_true.1 hb) q1) q2

theorem put_kill (r : HRel σ h w.heap) {i b c : Nat} {o₀ : AObj} (hi : h.t.get i = some o₀) (hs : σ i = some (b, c)) {y : Obj} (hb : w.heap[b]? = some y) (x : Obj) :
    HRel σ ⟨h.next, T.set none h.t i⟩ (setW w b x).heap ∧ Ext σ h w σ ⟨h.next, T.set none h.t i⟩ (setW w b x) := by
  have hlt : b < w.heap.size := (Array.getElem?_eq_some_iff.1 hb).1
  have hk : ∀ k, k ≠ b → (setW w b x).heap[k]? = w.heap[k]? := fun k hk => by simp only [setW]; rw [Array.getElem?_setIfInBounds_ne (by omega)]
  have old : ∀ j o, (T.set none h.t i).get j = some o → j ≠ i ∧ h.t.get j = some o := fun j o hj => by
    rw [get_set] at hj
    by_cases e : j = i
    · simp [e] at hj
    · simp [e] at hj; exact ⟨e, hj⟩
  refine ⟨⟨r.fresh, fun j o hj => ?_, fun j k o₁ o₂ b' c₁ c₂ hj hk' => r.inj j k o₁ o₂ b' c₁ c₂ (old j o₁ hj).2 (old k o₂ hk').2⟩, ⟨rfl, rfl, rfl, by simp [setW], Nat.le_refl _, fun _ _ => rfl, fun k hk' hn => ?_, fun j o k c' hj hsj hk' => ⟨j, o, c', (old j o hj).2, hsj⟩⟩⟩
  · obtain ⟨e1, e2⟩ := old j o hj
    obtain ⟨b', c', x', g1, g2, g3⟩ := r.objs j o e2
    refine ⟨b', c', x', g1, ?_, g3⟩
    rw [hk b' (fun q => by subst q; exact e1 (r.inj j i o o₀ b' c' c e2 hi g1 hs))]; exact g2
  · exact hk k (fun q => by subst q; exact hn i o₀ c hi hs)

theorem ORel.inv_loop {c : Nat} {st : LoopState} {pend : Option Code} {fn : FuncId} {nt : Nat} {tm : T AV} {ps : Array Tmp} {a b : Code} {d : Nat} {x : Obj} (h : ORel σ c (.loop st pend fn nt tm ps a b d) x) :
    ∃ tmps k c', x = .loop { state := st, pending := pend, fn := fn, tmps := tmps, params := ps, assign := a, body := b, defers := k } ∧ TRel σ nt tm tmps ∧ σ d = some (k, c') := by
  cases x <;> simp only [ORel] at h
  rename_i l
  obtain ⟨h1, h2, h3, h4, h5, h6, h7, c', h8⟩ := h
  obtain ⟨st', pend', fn', tmps', ps', a', b', d'⟩ := l
  simp only at h1 h2 h3 h4 h5 h6 h7 h8
  subst h1 h2 h3 h5 h6 h7
  exact ⟨tmps', d', c', rfl, h4, h8⟩
theorem ORel.inv_deferred {c : Nat} {x : Obj} (h : ORel σ c .deferred x) : x = .deferred (some []) := by
  cases x <;> simp only [ORel] at h
  rw [h]

end
end Go.Ev
