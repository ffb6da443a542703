/- The evaluator's soundness: regions that draw their order: the record of the run in the text's order. -/
import Derived.Test.YtaodaeehndocgaaGreatEvT
set_option linter.unusedSimpArgs false
set_option linter.unusedVariables false
namespace Go.Ev

section
variable {P : Program} {E : Env}

def mergeF (base : Nat) (rs : List RR) (h : H) : List Nat → Option H
  | [] => some h
  | x :: xs => match nth rs x with
    | some ⟨_, _, some ob⟩ => mergeF base rs ⟨h.next, T.set (some ob) h.t (base + x)⟩ xs
    | some ⟨_, _, none⟩ => mergeF base rs h xs
    | none => none
theorem mergeA_eq {base : Nat} {rs : List RR} : ∀ {xs : List Nat} {h : H} {K : H → Option (AV × H)} {y : AV × H}, mergeA base rs h xs K = some y → ∃ h', mergeF base rs h xs = some h' ∧ K h' = some y
  | [], h, K, y, e => ⟨h, rfl, e⟩
  | x :: xs, h, K, y, e => by
    simp only [mergeA] at e
    simp only [mergeF]
    split at e
    · rename_i ob hx
      simp only [putO_eq] at e
      simp only [hx]
      exact mergeA_eq e
    · rename_i hx
      simp only [hx]
      exact mergeA_eq e
    · cases e
theorem mergeL_eq {base : Nat} {rs : List RR} : ∀ {xs : List Nat} {h : H} {K : H → Bool}, mergeL base rs h xs K = true → ∃ h', mergeF base rs h xs = some h' ∧ K h' = true
  | [], h, K, e => ⟨h, rfl, e⟩
  | x :: xs, h, K, e => by
    simp only [mergeL] at e
    simp only [mergeF]
    split at e
    · rename_i ob hx
      simp only [putO_eq] at e
      simp only [hx]
      exact mergeL_eq e
    · rename_i hx
      simp only [hx]
      exact mergeL_eq e
    · cases e
theorem nth_append {α : Type} {l m : List α} {i : Nat} {a : α} (h : nth l i = some a) : nth (l ++ m) i = some a := by
  rw [nth_eq] at *
  have hi : i < l.length := by
    rcases Nat.lt_or_ge i l.length with q | q
    · exact q
    · rw [List.getElem?_eq_none q] at h; cases h
  rw [List.getElem?_append_left hi]; exact h
theorem mergeF_mono {base : Nat} {rs rs2 : List RR} : ∀ {xs : List Nat} {h h' : H}, mergeF base rs h xs = some h' → mergeF base (rs ++ rs2) h xs = some h'
  | [], h, h', e => e
  | x :: xs, h, h', e => by
    simp only [mergeF] at e ⊢
    split at e
    · rename_i hx; rw [nth_append hx]; exact mergeF_mono e
    · rename_i hx; rw [nth_append hx]; exact mergeF_mono e
    · cases e
theorem mergeF_spec {base : Nat} {rs : List RR} : ∀ {xs : List Nat} {h h' : H}, mergeF base rs h xs = some h' →
    h'.next = h.next ∧ ∀ i o, h'.t.get i = some o → h.t.get i = some o ∨ ∃ x ∈ xs, i = base + x ∧ ∃ vs v, rs[x]? = some ⟨vs, v, some o⟩
  | [], h, h', e => by cases e; exact ⟨rfl, fun i o hi => .inl hi⟩
  | x :: xs, h, h', e => by
    simp only [mergeF] at e
    split at e
    · rename_i vs v ob hx
      obtain ⟨h1, h2⟩ := mergeF_spec e
      refine ⟨h1, fun i o hi => ?_⟩
      rcases h2 i o hi with q | ⟨y, hy, q⟩
      · simp only [get_set] at q
        by_cases ei : i = base + x
        · rw [if_pos ei] at q; cases q
          rw [nth_eq] at hx
          exact .inr ⟨x, by simp, ei, vs, v, hx⟩
        · rw [if_neg ei] at q; exact .inl q
      · exact .inr ⟨y, by simp [hy], q⟩
    · obtain ⟨h1, h2⟩ := mergeF_spec e
      refine ⟨h1, fun i o hi => ?_⟩
      rcases h2 i o hi with q | ⟨y, hy, q⟩
      · exact .inl q
      · exact .inr ⟨y, by simp [hy], q⟩
    · cases e

theorem putDst_get {β : Type} {nt : Nat} {dst : Option Tmp} {v : AV} {tm : T AV} {K : T AV → Option β} {y : β} (h : putDst nt dst v tm K = some y) :
    (∀ d, dst = some d → d < nt) ∧ ∃ tm', K tm' = some y ∧ ∀ t, tm'.get t = if dst = some t then some v else tm.get t := by
  cases dst with
  | none => exact ⟨(by intro d q; cases q), tm, h, fun t => by simp⟩
  | some d =>
    simp only [putDst] at h
    cases hb : Nat.blt d nt with
    | false => simp [hb] at h
    | true =>
      simp only [hb, cond_true, setK_set] at h
      refine ⟨fun d' q => by cases q; exact blt_true.1 hb, _, h, fun t => ?_⟩
      rw [get_set]
      by_cases e : t = d
      · subst e; simp
      · rw [if_neg e, if_neg (by intro q; cases q; exact e rfl)]

/-- how many effects are ahead of j -/
def rank (ps : List PE) (j : Nat) : Nat := (List.range j).countP fun i => effAt ps i
theorem rank_succ (ps : List PE) (j : Nat) : rank ps (j + 1) = rank ps j + if effAt ps j then 1 else 0 := by
  unfold rank
  rw [List.range_succ, List.countP_append]
  simp [List.countP_cons]

/-- the slots, the operations of S done -/
structure TmOk (ops : Array Oper) (rs : List RR) (tm0 : T AV) (S : Nat → Prop) (tm : T AV) : Prop where
  one : ∀ i, S i → ∃ rr, rs[i]? = some rr ∧ ∀ o d, ops[i]? = some o → o.dst = some d → tm.get d = some rr.v
  two : ∀ t, (∀ i o, S i → ops[i]? = some o → o.dst ≠ some t) → tm.get t = tm0.get t
theorem get_append {α : Type} {l m : List α} {i : Nat} {a : α} (h : l[i]? = some a) : (l ++ m)[i]? = some a := by
  have := nth_append (m := m) (by rw [nth_eq]; exact h)
  rw [nth_eq] at this; exact this
theorem TmOk.mono {ops : Array Oper} {rs rs2 : List RR} {tm0 : T AV} {S : Nat → Prop} {tm : T AV} (h : TmOk ops rs tm0 S tm) : TmOk ops (rs ++ rs2) tm0 S tm :=
  ⟨fun i hi => let ⟨rr, h1, h2⟩ := h.one i hi; ⟨rr, get_append h1, h2⟩, h.two⟩

/-- what an operation came to, in the text's order -/
def Came (E : Env) (rc : AF → H → Option (AV × H)) (ops : Array Oper) (base : Nat) (hs : List H) (rs : List RR) (e : Nat) (o : Oper) (p : PE) (rr : RR) (tmj : T AV) (h : H) : Prop :=
  (wantedA ops tmj o = true ∧ ∃ vs, aevL tmj o.op.operands.toList = some vs ∧ rr.vs = some vs ∧ (match p with
    | .eff req => rr.ob = none ∧ ∃ hm h', mergeF base rs h req = some hm ∧ stepA E rc (effA E o.op vs hm) = some (rr.v, h') ∧ hs[e + 1]? = some h'
    | .alloc => ∃ ob mk, allocA E o.op vs = some (ob, mk) ∧ rr.ob = some ob
    | .light _ req => rr.ob = none ∧ ∃ hm, mergeF base rs h req = some hm ∧ lightA E o.op vs hm = some rr.v)) ∨
  (wantedA ops tmj o = false ∧ rr.vs = none ∧ rr.v = undefA ∧ rr.ob = none ∧ (match p with
    | .eff req => ∃ hm, mergeF base rs h req = some hm ∧ hs[e + 1]? = some hm
    | _ => True))

structure OpFact (E : Env) (rc : AF → H → Option (AV × H)) (ops : Array Oper) (ps : List PE) (nt base : Nat) (tm0 : T AV) (hs : List H) (rs : List RR) (j : Nat) (o : Oper) (p : PE) (rr : RR) (tmj : T AV) (h : H) : Prop where
  fo : ops[j]? = some o
  fp : ps[j]? = some p
  frr : rs[j]? = some rr
  nocomm : isComm o.op = false
  dst : ∀ d, o.dst = some d → d < nt
  ftm : TmOk ops rs tm0 (· < j) tmj
  fh : hs[rank ps j]? = some h
  made : ∀ vs ob mk, p = .alloc → rr.vs = some vs → allocA E o.op vs = some (ob, mk) → rr.v = mk (base + j)
  came : Came E rc ops base hs rs (rank ps j) o p rr tmj h
def HasFact (E : Env) (rc : AF → H → Option (AV × H)) (ops : Array Oper) (ps : List PE) (nt base : Nat) (tm0 : T AV) (hs : List H) (rs : List RR) (j : Nat) : Prop :=
  ∃ o p rr tmj h, OpFact E rc ops ps nt base tm0 hs rs j o p rr tmj h
theorem HasFact.mono {rc : AF → H → Option (AV × H)} {ops : Array Oper} {ps : List PE} {nt base : Nat} {tm0 : T AV} {hs hs2 : List H} {rs rs2 : List RR} {j : Nat}
    (f : HasFact E rc ops ps nt base tm0 hs rs j) : HasFact E rc ops ps nt base tm0 (hs ++ hs2) (rs ++ rs2) j := by
  obtain ⟨o, p, rr, tmj, h, f⟩ := f
  refine ⟨o, p, rr, tmj, h, f.fo, f.fp, get_append f.frr, f.nocomm, f.dst, f.ftm.mono, get_append f.fh, f.made, ?_⟩
  rcases f.came with ⟨h1, vs, h2, h3, h4⟩ | ⟨h1, h2, h3, h4, h5⟩
  · refine .inl ⟨h1, vs, h2, h3, ?_⟩
    cases p with
    | eff req => obtain ⟨q1, hm, h', q2, q3, q4⟩ := h4; exact ⟨q1, hm, h', mergeF_mono q2, q3, get_append q4⟩
    | alloc => exact h4
    | light ks req => obtain ⟨q1, hm, q2, q3⟩ := h4; exact ⟨q1, hm, mergeF_mono q2, q3⟩
  · refine .inr ⟨h1, h2, h3, h4, ?_⟩
    cases p with
    | eff req => obtain ⟨hm, q2, q4⟩ := h5; exact ⟨hm, mergeF_mono q2, get_append q4⟩
    | alloc => trivial
    | light ks req => trivial

theorem effAt_of {ps : List PE} {j : Nat} {p : PE} (h : ps[j]? = some p) : effAt ps j = isEff p := by simp [effAt, h]

/-- the run in the text's order leaves a record -/
theorem regD_spec {rc : AF → H → Option (AV × H)} {nt base : Nat} {ops : Array Oper} {ps0 : List PE} {tm0 : T AV} (hps : ps0.length = ops.size)
    (hdist : ∀ (i j : Nat) (a b : Oper) d, i < j → ops[i]? = some a → ops[j]? = some b → a.dst = some d → b.dst ≠ some d) :
    ∀ (os : List Oper) (ps : List PE) (j : Nat) (tm : T AV) (h : H) (hs : List H) (rs : List RR) (K : T AV → H → List H → List RR → Option (AV × H)) (y : AV × H),
      ops.toList.drop j = os → ps0.drop j = ps → j ≤ ops.size → rs.length = j → hs.length = rank ps0 j + 1 → hs[rank ps0 j]? = some h → TmOk ops rs tm0 (· < j) tm →
      (∀ i, i < j → HasFact E rc ops ps0 nt base tm0 hs rs i) →
      regD E rc nt base ops os ps tm h hs rs K = some y →
      ∃ tm' h' hs' rs', K tm' h' hs' rs' = some y ∧ rs'.length = ops.size ∧ hs'.length = rank ps0 ops.size + 1 ∧ hs'[rank ps0 ops.size]? = some h' ∧ hs'[0]? = hs[0]? ∧ TmOk ops rs' tm0 (· < ops.size) tm' ∧
        ∀ i, i < ops.size → HasFact E rc ops ps0 nt base tm0 hs' rs' i
  | [], ps, j, tm, h, hs, rs, K, y, e1, e2, ej, e3, e4, e5, e6, e7, e => by
    have hj : j = ops.size := by
      have := congrArg List.length e1
      simp at this; omega
    subst hj
    have : ps = [] := by
      rw [← e2]; exact List.drop_eq_nil_of_le (by omega)
    subst this
    exact ⟨tm, h, hs, rs, e, e3, e4, e5, rfl, e6, e7⟩
  | o :: os, ps, j, tm, h, hs, rs, K, y, e1, e2, ej, e3, e4, e5, e6, e7, e => by
    have hj : j < ops.size := by
      rcases Nat.lt_or_ge j ops.size with q | q
      · exact q
      · rw [List.drop_eq_nil_of_le (by simpa using q)] at e1; cases e1
    rw [List.drop_eq_getElem_cons (by simpa using hj)] at e1
    injection e1 with e1a e1b
    have ho : ops[j]? = some o := by rw [← e1a]; simp [hj]
    rw [List.drop_eq_getElem_cons (by omega)] at e2
    subst e2
    have hp : ps0[j]? = some (ps0[j]'(by omega)) := List.getElem?_eq_getElem _
    generalize ps0[j]'(by omega) = p at hp e
    have hh0 : 0 < hs.length := by omega
    have next : ∀ (rr : RR) (tm' : T AV) (h' : H) (hs2 : List H), (isEff p = true → hs2 = [h']) → (isEff p = false → hs2 = [] ∧ h' = h) → (∀ t, tm'.get t = if o.dst = some t then some rr.v else tm.get t) →
        HasFact E rc ops ps0 nt base tm0 (hs ++ hs2) (rs ++ [rr]) j → regD E rc nt base ops os (ps0.drop (j + 1)) tm' h' (hs ++ hs2) (rs ++ [rr]) K = some y →
        ∃ tm' h' hs' rs', K tm' h' hs' rs' = some y ∧ rs'.length = ops.size ∧ hs'.length = rank ps0 ops.size + 1 ∧ hs'[rank ps0 ops.size]? = some h' ∧ hs'[0]? = hs[0]? ∧ TmOk ops rs' tm0 (· < ops.size) tm' ∧
          ∀ i, i < ops.size → HasFact E rc ops ps0 nt base tm0 hs' rs' i := by
      intro rr tm' h' hs2 q1 q2 q3 q4 q5
      have hr := rank_succ ps0 j
      rw [effAt_of hp] at hr
      have hlen : (hs ++ hs2).length = rank ps0 (j + 1) + 1 ∧ (hs ++ hs2)[rank ps0 (j + 1)]? = some h' := by
        cases hpe : isEff p with
        | true =>
          obtain rfl := q1 hpe
          rw [hpe, if_pos rfl] at hr
          refine ⟨by simp [e4, hr], ?_⟩
          rw [hr, ← e4]; simp
        | false =>
          obtain ⟨rfl, rfl⟩ := q2 hpe
          rw [hpe] at hr; simp at hr
          exact ⟨by rw [hr]; simp [e4], by rw [hr]; simpa using e5⟩
      have htm : TmOk ops (rs ++ [rr]) tm0 (· < j + 1) tm' := by
        refine ⟨fun i hi => ?_, fun t ht => ?_⟩
        · rcases Nat.lt_succ_iff_lt_or_eq.1 hi with q | rfl
          · obtain ⟨r1, a1, a2⟩ := e6.one i q
            refine ⟨r1, get_append a1, fun o' d ho' hd => ?_⟩
            rw [q3, if_neg (hdist i j o' o d q ho' ho hd)]
            exact a2 o' d ho' hd
          · refine ⟨rr, by rw [← e3]; simp, fun o' d ho' hd => ?_⟩
            rw [ho] at ho'; cases ho'
            rw [q3, if_pos hd]
        · rw [q3, if_neg (ht j o (by omega) ho)]
          exact e6.two t fun i o' hi => ht i o' (Nat.lt_succ_of_lt hi)
      obtain ⟨tm₁, h₁, hs₁, rs₁, k1, k2, k3, k4, k5, k6, k7⟩ := regD_spec hps hdist os (ps0.drop (j + 1)) (j + 1) tm' h' (hs ++ hs2) (rs ++ [rr]) K y (by simpa using e1b) rfl (by omega) (by simp [e3]) hlen.1 hlen.2 htm
        (fun i hi => by
          rcases Nat.lt_succ_iff_lt_or_eq.1 hi with q | rfl
          · exact (e7 i q).mono
          · exact q4) q5
      refine ⟨tm₁, h₁, hs₁, rs₁, k1, k2, k3, k4, ?_, k6, k7⟩
      rw [k5, List.getElem?_append_left hh0]
    have hrs : ∀ rr : RR, (rs ++ [rr])[j]? = some rr := fun rr => by rw [← e3]; simp
    have hlast : ∀ h' : H, (hs ++ [h'])[rank ps0 j + 1]? = some h' := fun h' => by rw [← e4]; simp
    simp only [regD] at e
    cases hc : isComm o.op with
    | true => rw [hc] at e; cases e
    | false =>
      rw [hc] at e; simp only [cond_false] at e
      cases hw : wantedA ops tm o with
      | false =>
        rw [hw] at e; simp only [cond_false] at e
        cases p with
        | eff req =>
          simp only at e
          obtain ⟨hm, f1, e⟩ := mergeA_eq e
          obtain ⟨d1, tm', e, d2⟩ := putDst_get e
          simp only [snoc_eq] at e
          refine next _ tm' hm [hm] (fun _ => rfl) (by intro q; cases q) d2 ?_ e
          exact ⟨o, _, _, tm, h, ho, hp, hrs _, hc, d1, e6.mono, get_append e5, (by intro _ _ _ q; cases q), .inr ⟨hw, rfl, rfl, rfl, hm, mergeF_mono f1, hlast _⟩⟩
        | alloc =>
          simp only at e
          obtain ⟨d1, tm', e, d2⟩ := putDst_get e
          simp only [snoc_eq] at e
          refine next _ tm' h [] (by intro q; cases q) (fun _ => ⟨rfl, rfl⟩) d2 ?_ (by simpa using e)
          exact ⟨o, _, _, tm, h, ho, hp, hrs _, hc, d1, e6.mono, get_append e5, (by intro _ _ _ _ q; cases q), .inr ⟨hw, rfl, rfl, rfl, trivial⟩⟩
        | light ks req =>
          simp only at e
          obtain ⟨d1, tm', e, d2⟩ := putDst_get e
          simp only [snoc_eq] at e
          refine next _ tm' h [] (by intro q; cases q) (fun _ => ⟨rfl, rfl⟩) d2 ?_ (by simpa using e)
          exact ⟨o, _, _, tm, h, ho, hp, hrs _, hc, d1, e6.mono, get_append e5, (by intro _ _ _ q; cases q), .inr ⟨hw, rfl, rfl, rfl, trivial⟩⟩
      | true =>
        rw [hw] at e; simp only [cond_true] at e
        cases hv : aevL tm o.op.operands.toList with
        | none => rw [hv] at e; cases e
        | some vs =>
          rw [hv] at e; simp only at e
          cases p with
          | eff req =>
            simp only at e
            obtain ⟨hm, f1, e⟩ := mergeA_eq e
            cases hst : stepA E rc (effA E o.op vs hm) with
            | none => rw [hst] at e; cases e
            | some q =>
              obtain ⟨v, h'⟩ := q
              rw [hst] at e; simp only at e
              obtain ⟨d1, tm', e, d2⟩ := putDst_get e
              simp only [snoc_eq] at e
              refine next _ tm' h' [h'] (fun _ => rfl) (by intro q; cases q) d2 ?_ e
              exact ⟨o, _, _, tm, h, ho, hp, hrs _, hc, d1, e6.mono, get_append e5, (by intro _ _ _ q; cases q), .inl ⟨hw, vs, hv, rfl, rfl, hm, h', mergeF_mono f1, hst, hlast _⟩⟩
          | alloc =>
            simp only at e
            cases hal : allocA E o.op vs with
            | none => rw [hal] at e; cases e
            | some q =>
              obtain ⟨ob, mk⟩ := q
              rw [hal] at e; simp only [fN_eq] at e
              obtain ⟨d1, tm', e, d2⟩ := putDst_get e
              simp only [snoc_eq] at e
              refine next _ tm' h [] (by intro q; cases q) (fun _ => ⟨rfl, rfl⟩) d2 ?_ (by simpa using e)
              refine ⟨o, _, _, tm, h, ho, hp, hrs _, hc, d1, e6.mono, get_append e5, ?_, .inl ⟨hw, vs, hv, rfl, ob, mk, hal, rfl⟩⟩
              intro vs' ob' mk' _ q1 q2
              cases q1
              rw [hal] at q2; cases q2
              rw [e3]
          | light ks req =>
            simp only at e
            obtain ⟨hm, f1, e⟩ := mergeA_eq e
            cases hli : lightA E o.op vs hm with
            | none => rw [hli] at e; cases e
            | some v =>
              rw [hli] at e; simp only at e
              obtain ⟨d1, tm', e, d2⟩ := putDst_get e
              simp only [snoc_eq] at e
              refine next _ tm' h [] (by intro q; cases q) (fun _ => ⟨rfl, rfl⟩) d2 ?_ (by simpa using e)
              exact ⟨o, _, _, tm, h, ho, hp, hrs _, hc, d1, e6.mono, get_append e5, (by intro _ _ _ q; cases q), .inl ⟨hw, vs, hv, rfl, rfl, hm, mergeF_mono f1, hli⟩⟩

/-! a light operation comes to the same at each time -/
mutual
theorem eqAV_eq : ∀ a b : AV, eqAV a b = true → a = b
  | a, b => by
    intro h
    unfold eqAV at h
    split at h <;> first
      | rfl
      | cases h
      | skip
    · simpa using h
    · simp at h; obtain ⟨rfl, h⟩ := h; rw [eqI_eq] at h; rw [eq_of_beq h]
    · rw [eqL_eq] at h; rw [eq_of_beq h]
    · simp at h; obtain ⟨rfl, rfl⟩ := h; rfl
    · simp at h; obtain ⟨rfl, rfl⟩ := h; rfl
    · simp at h; obtain ⟨⟨⟨rfl, rfl⟩, rfl⟩, rfl⟩ := h; rfl
    · simp at h; obtain ⟨⟨rfl, rfl⟩, rfl⟩ := h; rfl
    · simp at h; rw [h]
    · simp at h; rw [h]
    · rw [eqAVs_eq _ _ h]
    · rw [eqAVs_eq _ _ h]
    · simp at h; rw [h]
    · simp at h; obtain ⟨rfl, h⟩ := h; rw [eqAV_eq _ _ h]
theorem eqAVs_eq : ∀ a b : List AV, eqAV.eqAVs a b = true → a = b
  | [], [], _ => rfl
  | [], _ :: _, h => by simp [eqAV.eqAVs] at h
  | _ :: _, [], h => by simp [eqAV.eqAVs] at h
  | x :: xs, y :: ys, h => by
    simp only [eqAV.eqAVs] at h
    cases hx : eqAV x y with
    | false => rw [hx] at h; cases h
    | true => rw [hx] at h; rw [eqAV_eq x y hx, eqAVs_eq xs ys h]
end

theorem sameAt_spec {base : Nat} {o : Op} {vs : List AV} {v : AV} {hs : List H} {rs : List RR} {req : List Nat} : ∀ {ks : List Nat}, sameAt E base o vs v hs rs req ks = true → ∀ k ∈ ks,
    ∃ h hm, hs[k]? = some h ∧ mergeF base rs h req = some hm ∧ lightA E o vs hm = some v
  | [], _, k, hk => by cases hk
  | k₀ :: ks, e, k, hk => by
    simp only [sameAt] at e
    split at e
    · cases e
    · rename_i h hn
      obtain ⟨hm, f1, e⟩ := mergeL_eq e
      split at e
      · cases e
      · rename_i u hl
        cases hq : eqAV u v with
        | false => rw [hq] at e; cases e
        | true =>
          rw [hq] at e; simp only [cond_true] at e
          have := eqAV_eq _ _ hq; subst this
          rcases List.mem_cons.1 hk with rfl | hk
          · exact ⟨h, hm, by rw [← nth_eq]; exact hn, f1, hl⟩
          · exact sameAt_spec e k hk
theorem cond_inv {a b : Bool} (h : cond a b false = true) : a = true ∧ b = true := by
  cases a with
  | false => cases h
  | true => exact ⟨rfl, h⟩
theorem sameAll_spec {base : Nat} {hs : List H} {rs : List RR} : ∀ {os : List Oper} {ps : List PE} {rs' : List RR}, sameAll E base hs rs os ps rs' = true →
    ∀ (j : Nat) (o : Oper) (ks req : List Nat) (rr : RR) (vs : List AV), os[j]? = some o → ps[j]? = some (.light ks req) → rs'[j]? = some rr → rr.vs = some vs → sameAt E base o.op vs rr.v hs rs req ks = true
  | [], [], [], _, j, o, ks, req, rr, vs, h, _, _, _ => by simp at h
  | o₀ :: os, p₀ :: ps, r₀ :: rs', e, j, o, ks, req, rr, vs, h1, h2, h3, h4 => by
    simp only [sameAll] at e
    obtain ⟨f1, f2⟩ := cond_inv e
    cases j with
    | zero =>
      simp at h1 h2 h3; subst h1 h2 h3
      simp only [h4] at f1
      exact f1
    | succ j =>
      simp at h1 h2 h3
      exact sameAll_spec f2 j o ks req rr vs h1 h2 h3 h4
  | [], _ :: _, _, e, _, _, _, _, _, _, _, _, _, _ => by simp [sameAll] at e
  | [], [], _ :: _, e, _, _, _, _, _, _, _, _, _, _ => by simp [sameAll] at e
  | _ :: _, [], _, e, _, _, _, _, _, _, _, _, _, _ => by simp [sameAll] at e
  | _ :: _, _ :: _, [], e, _, _, _, _, _, _, _, _, _, _ => by simp [sameAll] at e

end
end Go.Ev
