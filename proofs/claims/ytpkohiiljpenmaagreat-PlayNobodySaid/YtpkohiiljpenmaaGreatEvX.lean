/- The evaluator's soundness: regions that draw their order: the record of the run in the text's order. -/
import Derived.Test.YtpkohiiljpenmaaGreatEvT
set_option linter.unusedSimpArgs false
set_option linter.unusedVariables false
namespace Go.Ev

section
variable {P : Program} {E : Env}

def mergeF (base : Nat) (rs : List RR) (h : H) : List Nat → Option H
  | [] => some h
  | x :: xs => match nth rs x with
    | some ⟨_, _, some ob⟩ => mergeF base rs ⟨h.next, T.set (some ob) h.t (base + x)⟩ xs
    | some ⟨_, _, none⟩ => mergeF base rs h xs
    | none => none
theorem mergeA_eq {base : Nat} {rs : List RR} : ∀ {xs : List Nat} {h : H} {K : H → Option (AV × H)} {y : AV × H}, mergeA base rs h xs K = some y → ∃ h', mergeF base rs h xs = some h' ∧ K h' = some y
  | [], h, K, y, e => ⟨h, rfl, e⟩
  | x :: xs, h, K, y, e => by
    simp only [mergeA] at e
    simp only [mergeF]
    split at e
    · rename_i ob hx
      simp only [putO_eq] at e
      simp only [hx]
      exact mergeA_eq e
    · rename_i hx
      simp only [hx]
      exact mergeA_eq e
    · cases e
theorem mergeL_eq {base : Nat} {rs : List RR} : ∀ {xs : List Nat} {h : H} {K : H → Bool}, mergeL base rs h xs K = true → ∃ h', mergeF base rs h xs = some h' ∧ K h' = true
  | [], h, K, e => ⟨h, rfl, e⟩
  | x :: xs, h, K, e => by
    simp only [mergeL] at e
    simp only [mergeF]
    split at e
    · rename_i ob hx
      simp only [putO_eq] at e
      simp only [hx]
      exact mergeL_eq e
    · rename_i hx
      simp only [hx]
      exact mergeL_eq e
    · cases e
theorem nth_append {α : Type} {l m : List α} {i : Nat} {a : α} (h : nth l i = some a) : nth (l ++ m) i = some a := by
  rw [nth_eq] at *
  have hi : i < l.length := by
    rcases Nat.lt_or_ge i l.length with q | q
    · exact q
    · rw [List.getElem?_eq_none q] at h; cases h
  rw [List.getElem?_append_left hi]; exact h
theorem mergeF_mono {base : Nat} {rs rs2 : List RR} : ∀ {xs : List Nat} {h h' : H}, mergeF base rs h xs = some h' → mergeF base (rs ++ rs2) h xs = some h'
  | [], h, h', e => e
  | x :: xs, h, h', e => by
    simp only [mergeF] at e ⊢
    split at e
    · rename_i hx; rw [nth_append hx]; exact mergeF_mono e
    · rename_i hx; rw [nth_append hx]; exact mergeF_mono e
    · cases e
theorem mergeF_spec {base : Nat} {rs : List RR} : ∀ {xs : List Nat} {h h' : H}, mergeF base rs h xs = some h' →
    h'.next = h.next ∧ ∀ i o, h'.t.get i = some o → h.t.get i = some o ∨ ∃ x ∈ xs, i = base + x ∧ ∃ vs v, rs[x]? = some ⟨vs, v, some o⟩
  | [], h, h', e => by cases e; exact ⟨rfl, fun i o hi => .inl hi⟩
  | x :: xs, h, h', e => by
    simp only [mergeF] at e
    split at e
    · rename_i vs v ob hx
      obtain ⟨h1, h2⟩ := mergeF_spec e
      refine ⟨h1, fun i o hi => ?_⟩
      rcases h2 i o hi with q | ⟨y, hy, q⟩
      · simp only [get_set] at q
        by_cases ei : i = base + x
        · rw [if_pos ei] at q; cases q
          rw [nth_eq] at hx
          exact .inr ⟨x, by simp, ei, vs, v, hx⟩
        · rw [if_neg ei] at q; exact .inl q
      · exact .inr ⟨y, by simp [hy], q⟩
    · obtain ⟨h1, h2⟩ := mergeF_spec e
      refine ⟨h1, fun i o hi => ?_⟩
      rcases h2 i o hi with q | ⟨y, hy, q⟩
      · exact .inl q
      · exact .inr ⟨y, by simp [hy], q⟩
    · cases e

theorem putDst_get {β : Type} {nt : Nat} {dst : Option Tmp} {v : AV} {tm : T AV} {K : T AV → Option β} {y : β} (h : putDst nt dst v tm K = some y) :
    (∀ d, dst = some d → d < nt) ∧ ∃ tm', K tm' = some y ∧ ∀ t, tm'.get t = if dst = some t then some v else tm.get t := by
  cases dst with
  | none => exact ⟨(by intro d q; cases q), tm, h, fun t => by simp⟩
  | some d =>
    simp only [putDst] at h
    cases hb : Nat.blt d nt with
    | false => simp [hb] at h
    | true =>
      simp only [hb, cond_true, setK_set] at h
      refine ⟨fun d' q => by cases q; exact blt_true.1 hb, _, h, fun t => ?_⟩
      rw [get_set]
      by_cases e : t = d
      · subst e; simp
      · rw [if_neg e, if_neg (by intro q; cases q; exact e rfl)]

/-- how many effects are ahead of j -/
def rank (ps : List PE) (j : Nat) : Nat := (List.range j).countP fun i => effAt ps i
theorem rank_succ (ps : List PE) (j : Nat) : rank ps (j + 1) = rank ps j + if effAt ps j then 1 else 0 := by
  unfold rank
  rw [List.range_succ, List.countP_append]
  simp [List.countP_cons]

/-- the slots, the operations of S done -/
structure TmOk (ops : Array Oper) (rs : List RR) (tm0 : T AV) (S : Nat → Prop) (tm : T AV) : Prop where
  one : ∀ i, S i → ∃ rr, rs[i]? = some rr ∧ ∀ o d, ops[i]? = some o → o.dst = some d → tm.get d = some rr.v
  two : ∀ t, (∀ i o, S i → ops[i]? = some o → o.dst ≠ some t) → tm.get t = tm0.get t
theorem get_append {α : Type} {l m : List α} {i : Nat} {a : α} (h : l[i]? = some a) : (l ++ m)[i]? = some a := by
  have := nth_append (m := m) (by rw [nth_eq]; exact h)
  rw [nth_eq] at this; exact this
theorem TmOk.mono {ops : Array Oper} {rs rs2 : List RR} {tm0 : T AV} {S : Nat → Prop} {tm : T AV} (h : TmOk ops rs tm0 S tm) : TmOk ops (rs ++ rs2) tm0 S tm :=
  ⟨fun i hi => let ⟨rr, h1, h2⟩ := h.one i hi; ⟨rr, get_append h1, h2⟩, h.two⟩

/-- what an operation came to, in the text's order -/
def Came (E : Env) (rc : AF → H → Option (AV × H)) (ops : Array Oper) (base : Nat) (hs : List H) (rs : List RR) (e : Nat) (o : Oper) (p : PE) (rr : RR) (tmj : T AV) (h : H) : Prop :=
  (wantedA ops tmj o = true ∧ ∃ vs, aevL tmj o.op.operands.toList = some vs ∧ rr.vs = some vs ∧ (match p with
    | .eff req => rr.ob = none ∧ ∃ hm h', mergeF base rs h req = some hm ∧ stepA E rc (effA E o.op vs hm) = some (rr.v, h') ∧ hs[e + 1]? = some h'
    | .alloc => ∃ ob mk, allocA E o.op vs = some (ob, mk) ∧ rr.ob = some ob
    | .light _ req => rr.ob = none ∧ ∃ hm, mergeF base rs h req = some hm ∧ lightA E o.op vs hm = some rr.v)) ∨
  (wantedA ops tmj o = false ∧ rr.vs = none ∧ rr.v = undefA ∧ rr.ob = none ∧ (match p with
    | .eff req => ∃ hm, mergeF base rs h req = some hm ∧ hs[e + 1]? = some hm
    | _ => True))

structure OpFact (E : Env) (rc : AF → H → Option (AV × H)) (ops : Array Oper) (ps : List PE) (nt base : Nat) (tm0 : T AV) (hs : List H) (rs : List RR) (j : Nat) (o : Oper) (p : PE) (rr : RR) (tmj : T AV) (h : H) : Prop where
  fo : ops[j]? = some o
  fp : ps[j]? = some p
  frr : rs[j]? = some rr
  nocomm : isComm o.op = false
  dst : ∀ d, o.dst = some d → d < nt
  ftm : TmOk ops rs tm0 (· < j) tmj
  fh : hs[rank ps j]? = some h
  made : ∀ vs ob mk, p = .alloc → rr.vs = some vs → allocA E o.op vs = some (ob, mk) → rr.v = mk (base + j)
  came : Came E rc ops base hs rs (rank ps j) o p rr tmj h
def HasFact (E : Env) (rc : AF → H → Option (AV × H)) (ops : Array Oper) (ps : List PE) (nt base : Nat) (tm0 : T AV) (hs : List H) (rs : List RR) (j : Nat) : Prop :=
  ∃ o p rr tmj h, OpFact E rc ops ps nt base tm0 hs rs j o p rr tmj h
theorem HasFact.mono {rc : AF → H → Option (AV × H)} {ops : Array Oper} {ps : List PE} {nt base : Nat} {tm0 : T AV} {hs hs2 : List H} {rs rs2 : List RR} {j : Nat}
    (f : HasFact E rc ops ps nt base tm0 hs rs j) : HasFact E rc ops ps nt base tm0 (hs ++ hs2) (rs ++ rs2) j := by
  obtain ⟨o, p, rr, tmj, h, f⟩ := f
  refine ⟨o, p, rr, tmj, h, f.fo, f.fp, get_append f.frr, f.nocomm, f.dst, f.ftm.mono, get_append f.fh, f.made, ?_⟩
  rcases f.came with ⟨h1, vs, h2, h3, h4⟩ | ⟨h1, h2, h3, h4, h5⟩
  · refine .inl ⟨h1, vs, h2, h3, ?_⟩
    cases p with
    | eff req => obtain ⟨q1, hm, h', q2, q3, q4⟩ := h4; exact ⟨q1, hm, h', mergeF_mono q2, q3, get_append q4⟩
    | alloc => exact h4
    | light ks req => obtain ⟨q1, hm, q2, q3⟩ := h4; exact ⟨q1, hm, mergeF_mono q2, q3⟩
  · refine .inr ⟨h1, h2, h3, h4, ?_⟩
    cases p with
    | eff req => obtain ⟨hm, q2, q4⟩ := h5; exact ⟨hm, mergeF_mono q2, get_append q4⟩
    | alloc => trivial
    | light ks req => trivial

theorem effAt_of {ps : List PE} {j : Nat} {p : PE} (h : ps[j]? = some p) : effAt ps j = isEff p := by simp [effAt, h]

/-- the run in the text's order leaves a record -/
theorem regD_spec {rc : AF → H → Option (AV × H)} {nt base : Nat} {ops : Array Oper} {ps0 : List PE} {tm0 : T AV} (hps : ps0.length = ops.size)
    (hdist : ∀ (i j : Nat) (a b : Oper) d, i < j → ops[i]? = some a → ops[j]? = some b → a.dst = some d → b.dst ≠ some d) :
    ∀ (os : List Oper) (ps : List PE) (j : Nat) (tm : T AV) (h : H) (hs : List H) (rs : List RR) (K : T AV → H → List H → List RR → Option (AV × H)) (y : AV × H),
      ops.toList.drop j = os → ps0.drop j = ps → j ≤ ops.size → rs.length = j → hs.length = rank ps0 j + 1 → hs[rank ps0 j]? = some h → TmOk ops rs tm0 (· < j) tm →
      (∀ i, i < j → HasFact E rc ops ps0 nt base tm0 hs rs i) →
      regD E rc nt base ops os ps tm h hs rs K = some y →
      ∃ tm' h' hs' rs', K tm' h' hs' rs' = some y ∧ rs'.length = ops.size ∧ hs'.length = rank ps0 ops.size + 1 ∧ hs'[rank ps0 ops.size]? = some h' ∧ hs'[0]? = hs[0]? ∧ TmOk ops rs' tm0 (· < ops.size) tm' ∧
        ∀ i, i < ops.size → HasFact E rc ops ps0 nt base tm0 hs' rs' i
  | [], ps, j, tm, h, hs, rs, K, y, e1, e2, ej, e3, e4, e5, e6, e7, e => by
    have hj : j = ops.size := by
      have := congrArg List.length e1
      simp at this; omega
    subst hj
    have : ps = [] := by
      rw [← e2]; exact List.drop_eq_nil_of_le (by omega)
    subst this
    exact ⟨tm, h, hs, rs, e, e3, e4, e5, rfl, e6, e7⟩
  | o :: os, ps, j, tm, h, hs, rs, K, y, e1, e2, ej, e3, e4, e5, e6, e7, e => by
    have hj : j < ops.size := by
      rcases Nat.lt_or_ge j ops.size with q | q
      · exact q
      · rw [List.drop_eq_nil_of_le (by simpa using q)] at e1; cases e1
    rw [List.drop_eq_getElem_cons (by simpa using hj)] at e1
    injection e1 with e1a e1b
    have ho : ops[j]? = some o := by rw [← e1a]; simp [hj]
    rw [List.drop_eq_getElem_cons (by omega)] at e2
    subst e2
    have hp : ps0[j]? = some (ps0[j]'(by omega)) := List.getElem?_eq_getElem _
    generalize ps0[j]'(by omega) = p at hp e
    have hh0 : 0 < hs.length := by omega
    have next : ∀ (rr : RR) (tm' : T AV) (h' : H) (hs2 : List H), (isEff p = true → hs2 = [h']) → (isEff p = false → hs2 = [] ∧ h' = h) → (∀ t, tm'.get t = if o.dst = some t then some rr.v else tm.get t) →
        HasFact E rc ops ps0 nt base tm0 (hs ++ hs2) (rs ++ [rr]) j → regD E rc nt base ops os (ps0.drop (j + 1)) tm' h' (hs ++ hs2) (rs ++ [rr]) K = some y →
        ∃ tm' h' hs' rs', K tm' h' hs' rs' = some y ∧ rs'.length = ops.size ∧ hs'.length = rank ps0 ops.size + 1 ∧ hs'[rank ps0 ops.size]? = some h' ∧ hs'[0]? = hs[0]? ∧ TmOk ops rs' tm0 (· < ops.size) tm' ∧
          ∀ i, i < ops.size → HasFact E rc ops ps0 nt base tm0 hs' rs' i := by
      intro rr tm' h' hs2 q1 q2 q3 q4 q5
      have hr := rank_succ ps0 j
      rw [effAt_of hp] at hr
      have hlen : (hs ++ hs2).length = rank ps0 (j + 1) + 1 ∧ (hs ++ hs2)[rank ps0 (j + 1)]? = some h' := by
        cases hpe : isEff p with
        | true =>
          obtain rfl := q1 hpe
          rw [hpe, if_pos rfl] at hr
          refine ⟨by simp [e4, hr], ?_⟩
          rw [hr, ← e4]; simp
        | false =>
          obtain ⟨rfl, rfl⟩ := q2 hpe
          rw [hpe] at hr; simp at hr
          exact ⟨by rw [hr]; simp [e4], by rw [hr]; simpa using e5⟩
      have htm : TmOk ops (rs ++ [rr]) tm0 (· < j + 1) tm' := by
        refine ⟨fun i hi => ?_, fun t ht => ?_⟩
        · rcases Nat.lt_succ_iff_lt_or_eq.1 hi with q | rfl
          · obtain ⟨r1, a1, a2⟩ := e6.one i q
            refine ⟨r1, get_append a1, fun o' d ho' hd => ?_⟩
            rw [q3, if_neg (hdist i j o' o d q ho' ho hd)]
            exact a2 o' d ho' hd
          · refine ⟨rr, by rw [← e3]; simp, fun o' d ho' hd => ?_⟩
            rw [ho] at ho'; cases ho'
            rw [q3, if_pos hd]
        · rw [q3, if_neg (ht j o (by omega) ho)]
          exact e6.two t fun i o' hi => ht i o' (Nat.lt_succ_of_lt hi)
      obtain ⟨tm₁, h₁, hs₁, rs₁, k1, k2, k3, k4, k5, k6, k7⟩ := regD_spec hps hdist os (ps0.drop (j + 1)) (j + 1) tm' h' (hs ++ hs2) (rs ++ [rr]) K y (by simpa using e1b) rfl (by omega) (by simp [e3]) hlen.1 hlen.2 htm
        (fun i hi => by
          rcases Nat.lt_succ_iff_lt_or_eq.1 hi with q | rfl
          · exact (e7 i q).mono
          · exact q4) q5
      refine ⟨tm₁, h₁, hs₁, rs₁, k1, k2, k3, k4, ?_, k6, k7⟩
      rw [k5, List.getElem?_append_left hh0]
    have hrs : ∀ rr : RR, (rs ++ [rr])[j]? = some rr := fun rr => by rw [← e3]; simp
    have hlast : ∀ h' : H, (hs ++ [h'])[rank ps0 j + 1]? = some h' := fun h' => by rw [← e4]; simp
    simp only [regD] at e
    cases hc : isComm o.op with
    | true => rw [hc] at e; cases e
    | false =>
      rw [hc] at e; simp only [cond_false] at e
      cases hw : wantedA ops tm o with
      | false =>
        rw [hw] at e; simp only [cond_false] at e
        cases p with
        | eff req =>
          simp only at e
          obtain ⟨hm, f1, e⟩ := mergeA_eq e
          obtain ⟨d1, tm', e, d2⟩ := putDst_get e
          simp only [snoc_eq] at e
          refine next _ tm' hm [hm] (fun _ => rfl) (by intro q; cases q) d2 ?_ e
          exact ⟨o, _, _, tm, h, ho, hp, hrs _, hc, d1, e6.mono, get_append e5, (by intro _ _ _ q; cases q), .inr ⟨hw, rfl, rfl, rfl, hm, mergeF_mono f1, hlast _⟩⟩
        | alloc =>
          simp only at e
          obtain ⟨d1, tm', e, d2⟩ := putDst_get e
          simp only [snoc_eq] at e
          refine next _ tm' h [] (by intro q; cases q) (fun _ => ⟨rfl, rfl⟩) d2 ?_ (by simpa using e)
          exact ⟨o, _, _, tm, h, ho, hp, hrs _, hc, d1, e6.mono, get_append e5, (by intro _ _ _ _ q; cases q), .inr ⟨hw, rfl, rfl, rfl, trivial⟩⟩
        | light ks req =>
          simp only at e
          obtain ⟨d1, tm', e, d2⟩ := putDst_get e
          simp only [snoc_eq] at e
          refine next _ tm' h [] (by intro q; cases q) (fun _ => ⟨rfl, rfl⟩) d2 ?_ (by simpa using e)
          exact ⟨o, _, _, tm, h, ho, hp, hrs _, hc, d1, e6.mono, get_append e5, (by intro _ _ _ q; cases q), .inr ⟨hw, rfl, rfl, rfl, trivial⟩⟩
      | true =>
        rw [hw] at e; simp only [cond_true] at e
        cases hv : aevL tm o.op.operands.toList with
        | none => rw [hv] at e; cases e
        | some vs =>
          rw [hv] at e; simp only at e
          cases p with
          | eff req =>
            simp only at e
            obtain ⟨hm, f1, e⟩ := mergeA_eq e
            cases hst : stepA E rc (effA E o.op vs hm) with
            | none => rw [hst] at e; cases e
            | some q =>
              obtain ⟨v, h'⟩ := q
              rw [hst] at e; simp only at e
              obtain ⟨d1, tm', e, d2⟩ := putDst_get e
              simp only [snoc_eq] at e
              refine next _ tm' h' [h'] (fun _ => rfl) (by intro q; cases q) d2 ?_ e
              exact ⟨o, _, _, tm, h, ho, hp, hrs _, hc, d1, e6.mono, get_append e5, (by intro _ _ _ q; cases q), .inl ⟨hw, vs, hv, rfl, rfl, hm, h', mergeF_mono f1, hst, hlast _⟩⟩
          | alloc =>
            simp only at e
            cases hal : allocA E o.op vs with
            | none => rw [hal] at e; cases e
            | some q =>
              obtain ⟨ob, mk⟩ := q
              rw [hal] at e; simp only [fN_eq] at e
              obtain ⟨d1, tm', e, d2⟩ := putDst_get e
              simp only [snoc_eq] at e
              refine next _ tm' h [] (by intro q; cases q) (fun _ => ⟨rfl, rfl⟩) d2 ?_ (by simpa using e)
              refine ⟨o, _, _, tm, h, ho, hp, hrs _, hc, d1, e6.mono, get_append e5, ?_, .inl ⟨hw, vs, hv, rfl, ob, mk, hal, rfl⟩⟩
              intro vs' ob' mk' _ q1 q2
              cases q1
              rw [hal] at q2; cases q2
              rw [e3]
          | light ks req =>
            simp only at e
            obtain ⟨hm, f1, e⟩ := mergeA_eq e
            cases hli : lightA E o.op vs hm with
            | none => rw [hli] at e; cases e
            | some v =>
              rw [hli] at e; simp only at e
              obtain ⟨d1, tm', e, d2⟩ := putDst_get e
              simp only [snoc_eq] at e
              refine next _ tm' h [] (by intro q; cases q) (fun _ => ⟨rfl, rfl⟩) d2 ?_ (by simpa using e)
              exact ⟨o, _, _, tm, h, ho, hp, hrs _, hc, d1, e6.mono, get_append e5, (by intro _ _ _ q; cases q), .inl ⟨hw, vs, hv, rfl, rfl, hm, mergeF_mono f1, hli⟩⟩

/-! a light operation comes to the same at each time -/
mutual
theorem eqAV_eq : ∀ a b : AV, eqAV a b = true → a = b
  | a, b => by
    intro h
    unfold eqAV at h
    split at h <;> first
      | rfl
      | cases h
      | skip
    · simpa using h
    · simp at h; obtain ⟨rfl, h⟩ := h; rw [eqI_eq] at h; rw [eq_of_beq h]
    · rw [eqL_eq] at h; rw [eq_of_beq h]
    · simp at h; obtain ⟨rfl, rfl⟩ := h; rfl
    · simp at h; obtain ⟨rfl, rfl⟩ := h; rfl
    · simp at h; obtain ⟨⟨⟨rfl, rfl⟩, rfl⟩, rfl⟩ := h; rfl
    · simp at h; obtain ⟨⟨rfl, rfl⟩, rfl⟩ := h; rfl
    · simp at h; rw [h]
    · simp at h; rw [h]
    · rw [eqAVs_eq _ _ h]
    · rw [eqAVs_eq _ _ h]
    · simp at h; obtain ⟨⟨rfl, h1⟩, h2⟩ := h; rw [eqAVs_eq _ _ h1, eqAVs_eq _ _ h2]
    · simp at h; obtain ⟨rfl, h⟩ := h; rw [eqAV_eq _ _ h]
theorem eqAVs_eq : ∀ a b : List AV, eqAV.eqAVs a b = true → a = b
  | [], [], _ => rfl
  | [], _ :: _, h => by simp [eqAV.eqAVs] at h
  | _ :: _, [], h => by simp [eqAV.eqAVs] at h
  | x :: xs, y :: ys, h => by
    simp only [eqAV.eqAVs] at h
    cases hx : eqAV x y with
    | false => rw [hx] at h; cases h
    | true => rw [hx] at h; rw [eqAV_eq x y hx, eqAVs_eq xs ys h]
end

theorem sameAt_spec {base : Nat} {o : Op} {vs : List AV} {v : AV} {hs : List H} {rs : List RR} {req : List Nat} : ∀ {ks : List Nat}, sameAt E base o vs v hs rs req ks = true → ∀ k ∈ ks,
    ∃ h hm, hs[k]? = some h ∧ mergeF base rs h req = some hm ∧ lightA E o vs hm = some v
  | [], _, k, hk => by cases hk
  | k₀ :: ks, e, k, hk => by
    simp only [sameAt] at e
    split at e
    · cases e
    · rename_i h hn
      obtain ⟨hm, f1, e⟩ := mergeL_eq e
      split at e
      · cases e
      · rename_i u hl
        cases hq : eqAV u v with
        | false => rw [hq] at e; cases e
        | true =>
          rw [hq] at e; simp only [cond_true] at e
          have := eqAV_eq _ _ hq; subst this
          rcases List.mem_cons.1 hk with rfl | hk
          · exact ⟨h, hm, by rw [← nth_eq]; exact hn, f1, hl⟩
          · exact sameAt_spec e k hk
theorem cond_inv {a b : Bool} (h : cond a b false = true) : a = true ∧ b = true := by
  cases a with
  | false => cases h
  | true => exact ⟨rfl, h⟩
theorem sameAll_spec {base : Nat} {hs : List H} {rs : List RR} : ∀ {os : List Oper} {ps : List PE} {rs' : List RR}, sameAll E base hs rs os ps rs' = true →
    ∀ (j : Nat) (o : Oper) (ks req : List Nat) (rr : RR) (vs : List AV), os[j]? = some o → ps[j]? = some (.light ks req) → rs'[j]? = some rr → rr.vs = some vs → sameAt E base o.op vs rr.v hs rs req ks = true
  | [], [], [], _, j, o, ks, req, rr, vs, h, _, _, _ => by simp at h
  | o₀ :: os, p₀ :: ps, r₀ :: rs', e, j, o, ks, req, rr, vs, h1, h2, h3, h4 => by
    simp only [sameAll] at e
    obtain ⟨f1, f2⟩ := cond_inv e
    cases j with
    | zero =>
      simp at h1 h2 h3; subst h1 h2 h3
      simp only [h4] at f1
      exact f1
    | succ j =>
      simp at h1 h2 h3
      exact sameAll_spec f2 j o ks req rr vs h1 h2 h3 h4
  | [], _ :: _, _, e, _, _, _, _, _, _, _, _, _, _ => by simp [sameAll] at e
  | [], [], _ :: _, e, _, _, _, _, _, _, _, _, _, _ => by simp [sameAll] at e
  | _ :: _, [], _, e, _, _, _, _, _, _, _, _, _, _ => by simp [sameAll] at e
  | _ :: _, _ :: _, [], e, _, _, _, _, _, _, _, _, _, _ => by simp [sameAll] at e

end
end Go.Ev
/- The evaluator's soundness: regions that draw their order: any order comes to the same. -/
set_option linter.unusedSimpArgs false
set_option linter.unusedVariables false
namespace Go.Ev

/-! what is ahead of what -/
def maskOf (o : Oper) (acc : List Nat) : Nat := (directs o).foldl (fun s d => s ||| 2 ^ d ||| (acc.getD d 0)) 0
theorem masks_spec : ∀ (os : List Oper) (acc : List Nat), ∃ ext, masks os acc = acc ++ ext ∧ ext.length = os.length ∧ ∀ j o, os[j]? = some o → ext[j]? = some (maskOf o (acc ++ ext.take j))
  | [], acc => ⟨[], by simp [masks], rfl, by intro j o h; simp at h⟩
  | o :: os, acc => by
    obtain ⟨ext, h1, h2, h3⟩ := masks_spec os (acc ++ [maskOf o acc])
    refine ⟨maskOf o acc :: ext, ?_, by simp [h2], fun j o' hj => ?_⟩
    · simp only [masks, snoc_eq]
      have := h1
      simp only [maskOf] at this ⊢
      rw [this]; simp
    · cases j with
      | zero => simp at hj; subst hj; simp
      | succ j =>
        simp at hj
        have := h3 j o' hj
        simpa using this
theorem foldl_bit (acc : List Nat) (i : Nat) : ∀ (l : List Nat) (s : Nat), (l.foldl (fun s d => s ||| 2 ^ d ||| (acc.getD d 0)) s).testBit i = (s.testBit i || l.any fun d => d == i || (acc.getD d 0).testBit i)
  | [], s => by simp
  | d :: l, s => by
    rw [List.foldl_cons, foldl_bit acc i l]
    simp only [Nat.testBit_or, Nat.testBit_two_pow, List.any_cons, Bool.or_assoc]
    congr 1
theorem bef_iff {ops : Array Oper} {j : Nat} {o : Oper} (ho : ops[j]? = some o) (hd : ∀ d ∈ directs o, d < j) (i : Nat) :
    bef (masks ops.toList []) i j = true ↔ ∃ d ∈ directs o, d = i ∨ bef (masks ops.toList []) i d = true := by
  obtain ⟨ext, h1, h2, h3⟩ := masks_spec ops.toList []
  have hj := h3 j o (by rw [Array.getElem?_toList]; exact ho)
  rw [h1]
  simp only [List.nil_append] at hj ⊢
  unfold bef
  have e : ext.getD j 0 = maskOf o (ext.take j) := by simp [List.getD_eq_getElem?_getD, hj]
  rw [e, maskOf, foldl_bit]
  simp only [Nat.zero_testBit, Bool.false_or, List.any_eq_true, Bool.or_eq_true, beq_iff_eq]
  constructor
  · rintro ⟨d, hd1, q⟩
    refine ⟨d, hd1, ?_⟩
    rcases q with q | q
    · exact .inl q
    · right
      rw [List.getD_eq_getElem?_getD, List.getElem?_take_of_lt (hd d hd1), ← List.getD_eq_getElem?_getD] at q
      exact q
  · rintro ⟨d, hd1, q⟩
    refine ⟨d, hd1, ?_⟩
    rcases q with q | q
    · exact .inl q
    · right
      rw [List.getD_eq_getElem?_getD, List.getElem?_take_of_lt (hd d hd1), ← List.getD_eq_getElem?_getD]
      exact q

/-- what a plan owes, told -/
structure PF (ops : Array Oper) (ps : List PE) (fin : List Nat) : Prop where
  len : ps.length = ops.size
  dir : ∀ j o, ops[j]? = some o → ∀ d ∈ directs o, d < j
  effs : ∀ i j, i < j → j < ops.size → effAt ps i = true → effAt ps j = true → bef (masks ops.toList []) i j = true
  slots : ∀ (i j : Nat) (a b : Oper) d, i ≠ j → ops[i]? = some a → ops[j]? = some b → a.dst = some d → b.dst ≠ some d ∧ (d ∈ b.looksAt ops → bef (masks ops.toList []) i j = true ∨ bef (masks ops.toList []) j i = true)
  light : ∀ (j : Nat) ks req, ps[j]? = some (.light ks req) →
    (∀ k, k ≤ ops.size → k ∈ ks ∨ k < (List.range ops.size).countP (fun i => effAt ps i && bef (masks ops.toList []) i j) ∨ (List.range ops.size).countP (fun i => effAt ps i && !bef (masks ops.toList []) j i) < k) ∧
    ∀ x ∈ req, bef (masks ops.toList []) x j = true ∧ ∀ e, e < ops.size → effAt ps e = true → bef (masks ops.toList []) x e = true → bef (masks ops.toList []) j e = true
  eff : ∀ (j : Nat) req, ps[j]? = some (.eff req) → ∀ x ∈ req, bef (masks ops.toList []) x j = true ∧ ∀ e, e < j → effAt ps e = true → bef (masks ops.toList []) x e = false
  fin : ∀ x ∈ fin, allocAt ps x = true ∧ ∀ e, e < ops.size → effAt ps e = true → bef (masks ops.toList []) x e = false

theorem allocAt_lt {ps : List PE} {x : Nat} (h : allocAt ps x = true) : x < ps.length := by
  unfold allocAt at h
  split at h
  · rename_i p hp; exact (List.getElem?_eq_some_iff.1 hp).1
  · cases h

theorem pf_of {ops : Array Oper} {pl : Plan} (h : planOk ops pl = true) : PF ops pl.ps pl.fin := by
  unfold planOk at h
  simp only [Bool.and_eq_true, decide_eq_true_eq, List.all_eq_true, List.mem_range, Bool.or_eq_true, Bool.not_eq_true'] at h
  obtain ⟨h1, h2, h3, h4, h5, h6, h7⟩ := h
  have at' : ∀ {j : Nat} {p : PE}, pl.ps[j]? = some p → j < ops.size := fun hp => by
    have := (List.getElem?_eq_some_iff.1 hp).1; omega
  refine ⟨h1, fun j o ho d hd => ?_, fun i j hi hj hei hej => ?_, fun i j a b d hne ha hb hd => ?_, fun j ks req hp => ?_, fun j req hp x hx => ?_, fun x hx => ?_⟩
  · have := h3 j (Array.getElem?_eq_some_iff.1 ho).1
    simp only [ho, List.all_eq_true] at this
    exact blt_true.1 (this d hd)
  · have := h4 j hj i hi
    rcases this with (q | q) | q
    · rw [hei] at q; cases q
    · rw [hej] at q; cases q
    · exact q
  · have := h5 j (Array.getElem?_eq_some_iff.1 hb).1 i (Array.getElem?_eq_some_iff.1 ha).1
    rcases this with q | q
    · exact absurd q hne
    · simp only [slotsOk, ha, hb, hd, Bool.and_eq_true, Bool.or_eq_true, Bool.not_eq_true'] at q
      refine ⟨by simpa using q.1, fun hm => ?_⟩
      rcases q.2 with (q2 | q2) | q2
      · have : (b.looksAt ops).contains d = true := by simpa using hm
        rw [this] at q2; cases q2
      · exact .inl q2
      · exact .inr q2
  · have := h6 j (at' hp)
    simp only [planOp, hp, Bool.and_eq_true, List.all_eq_true, List.mem_range, Bool.or_eq_true, Bool.not_eq_true'] at this
    obtain ⟨a1, a2⟩ := this
    refine ⟨fun k hk => ?_, fun x hx => ?_⟩
    · rcases a1 k (by omega) with (q | q) | q
      · exact .inl (by simpa using q)
      · exact .inr (.inl (blt_true.1 q))
      · exact .inr (.inr (blt_true.1 q))
    · obtain ⟨⟨q1, q2⟩, q3⟩ := a2 x hx
      refine ⟨q2, fun e he hee hb => ?_⟩
      rcases q3 e he with (q | q) | q
      · rw [hee] at q; cases q
      · rw [hb] at q; cases q
      · exact q
  · have := h6 j (at' hp)
    simp only [planOp, hp, Bool.and_eq_true, List.all_eq_true, List.mem_range, Bool.or_eq_true, Bool.not_eq_true'] at this
    obtain ⟨⟨q1, q2⟩, q3⟩ := this x hx
    refine ⟨q2, fun e he hee => ?_⟩
    rcases q3 e he with q | q
    · rw [hee] at q; cases q
    · exact q
  · obtain ⟨q1, q2⟩ := h7 x hx
    refine ⟨q1, fun e he hee => ?_⟩
    rcases q2 e he with q | q
    · rw [hee] at q; cases q
    · exact q

/-! counting -/
theorem countP_one {f g : Nat → Bool} {j : Nat} (hne : ∀ i, i ≠ j → g i = f i) (hj : f j = false) : ∀ n, (List.range n).countP g = (List.range n).countP f + if j < n ∧ g j = true then 1 else 0
  | 0 => by simp
  | n + 1 => by
    rw [List.range_succ, List.countP_append, List.countP_append, countP_one hne hj n]
    simp only [List.countP_cons, List.countP_nil, Nat.zero_add]
    by_cases e : n = j
    · subst e
      rw [hj]
      simp
    · rw [hne n e]
      by_cases hlt : j < n
      · have : j < n + 1 := by omega
        by_cases hg : g j = true
        · simp [hlt, this, hg]; omega
        · simp [hg]
      · have : ¬ j < n + 1 := by omega
        simp [hlt, this]
theorem countP_cut {f g : Nat → Bool} {j : Nat} (h1 : ∀ i, i < j → f i = g i) (h2 : ∀ i, j ≤ i → f i = false) : ∀ n, j ≤ n → (List.range n).countP f = (List.range j).countP g
  | 0, h => by have : j = 0 := by omega
               subst this; rfl
  | n + 1, h => by
    by_cases e : j = n + 1
    · subst e
      refine List.countP_congr fun i hi => ?_
      rw [h1 i (by simpa using hi)]
    · rw [List.range_succ, List.countP_append, countP_cut h1 h2 n (by omega)]
      simp [h2 n (by omega)]

theorem wanted_same {ops : Array Oper} {o : Oper} {a b : T AV} (h : ∀ t ∈ o.looksAt ops, a.get t = b.get t) : wantedA ops a o = wantedA ops b o := by
  unfold wantedA
  cases hg : o.guard with
  | none => rfl
  | some p =>
    obtain ⟨j, want⟩ := p
    simp only
    cases hn : nth ops.toList j with
    | none => rfl
    | some q =>
      simp only
      cases hd : q.dst with
      | none => rfl
      | some d =>
        simp only
        have : a.get d = b.get d := h d (by
          unfold Oper.looksAt
          refine List.mem_append_right _ ?_
          rw [nth_eq, Array.getElem?_toList] at hn
          simp [hg, hn, hd])
        rw [this]
theorem aevL_same {a b : T AV} : ∀ {l : List Operand}, (∀ t, Operand.tmp t ∈ l → a.get t = b.get t) → aevL a l = aevL b l
  | [], _ => rfl
  | x :: l, h => by
    simp only [aevL]
    rw [aevL_same (l := l) fun t ht => h t (by simp [ht])]
    have : aev a x = aev b x := by
      cases x with
      | tmp t => simp only [aev]; rw [h t (by simp)]
      | _ => rfl
    rw [this]
theorem args_same {ops : Array Oper} {o : Oper} {a b : T AV} (h : ∀ t ∈ o.looksAt ops, a.get t = b.get t) : aevL a o.op.operands.toList = aevL b o.op.operands.toList :=
  aevL_same fun t ht => h t (by
    unfold Oper.looksAt
    exact List.mem_append_left _ (List.mem_filterMap.2 ⟨_, ht, rfl⟩))

end Go.Ev
/- The evaluator's soundness: regions that draw their order: one operation, whichever is next. -/
set_option linter.unusedSimpArgs false
set_option linter.unusedVariables false
namespace Go.Ev

/-- new blocks that are not yet in the evaluator's heap -/
def Un (ps : List PE) (rs : List RR) (L : Array Bool) (x : Nat) (o : AObj) : Prop :=
  L.getD x false = true ∧ (∃ vs v, rs[x]? = some ⟨vs, v, some o⟩) ∧ ∀ e req, ps[e]? = some (.eff req) → L.getD e false = true → x ∉ req

structure Inv (ops : Array Oper) (ps : List PE) (rs : List RR) (hs : List H) (nt : Nat) (tm0 : T AV) (σ0 : Sg) (h0 : H) (w0 : World) (L : Array Bool) (h : H) (σ : Sg) (w : World) (tm : T AV) (tmps : Array Value) : Prop where
  size : L.size = ops.size
  dc : ∀ j, L.getD j false = true → ∀ i, bef (masks ops.toList []) i j = true → L.getD i false = true
  hk : hs[(List.range ops.size).countP fun i => effAt ps i && L.getD i false]? = some h
  rel : HRel σ h w.heap
  ext : Ext σ0 h0 w0 σ h w
  nx : h0.next + ops.size ≤ h.next
  al : ∀ x o, Un ps rs L x o → ∃ b c obj, σ (h0.next + x) = some (b, c) ∧ w0.heap.size ≤ b ∧ w.heap[b]? = some obj ∧ ORel σ c o obj ∧ ∀ i o' c', h.t.get i = some o' → σ i = some (b, c') → False
  inj : ∀ x y o o' b c c', Un ps rs L x o → Un ps rs L y o' → σ (h0.next + x) = some (b, c) → σ (h0.next + y) = some (b, c') → x = y
  nd : ∀ x, x < ops.size → L.getD x false = false → σ (h0.next + x) = none
  tmk : TmOk ops rs tm0 (fun i => L.getD i false = true) tm
  tr : TRel σ nt tm tmps

section
variable {P : Program} {E : Env} {ops : Array Oper} {ps : List PE} {rs : List RR} {hs : List H} {nt : Nat} {tm0 : T AV} {σ0 : Sg} {h0 : H} {w0 : World} {L : Array Bool} {h : H} {σ : Sg} {w : World} {tm : T AV} {tmps : Array Value}

theorem Inv.merge (inv : Inv ops ps rs hs nt tm0 σ0 h0 w0 L h σ w tm tmps) {req : List Nat} {hm : H} (hreq : ∀ x ∈ req, ∀ o vs v, rs[x]? = some ⟨vs, v, some o⟩ → Un ps rs L x o) (hme : mergeF h0.next rs h req = some hm) :
    HRel σ hm w.heap ∧ Ext σ0 h0 w0 σ hm w ∧ hm.next = h.next ∧
    ∀ i o b c, hm.t.get i = some o → σ i = some (b, c) → (∃ i o c, h.t.get i = some o ∧ σ i = some (b, c)) ∨ ∃ x ∈ req, ∃ o c, Un ps rs L x o ∧ σ (h0.next + x) = some (b, c) := by
  obtain ⟨h1, h2⟩ := mergeF_spec hme
  have old : ∀ i o, hm.t.get i = some o → h.t.get i = some o ∨ ∃ x ∈ req, i = h0.next + x ∧ Un ps rs L x o := fun i o hi => by
    rcases h2 i o hi with q | ⟨x, hx, e, vs, v, q⟩
    · exact .inl q
    · exact .inr ⟨x, hx, e, hreq x hx _ _ _ q⟩
  have img : ∀ i o b c, hm.t.get i = some o → σ i = some (b, c) → (∃ i o c, h.t.get i = some o ∧ σ i = some (b, c)) ∨ ∃ x ∈ req, ∃ o c, Un ps rs L x o ∧ σ (h0.next + x) = some (b, c) := fun i o b c hi hsi => by
    rcases old i o hi with q | ⟨x, hx, rfl, q⟩
    · exact .inl ⟨i, o, c, q, hsi⟩
    · exact .inr ⟨x, hx, o, c, q, hsi⟩
  refine ⟨⟨fun i hi => inv.rel.fresh i (by omega), fun i o hi => ?_, fun i j o o' b c c' hi hj hsi hsj => ?_⟩, ⟨inv.ext.os, inv.ext.tape, inv.ext.output, inv.ext.size, by rw [h1]; exact inv.ext.next, inv.ext.old, inv.ext.keeps, fun i o b c hi hsi hb => ?_⟩, h1, img⟩
  · rcases old i o hi with q | ⟨x, hx, rfl, q⟩
    · exact inv.rel.objs i o q
    · obtain ⟨b, c, obj, a1, a2, a3, a4, a5⟩ := inv.al x o q
      exact ⟨b, c, obj, a1, a3, a4⟩
  · rcases old i o hi with q | ⟨x, hx, rfl, q⟩ <;> rcases old j o' hj with q' | ⟨y, hy, rfl, q'⟩
    · exact inv.rel.inj i j o o' b c c' q q' hsi hsj
    · obtain ⟨b', c₁, obj, a1, a2, a3, a4, a5⟩ := inv.al y o' q'
      rw [a1] at hsj; cases hsj
      exact (a5 i o _ q hsi).elim
    · obtain ⟨b', c₁, obj, a1, a2, a3, a4, a5⟩ := inv.al x o q
      rw [a1] at hsi; cases hsi
      exact (a5 j o' _ q' hsj).elim
    · rw [inv.inj x y o o' b c c' q q' hsi hsj]
  · rcases img i o b c hi hsi with ⟨i', o', c', q1, q2⟩ | ⟨x, hx, o', c', q1, q2⟩
    · exact inv.ext.img i' o' b c' q1 q2 hb
    · obtain ⟨b', c₁, obj, a1, a2, a3, a4, a5⟩ := inv.al x o' q1
      rw [a1] at q2; cases q2
      omega

theorem getD_set {L : Array Bool} {j : Nat} (hj : j < L.size) (i : Nat) : (L.setIfInBounds j true).getD i false = if i = j then true else L.getD i false := by
  by_cases e : i = j
  · subst e; simp [hj]
  · rw [if_neg e]
    simp [Array.getElem?_setIfInBounds_ne (Ne.symm e)]
theorem mem_directs {o : Oper} {d : Nat} : d ∈ directs o ↔ ∃ e ∈ o.after, Region.binds .any e = true ∧ e.on = d := by
  unfold directs
  simp only [List.mem_filterMap, Array.mem_toList_iff]
  constructor
  · rintro ⟨e, he, q⟩
    split at q
    · rename_i hb; cases q; exact ⟨e, he, hb, rfl⟩
    · cases q
  · rintro ⟨e, he, hb, rfl⟩
    exact ⟨e, he, by rw [if_pos hb]⟩

theorem stepA_noDefer {rc : AF → H → Option (AV × H)} {op : Op} {vs : List AV} {r : AV × H} (hs : stepA E rc (effA E op vs h) = some r) (c : Call) : op ≠ .defer c := by
  intro q
  cases he : effA E op vs h with
  | none => rw [he] at hs; cases hs
  | some p =>
    obtain ⟨n, h₀⟩ := p
    obtain ⟨f, args, rfl⟩ := effA_noDefer q he
    rw [he] at hs; cases hs

set_option maxHeartbeats 1000000 in
theorem draw_step (hE : EnvOk P E) {rc : AF → H → Option (AV × H)} (hrc : RC P rc) {fin : List Nat} (pf : PF ops ps fin)
    (facts : ∀ i, i < ops.size → HasFact E rc ops ps nt h0.next tm0 hs rs i)
    (same : ∀ (j : Nat) (o : Oper) (ks req : List Nat) (rr : RR) (vs : List AV), ops[j]? = some o → ps[j]? = some (.light ks req) → rs[j]? = some rr → rr.vs = some vs → sameAt E h0.next o.op vs rr.v hs rs req ks = true)
    (inv : Inv ops ps rs hs nt tm0 σ0 h0 w0 L h σ w tm tmps) {j : Nat} (hj : j ∈ Region.ready .any ops L)
    (f : FuncId) (k : List Item) (d : List Deferred) (kd : CallKind) (ro : Option Nat) (rest : List Nat) :
    ∀ cs, ∃ h' σ' w' tm' tmps', Inv ops ps rs hs nt tm0 σ0 h0 w0 (L.setIfInBounds j true) h' σ' w' tm' tmps' ∧
      Steps P (lone ⟨f, tmps, .inRegion ops (j :: rest) :: k, d, .run, kd, ro⟩ cs w) (lone ⟨f, tmps', .inRegion ops rest :: k, d, .run, kd, ro⟩ cs w') := by
  intro cs
  obtain ⟨hun, o, ho, haft⟩ := mem_ready.1 hj
  have hjn : j < ops.size := (Array.getElem?_eq_some_iff.1 ho).1
  have hjL : j < L.size := by rw [inv.size]; exact hjn
  have hDj : L.getD j false = false := by
    simp [hjL] at hun ⊢; exact hun
  obtain ⟨o', p, rr, tmj, hj0, F⟩ := facts j hjn
  have : o' = o := by have := F.fo; rw [ho] at this; cases this; rfl
  subst this
  -- all that is ahead is done
  have hpre : ∀ i, bef (masks ops.toList []) i j = true → L.getD i false = true := fun i hi => by
    obtain ⟨d', hd1, hd2⟩ := (bef_iff ho (pf.dir j _ ho) i).1 hi
    obtain ⟨e, he, hb, rfl⟩ := mem_directs.1 hd1
    have := haft e he hb
    rcases hd2 with rfl | q
    · exact this
    · exact inv.dc _ this i q
  have hpost : ∀ i, L.getD i false = true → bef (masks ops.toList []) j i = false := fun i hi => by
    cases hb : bef (masks ops.toList []) j i with
    | false => rfl
    | true => have := inv.dc i hi j hb; rw [hDj] at this; cases this
  have hblt : ∀ (n i : Nat), i < ops.size → ∀ m, bef (masks ops.toList []) m i = true → i < n → m < i := by
    intro n
    induction n with
    | zero => intro i _ m _ q; omega
    | succ n ih =>
      intro i hi m hm hn
      obtain ⟨d', hd1, hd2⟩ := (bef_iff (Array.getElem?_eq_getElem hi) (pf.dir i _ (Array.getElem?_eq_getElem hi)) m).1 hm
      have hlt := pf.dir i _ (Array.getElem?_eq_getElem hi) d' hd1
      rcases hd2 with rfl | q
      · exact hlt
      · have := ih d' (by omega) m q (by omega); omega
  -- the slots that it looks at are as in the text's order
  have hagree : ∀ t ∈ o'.looksAt ops, tm.get t = tmj.get t := fun t ht => by
    by_cases hex : ∃ i a, ops[i]? = some a ∧ a.dst = some t ∧ i ≠ j
    · obtain ⟨i, a, ha, hd, hne⟩ := hex
      have hin : i < ops.size := (Array.getElem?_eq_some_iff.1 ha).1
      rcases (pf.slots i j a o' t hne ha ho hd).2 ht with q | q
      · have hD := hpre i q
        have hlt := hblt (j + 1) j hjn i q (by omega)
        obtain ⟨r1, g1, g2⟩ := inv.tmk.one i hD
        obtain ⟨r2, g3, g4⟩ := F.ftm.one i hlt
        rw [g1] at g3; cases g3
        rw [g2 a t ha hd, g4 a t ha hd]
      · have hlt := hblt (i + 1) i hin j q (by omega)
        have hnD : L.getD i false = false := by
          cases hb : L.getD i false with
          | false => rfl
          | true => have := hpost i hb; rw [q] at this; cases this
        rw [inv.tmk.two t fun i' b hi' hb hbd => ?_, F.ftm.two t fun i' b hi' hb hbd => ?_]
        · by_cases e : i' = i
          · subst e; omega
          · exact (pf.slots i' i b a t e hb ha hbd).1 hd
        · by_cases e : i' = i
          · subst e; rw [hnD] at hi'; cases hi'
          · exact (pf.slots i' i b a t e hb ha hbd).1 hd
    · rw [inv.tmk.two t fun i' b hi' hb hbd => ?_, F.ftm.two t fun i' b hi' hb hbd => ?_]
      · exact hex ⟨i', b, hb, hbd, by omega⟩
      · exact hex ⟨i', b, hb, hbd, fun q => by subst q; rw [hDj] at hi'; cases hi'⟩
  have hw := wanted_same (ops := ops) (o := o') hagree
  have hv := args_same (ops := ops) (o := o') hagree
  have hwm := wanted_sound inv.tr ops o'
  -- what is done behind it
  have hL' := getD_set hjL
  have hdc' : ∀ i, (L.setIfInBounds j true).getD i false = true → ∀ m, bef (masks ops.toList []) m i = true → (L.setIfInBounds j true).getD m false = true := fun i hi m hm => by
    rw [hL'] at hi ⊢
    split
    · rfl
    · split at hi
      · rename_i e; subst e; exact hpre m hm
      · exact inv.dc i hi m hm
  have hcnt : (List.range ops.size).countP (fun i => effAt ps i && (L.setIfInBounds j true).getD i false) = (List.range ops.size).countP (fun i => effAt ps i && L.getD i false) + if isEff p = true then 1 else 0 := by
    rw [countP_one (f := fun i => effAt ps i && L.getD i false) (j := j) (fun i hi => by rw [hL', if_neg hi]) (by simp [hDj])]
    congr 1
    rw [hL', if_pos rfl, effAt_of F.fp]
    simp [hjn]
  have htm' : ∀ tm', (∀ t, tm'.get t = if o'.dst = some t then some rr.v else tm.get t) → TmOk ops rs tm0 (fun i => (L.setIfInBounds j true).getD i false = true) tm' := fun tm' hg => by
    refine ⟨fun i hi => ?_, fun t ht => ?_⟩
    · rw [hL'] at hi
      split at hi
      · rename_i e; subst e
        refine ⟨rr, F.frr, fun a d' ha hd => ?_⟩
        rw [ho] at ha; cases ha
        rw [hg, if_pos hd]
      · rename_i e
        obtain ⟨r1, g1, g2⟩ := inv.tmk.one i hi
        refine ⟨r1, g1, fun a d' ha hd => ?_⟩
        rw [hg, if_neg (pf.slots i j a o' d' e ha ho hd).1]
        exact g2 a d' ha hd
    · rw [hg, if_neg (ht j o' (by rw [hL', if_pos rfl]) ho)]
      exact inv.tmk.two t fun i a hi ha => ht i a (by rw [hL']; split <;> first | rfl | exact hi) ha
  obtain ⟨tm', htg, htr⟩ : ∃ tm', (∀ t, tm'.get t = if o'.dst = some t then some rr.v else tm.get t) ∧ ∀ σ tmps x, TRel σ nt tm tmps → conc σ rr.v = some x → TRel σ nt tm' (putT o'.dst x tmps) := by
    have hex : ∃ y, putDst nt o'.dst rr.v tm some = some y := by
      cases hd : o'.dst with
      | none => exact ⟨tm, rfl⟩
      | some d' =>
        have := blt_true.2 (F.dst d' hd)
        simp only [putDst, this, cond_true, setK_set]
        exact ⟨_, rfl⟩
    obtain ⟨y, hy⟩ := hex
    obtain ⟨t1, q1, q2⟩ := putDst_eq hy
    obtain ⟨_, t2, q3, q4⟩ := putDst_get hy
    cases q1; cases q3
    exact ⟨_, q4, q2⟩
  -- the effects that are done, where it is one
  have hrank : isEff p = true → (List.range ops.size).countP (fun i => effAt ps i && L.getD i false) = rank ps j := fun hp => by
    refine countP_cut (fun i hi => ?_) (fun i hi => ?_) ops.size (by omega)
    · cases he : effAt ps i with
      | false => simp
      | true => simp only [Bool.true_and]; exact hpre i (pf.effs i j hi hjn he (by rw [effAt_of F.fp]; exact hp))
    · cases he : effAt ps i with
      | false => simp
      | true =>
        simp only [Bool.true_and]
        by_cases e : i = j
        · subst e; exact hDj
        · cases hb : L.getD i false with
          | false => rfl
          | true =>
            have hin : i < ops.size := by
              rcases Nat.lt_or_ge i ops.size with q | q
              · exact q
              · rw [← inv.size] at q; simp [Array.getElem?_eq_none q] at hb
            have := hpost i hb
            rw [pf.effs j i (by omega) hin (by rw [effAt_of F.fp]; exact hp) he] at this
            cases this
  have hreqE : ∀ req, p = .eff req → ∀ x ∈ req, ∀ o vs v, rs[x]? = some ⟨vs, v, some o⟩ → Un ps rs L x o := fun req hp x hx o vs v hr => by
    subst hp
    obtain ⟨q1, q2⟩ := pf.eff j req F.fp x hx
    refine ⟨hpre x q1, ⟨vs, v, hr⟩, fun e req' he hD hx' => ?_⟩
    obtain ⟨q3, q4⟩ := pf.eff e req' he x hx'
    have hee : effAt ps e = true := by rw [effAt_of he]; rfl
    have hen : e < ops.size := by have := (List.getElem?_eq_some_iff.1 he).1; have := pf.len; omega
    rcases Nat.lt_trichotomy e j with hlt | rfl | hgt
    · have := q2 e hlt hee; rw [q3] at this; cases this
    · rw [hDj] at hD; cases hD
    · have := hpost e hD
      rw [pf.effs j e hgt hen (by rw [effAt_of F.fp]; rfl) hee] at this; cases this
  -- new blocks behind it, where it makes none
  have hUn : rr.ob = none → ∀ x o, Un ps rs (L.setIfInBounds j true) x o → Un ps rs L x o ∧ ∀ req, p = .eff req → x ∉ req := fun hob x o hx => by
    obtain ⟨q1, q2, q3⟩ := hx
    rw [hL'] at q1
    by_cases e : x = j
    · subst e
      obtain ⟨vs, v, q2⟩ := q2
      rw [F.frr] at q2; cases q2; cases hob
    · rw [if_neg e] at q1
      refine ⟨⟨q1, q2, fun e' req he hD => q3 e' req he (by rw [hL']; split <;> first | rfl | exact hD)⟩, fun req hp => ?_⟩
      subst hp
      exact q3 j req F.fp (by rw [hL', if_pos rfl])
  have hnd' : ∀ x, x < ops.size → (L.setIfInBounds j true).getD x false = false → x ≠ j ∧ L.getD x false = false := fun x hx q => by
    rw [hL'] at q
    split at q
    · cases q
    · rename_i e; exact ⟨e, q⟩
  -- an effect's end: memory h', behind hm
  have effEnd : ∀ {req : List Nat} {hm h' : H} {σ' : Sg} {w' : World} {tmps' : Array Value}, p = .eff req → rr.ob = none → mergeF h0.next rs hj0 req = some hm → hs[rank ps j + 1]? = some h' →
      HRel σ' h' w'.heap → Ext σ hm w σ' h' w' → TRel σ' nt tm' tmps' → Inv ops ps rs hs nt tm0 σ0 h0 w0 (L.setIfInBounds j true) h' σ' w' tm' tmps' := by
    intro req hm h' σ' w' tmps' hp hob hme hh' hrel hext htr'
    have hpe : isEff p = true := by rw [hp]; rfl
    have hr := hrank hpe
    have hjh : hj0 = h := by
      have h1 := F.fh
      have h2 := inv.hk
      rw [hr, h1] at h2; cases h2; rfl
    subst hjh
    obtain ⟨m1, m2, m3, m4⟩ := inv.merge (hreqE req hp) hme
    have hsub : Sub σ σ' := hext.sub m1
    have hbne : ∀ x o, Un ps rs (L.setIfInBounds j true) x o → ∃ b c obj, σ (h0.next + x) = some (b, c) ∧ σ' (h0.next + x) = some (b, c) ∧ w0.heap.size ≤ b ∧ w.heap[b]? = some obj ∧ ORel σ c o obj ∧ ∀ i o' c', hm.t.get i = some o' → σ i = some (b, c') → False := fun x o hx => by
      obtain ⟨u1, u2⟩ := hUn hob x o hx
      obtain ⟨b, c, obj, a1, a2, a3, a4, a5⟩ := inv.al x o u1
      refine ⟨b, c, obj, a1, hsub _ _ a1, a2, a3, a4, fun i o' c' hi hsi => ?_⟩
      rcases m4 i o' b c' hi hsi with ⟨i', o'', c'', g1, g2⟩ | ⟨y, hy, o'', c'', g1, g2⟩
      · exact a5 i' o'' c'' g1 g2
      · have := inv.inj x y o o'' b c c'' u1 g1 a1 g2
        subst this
        exact u2 req hp hy
    refine ⟨by simp [inv.size], hdc', ?_, hrel, m2.trans hext, by have := hext.next; have := inv.nx; omega, fun x o hx => ?_, fun x y o o₂ b c c' hx hy hsx hsy => ?_, fun x hx hq => ?_, htm' tm' htg, htr'⟩
    · rw [hcnt, if_pos hpe, hr]; exact hh'
    · obtain ⟨b, c, obj, a0, a1, a2, a3, a4, a5⟩ := hbne x o hx
      have hlt : b < w.heap.size := (Array.getElem?_eq_some_iff.1 a3).1
      refine ⟨b, c, obj, a1, a2, ?_, a4.mono hsub, fun i o' c' hi hsi => ?_⟩
      · rw [hext.keeps b hlt a5]; exact a3
      · obtain ⟨i', o'', c'', g1, g2⟩ := hext.img i o' b c' hi hsi hlt
        exact a5 i' o'' c'' g1 g2
    · obtain ⟨b₁, c₁, _, a0, a1, _⟩ := hbne x o hx
      obtain ⟨b₂, c₂, _, a0', a1', _⟩ := hbne y o₂ hy
      rw [hsx] at a1; cases a1
      rw [hsy] at a1'; cases a1'
      exact inv.inj x y o o₂ _ _ _ (hUn hob x o hx).1 (hUn hob y o₂ hy).1 a0 a0'
    · obtain ⟨g1, g2⟩ := hnd' x hx hq
      rw [hext.old _ (by have := inv.nx; omega)]
      exact inv.nd x hx g2
  -- an operation that leaves memory alone
  have sameEnd : ∀ {tmps' : Array Value}, isEff p = false → rr.ob = none → TRel σ nt tm' tmps' → Inv ops ps rs hs nt tm0 σ0 h0 w0 (L.setIfInBounds j true) h σ w tm' tmps' := by
    intro tmps' hpe hob htr'
    refine ⟨by simp [inv.size], hdc', ?_, inv.rel, inv.ext, inv.nx, fun x o hx => inv.al x o (hUn hob x o hx).1, fun x y o o₂ b c c' hx hy hsx hsy => inv.inj x y o o₂ b c c' (hUn hob x o hx).1 (hUn hob y o₂ hy).1 hsx hsy,
      fun x hx hq => inv.nd x hx (hnd' x hx hq).2, htm' tm' htg, htr'⟩
    rw [hcnt, hpe]; exact inv.hk
  rcases F.came with ⟨c1, vs, c2, c3, c4⟩ | ⟨c1, c2, c3, c4, c5⟩
  · -- it is wanted
    rw [← hw] at c1
    rw [← hv] at c2
    have hcv := aevL_sound inv.tr c2
    have hws : Region.wanted o' (yielded ops tmps) = true := by rw [← hwm]; exact c1
    cases p with
    | eff req =>
      obtain ⟨hob, hm, h', q1, q2, q3⟩ := c4
      have hr := hrank rfl
      have hjh : hj0 = h := by
        have h1 := F.fh
        have h2 := inv.hk
        rw [hr, h1] at h2; cases h2; rfl
      subst hjh
      obtain ⟨m1, m2, m3, m4⟩ := inv.merge (hreqE req rfl) q1
      cases he : effA E o'.op vs hm with
      | none => rw [he] at q2; simp only [stepA] at q2; cases q2
      | some pp =>
        obtain ⟨n, h₀⟩ := pp
        have hnd := stepA_noDefer q2
        rw [he] at q2
        have hs' := eff_sound hE m1 hcv he
        obtain ⟨σ', w', x, a1, a2, a3, a4⟩ := apply_sound hE hrc m1 (f := f) (tm := tmps) (it := .inRegion ops (j :: rest)) (k := k) (d := d) (kd := kd) (ro := ro)
          (by intro _ _ _ _ q; cases q) (fun cs => stG_op ho hws (.inr hnd)) hs' q2 cs
        refine ⟨h', σ', w', tm', putT o'.dst x tmps, effEnd rfl hob q1 q3 a2 a3 (htr σ' tmps x (inv.tr.mono (a3.sub m1)) a1), ?_⟩
        have := a4
        rw [putK ho] at this; exact this
    | alloc =>
      obtain ⟨ob, mk, q1, q2⟩ := c4
      have hmk := F.made vs ob mk rfl c3 q1
      obtain ⟨x, w', obj, c, b1, b2, b3, b4, b5, b6⟩ := alloc_sound (w := w) hE hcv q1
      have hnone := inv.nd j hjn hDj
      have hsub : Sub σ (upd σ (h0.next + j) (w.heap.size, c)) := sub_upd _ hnone
      obtain ⟨e1, e2⟩ := b6 (upd σ (h0.next + j) (w.heap.size, c)) (h0.next + j) hsub (upd_self _ _ _)
      have hne : ∀ i o, h.t.get i = some o → i ≠ h0.next + j := fun i o hi q => by
        obtain ⟨b, c', x', g1, _⟩ := inv.rel.objs i o hi
        rw [q, hnone] at g1; cases g1
      have hlt : ∀ i o b c', h.t.get i = some o → σ i = some (b, c') → b < w.heap.size := fun i o b c' hi hsi => by
        obtain ⟨b', c'', x', g1, g2, _⟩ := inv.rel.objs i o hi
        rw [hsi] at g1; cases g1
        exact (Array.getElem?_eq_some_iff.1 g2).1
      have hheap : ∀ b, b < w.heap.size → w'.heap[b]? = w.heap[b]? := fun b hb => by
        rw [b5, Array.getElem?_push, if_neg (by omega)]
      have hnd : ∀ c, o'.op ≠ .defer c := fun c q => by rw [q] at q1; cases q1
      have hcase : ∀ x o, Un ps rs (L.setIfInBounds j true) x o → (x = j ∧ o = ob) ∨ (x ≠ j ∧ Un ps rs L x o) := fun x o hx => by
        obtain ⟨u1, u2, u3⟩ := hx
        by_cases e : x = j
        · subst e
          obtain ⟨vs', v', u2⟩ := u2
          rw [F.frr] at u2; cases u2; simp only at q2; cases q2
          exact .inl ⟨rfl, rfl⟩
        · rw [hL', if_neg e] at u1
          exact .inr ⟨e, u1, u2, fun e' req he hD => u3 e' req he (by rw [hL']; split <;> first | rfl | exact hD)⟩
      have hobj : ∀ x o, Un ps rs L x o → ∃ b c obj, σ (h0.next + x) = some (b, c) ∧ b < w.heap.size ∧ w0.heap.size ≤ b ∧ w.heap[b]? = some obj ∧ ORel σ c o obj ∧ ∀ i o' c', h.t.get i = some o' → σ i = some (b, c') → False := fun x o hx => by
        obtain ⟨b, c, obj, a1, a2, a3, a4, a5⟩ := inv.al x o hx
        exact ⟨b, c, obj, a1, (Array.getElem?_eq_some_iff.1 a3).1, a2, a3, a4, a5⟩
      refine ⟨h, upd σ (h0.next + j) (w.heap.size, c), w', tm', putT o'.dst x tmps, ⟨by simp [inv.size], hdc', ?_, ⟨fun i hi => ?_, fun i o hi => ?_, fun i i' o o₂ b c₁ c₂ hi hi' hsi hsi' => ?_⟩, ⟨b2.trans inv.ext.os, b3.trans inv.ext.tape, b4.trans inv.ext.output, ?_, inv.ext.next, fun i hi => ?_, fun b hb hn => ?_, fun i o b c₁ hi hsi hb => ?_⟩, inv.nx,
        fun x o hx => ?_, fun x y o o₂ b c₁ c₂ hx hy hsx hsy => ?_, fun x hx hq => ?_, htm' tm' htg, htr _ tmps x (inv.tr.mono hsub) (by rw [hmk]; exact e2)⟩, .one (step_lone_go ?_)⟩
      · rw [hcnt]; simpa [isEff] using inv.hk
      · rw [upd_ne σ _ (by have := inv.nx; omega)]; exact inv.rel.fresh i hi
      · obtain ⟨b, c', x', g1, g2, g3⟩ := inv.rel.objs i o hi
        refine ⟨b, c', x', by rw [upd_ne σ _ (hne i o hi)]; exact g1, ?_, g3.mono hsub⟩
        rw [hheap b (hlt i o b c' hi g1)]; exact g2
      · rw [upd_ne σ _ (hne i o hi)] at hsi
        rw [upd_ne σ _ (hne i' o₂ hi')] at hsi'
        exact inv.rel.inj i i' o o₂ b c₁ c₂ hi hi' hsi hsi'
      · rw [b5]; simp; have := inv.ext.size; omega
      · rw [upd_ne σ _ (by omega)]; exact inv.ext.old i hi
      · rw [hheap b (by have := inv.ext.size; omega)]; exact inv.ext.keeps b hb hn
      · rw [upd_ne σ _ (hne i o hi)] at hsi
        exact inv.ext.img i o b c₁ hi hsi hb
      · rcases hcase x o hx with ⟨rfl, rfl⟩ | ⟨hxj, hu⟩
        · refine ⟨w.heap.size, c, obj, upd_self _ _ _, inv.ext.size, by rw [b5]; simp, e1, fun i o' c' hi hsi => ?_⟩
          rw [upd_ne σ _ (hne i o' hi)] at hsi
          have := hlt i o' _ c' hi hsi
          omega
        · obtain ⟨b, c', obj', a1, a2, a3, a4, a5, a6⟩ := hobj x o hu
          refine ⟨b, c', obj', by rw [upd_ne σ _ (by omega)]; exact a1, a3, by rw [hheap b a2]; exact a4, a5.mono hsub, fun i o' c'' hi hsi => ?_⟩
          rw [upd_ne σ _ (hne i o' hi)] at hsi
          exact a6 i o' c'' hi hsi
      · rcases hcase x o hx with ⟨rfl, rfl⟩ | ⟨hxj, hu⟩ <;> rcases hcase y o₂ hy with ⟨rfl, rfl⟩ | ⟨hyj, hu'⟩
        · rfl
        · rw [upd_self] at hsx; cases hsx
          rw [upd_ne σ _ (by omega)] at hsy
          obtain ⟨b, c', obj', a1, a2, _⟩ := hobj y o₂ hu'
          rw [hsy] at a1; cases a1; omega
        · rw [upd_self] at hsy; cases hsy
          rw [upd_ne σ _ (by omega)] at hsx
          obtain ⟨b, c', obj', a1, a2, _⟩ := hobj x o hu
          rw [hsx] at a1; cases a1; omega
        · rw [upd_ne σ _ (by omega)] at hsx hsy
          exact inv.inj x y o o₂ b c₁ c₂ hu hu' hsx hsy
      · obtain ⟨g1, g2⟩ := hnd' x hx hq
        rw [upd_ne σ _ (by omega)]; exact inv.nd x hx g2
      · rw [stG_op ho hws (.inr hnd), ← putK ho]
        simp [stepG.apply, b1, Sem.runT_eq]
    | light ks req =>
      obtain ⟨hob, _⟩ := c4
      have hsm := same j o' ks req rr vs ho F.fp F.frr c3
      obtain ⟨l1, l2⟩ := pf.light j ks req F.fp
      have hle : (List.range ops.size).countP (fun i => effAt ps i && L.getD i false) ≤ ops.size := by
        have := List.countP_le_length (p := fun i => effAt ps i && L.getD i false) (l := List.range ops.size)
        simpa using this
      have hk : (List.range ops.size).countP (fun i => effAt ps i && L.getD i false) ∈ ks := by
        rcases l1 _ hle with q | q | q
        · exact q
        · have : (List.range ops.size).countP (fun i => effAt ps i && bef (masks ops.toList []) i j) ≤ (List.range ops.size).countP (fun i => effAt ps i && L.getD i false) :=
            List.countP_mono_left fun i _ hq => by
              simp only [Bool.and_eq_true] at hq ⊢
              exact ⟨hq.1, hpre i hq.2⟩
          omega
        · have : (List.range ops.size).countP (fun i => effAt ps i && L.getD i false) ≤ (List.range ops.size).countP (fun i => effAt ps i && !bef (masks ops.toList []) j i) :=
            List.countP_mono_left fun i _ hq => by
              simp only [Bool.and_eq_true] at hq ⊢
              exact ⟨hq.1, by rw [hpost i hq.2]; rfl⟩
          omega
      obtain ⟨h₁, hm, q1, q2, q3⟩ := sameAt_spec hsm _ hk
      have hjh : h₁ = h := by
        have h2 := inv.hk
        rw [q1] at h2; cases h2; rfl
      subst hjh
      have hreqL : ∀ x ∈ req, ∀ o vs v, rs[x]? = some ⟨vs, v, some o⟩ → Un ps rs L x o := fun x hx o vs v hr => by
        obtain ⟨u1, u2⟩ := l2 x hx
        refine ⟨hpre x u1, ⟨vs, v, hr⟩, fun e req' he hD hx' => ?_⟩
        obtain ⟨u3, u4⟩ := pf.eff e req' he x hx'
        have hen : e < ops.size := by have := (List.getElem?_eq_some_iff.1 he).1; have := pf.len; omega
        have := u2 e hen (by rw [effAt_of he]; rfl) u3
        rw [hpost e hD] at this; cases this
      obtain ⟨m1, m2, m3, m4⟩ := inv.merge hreqL q2
      obtain ⟨x, a1, a2⟩ := light_sound hE m1 hcv q3
      have hnd : ∀ c, o'.op ≠ .defer c := fun c q => by rw [q] at q3; cases q3
      refine ⟨_, σ, w, tm', putT o'.dst x tmps, sameEnd rfl hob (htr σ tmps x inv.tr a2), .one (step_lone_go ?_)⟩
      rw [stG_op ho hws (.inr hnd), ← putK ho]
      simp [stepG.apply, a1, Sem.runT_eq]
  · -- it is not wanted
    rw [← hw] at c1
    have hws : Region.wanted o' (yielded ops tmps) = false := by rw [← hwm]; exact c1
    have htr' := htr σ tmps undef inv.tr (by rw [c3]; exact conc_undef σ)
    cases p with
    | eff req =>
      obtain ⟨hm, q1, q2⟩ := c5
      have hr := hrank rfl
      have hjh : hj0 = h := by
        have h1 := F.fh
        have h2 := inv.hk
        rw [hr, h1] at h2; cases h2; rfl
      subst hjh
      obtain ⟨m1, m2, m3, m4⟩ := inv.merge (hreqE req rfl) q1
      exact ⟨hm, σ, w, tm', _, effEnd rfl c4 q1 q2 m1 (Ext.refl _ _ _) htr', .one (st_opSkip ho hws)⟩
    | alloc => exact ⟨h, σ, w, tm', _, sameEnd rfl c4 htr', .one (st_opSkip ho hws)⟩
    | light ks req => exact ⟨h, σ, w, tm', _, sameEnd rfl c4 htr', .one (st_opSkip ho hws)⟩

theorem draw_run (hE : EnvOk P E) {rc : AF → H → Option (AV × H)} (hrc : RC P rc) {fin : List Nat} (pf : PF ops ps fin)
    (facts : ∀ i, i < ops.size → HasFact E rc ops ps nt h0.next tm0 hs rs i)
    (same : ∀ (j : Nat) (o : Oper) (ks req : List Nat) (rr : RR) (vs : List AV), ops[j]? = some o → ps[j]? = some (.light ks req) → rs[j]? = some rr → rr.vs = some vs → sameAt E h0.next o.op vs rr.v hs rs req ks = true)
    (f : FuncId) (k : List Item) (d : List Deferred) (kd : CallKind) (ro : Option Nat) (cs : List Frame) : ∀ (fuel t : Nat) (L : Array Bool) (h : H) (σ : Sg) (w : World) (tm : T AV) (tmps : Array Value),
    Inv ops ps rs hs nt tm0 σ0 h0 w0 L h σ w tm tmps → (List.range ops.size).countP (fun i => !L.getD i false) = fuel →
    ∃ L' h' σ' w' tm' tmps', (∀ i, i < ops.size → L'.getD i false = true) ∧ Inv ops ps rs hs nt tm0 σ0 h0 w0 L' h' σ' w' tm' tmps' ∧
      Steps P (lone ⟨f, tmps, .inRegion ops (Region.linearise.go .any ops fuel t L []) :: k, d, .run, kd, ro⟩ cs w) (lone ⟨f, tmps', .inRegion ops [] :: k, d, .run, kd, ro⟩ cs w')
  | 0, t, L, h, σ, w, tm, tmps, inv, hc => by
    refine ⟨L, h, σ, w, tm, tmps, fun i hi => ?_, inv, by simpa [Region.linearise.go] using Steps.refl _ _⟩
    rw [List.countP_eq_zero] at hc
    have := hc i (by simpa using hi)
    simpa using this
  | fuel + 1, t, L, h, σ, w, tm, tmps, inv, hc => by
    -- the first that is not done is ready
    have hex : ∃ i, i < ops.size ∧ L.getD i false = false := by
      obtain ⟨i, hi, q⟩ := List.countP_pos_iff.1 (by omega : 0 < (List.range ops.size).countP (fun i => !L.getD i false))
      exact ⟨i, by simpa using hi, by simpa using q⟩
    have hfirst : ∀ m i, i ≤ m → i < ops.size → L.getD i false = false → ∃ j, j < ops.size ∧ L.getD j false = false ∧ ∀ i, i < j → L.getD i false = true := by
      intro m
      induction m with
      | zero => intro i hi h1 h2; have : i = 0 := by omega
                subst this; exact ⟨0, h1, h2, fun i hi => by omega⟩
      | succ m ih =>
        intro i hi h1 h2
        by_cases hq : ∃ i', i' < i ∧ L.getD i' false = false
        · obtain ⟨i', q1, q2⟩ := hq
          exact ih i' (by omega) (by omega) q2
        · refine ⟨i, h1, h2, fun i' hi' => ?_⟩
          cases hb : L.getD i' false with
          | true => rfl
          | false => exact absurd ⟨i', hi', hb⟩ hq
    obtain ⟨i₀, g1, g2⟩ := hex
    obtain ⟨j₀, g3, g4, g5⟩ := hfirst i₀ i₀ (Nat.le_refl _) g1 g2
    have hready : j₀ ∈ Region.ready .any ops L := by
      refine mem_ready.2 ⟨?_, ops[j₀], Array.getElem?_eq_getElem g3, fun e he hb => ?_⟩
      · have : j₀ < L.size := by rw [inv.size]; exact g3
        simp [this] at g4 ⊢; exact g4
      · exact g5 _ (pf.dir j₀ _ (Array.getElem?_eq_getElem g3) _ (mem_directs.2 ⟨e, he, hb, rfl⟩))
    have hgo : ∃ j t', j ∈ Region.ready .any ops L ∧ Region.linearise.go .any ops (fuel + 1) t L [] = j :: Region.linearise.go .any ops fuel t' (L.setIfInBounds j true) [] := by
      simp only [Region.linearise.go]
      change ∃ j t', j ∈ Region.ready .any ops L ∧ (match (Region.ready .any ops L)[t % (Region.ready .any ops L).length]? with
        | some i => Region.linearise.go .any ops fuel (t / (Region.ready .any ops L).length) (L.setIfInBounds i true) [i]
        | none => [].reverse) = _
      cases hi : (Region.ready .any ops L)[t % (Region.ready .any ops L).length]? with
      | none =>
        have hpos : 0 < (Region.ready .any ops L).length := List.length_pos_of_mem hready
        have := Nat.mod_lt t hpos
        rw [List.getElem?_eq_none_iff] at hi
        omega
      | some i =>
        refine ⟨i, t / (Region.ready .any ops L).length, List.mem_of_getElem? hi, ?_⟩
        simp only []
        rw [linearise_go_acc, List.reverse_singleton, List.singleton_append]
    obtain ⟨j, t', hj, hgo⟩ := hgo
    obtain ⟨h₁, σ₁, w₁, tm₁, tmps₁, inv₁, s₁⟩ := draw_step hE hrc pf facts same inv hj f k d kd ro (Region.linearise.go .any ops fuel t' (L.setIfInBounds j true) []) cs
    have hjm := mem_ready.1 hj
    obtain ⟨hun, o, ho, _⟩ := hjm
    have hjn : j < ops.size := (Array.getElem?_eq_some_iff.1 ho).1
    have hjL : j < L.size := by rw [inv.size]; exact hjn
    have hDj : L.getD j false = false := by
      simp [hjL] at hun ⊢; exact hun
    have hc' : (List.range ops.size).countP (fun i => !(L.setIfInBounds j true).getD i false) = fuel := by
      have := countP_one (f := fun i => !(L.setIfInBounds j true).getD i false) (g := fun i => !L.getD i false) (j := j) (fun i hi => by rw [getD_set hjL, if_neg hi]) (by rw [getD_set hjL, if_pos rfl]; rfl) ops.size
      rw [if_pos ⟨hjn, by simp only [hDj]; rfl⟩] at this
      omega
    obtain ⟨L', h', σ', w', tm', tmps', k1, k2, k3⟩ := draw_run hE hrc pf facts same f k d kd ro cs fuel t' _ h₁ σ₁ w₁ tm₁ tmps₁ inv₁ hc'
    refine ⟨L', h', σ', w', tm', tmps', k1, k2, ?_⟩
    rw [hgo]
    exact s₁.trans k3

end
end Go.Ev
/- The evaluator's soundness: whole. -/
set_option linter.unusedSimpArgs false
set_option linter.unusedVariables false
namespace Go.Ev
open Go.RowKit

section
variable {P : Program} {E : Env}

theorem TmOk.same {ops : Array Oper} {rs : List RR} {tm0 : T AV} {S S' : Nat → Prop} {a b : T AV} (ha : TmOk ops rs tm0 S a) (hb : TmOk ops rs tm0 S' b) (hS : ∀ i, i < ops.size → S i) (hS' : ∀ i, i < ops.size → S' i) (t : Nat) : a.get t = b.get t := by
  by_cases hex : ∃ (i : Nat) (o : Oper), ops[i]? = some o ∧ o.dst = some t
  · obtain ⟨i, o, ho, hd⟩ := hex
    have hi : i < ops.size := (Array.getElem?_eq_some_iff.1 ho).1
    obtain ⟨r1, g1, g2⟩ := ha.one i (hS i hi)
    obtain ⟨r2, g3, g4⟩ := hb.one i (hS' i hi)
    rw [g1] at g3; cases g3
    rw [g2 o t ho hd, g4 o t ho hd]
  · rw [ha.two t fun i o _ ho hd => hex ⟨i, o, ho, hd⟩, hb.two t fun i o _ ho hd => hex ⟨i, o, ho, hd⟩]

theorem TRel.same {σ : Sg} {nt : Nat} {a b : T AV} {tmps : Array Value} (r : TRel σ nt a tmps) (h : ∀ t, a.get t = b.get t) : TRel σ nt b tmps := by
  refine ⟨r.1, fun i => ?_⟩
  rw [← h i]; exact r.2 i

theorem draw_ok (hE : EnvOk P E) : DrawOk P E := by
  intro rc hrc fr h h' v id ops k σ cf w ht hret hb hf r
  obtain ⟨tm, tk, d, ro, rfl, h2, h3, h4, h7⟩ := hf.inv
  have hm : modeOf fr = .run := by simp [modeOf, hret]
  rw [hm]
  intro cs hcs
  rw [ht] at h3
  obtain ⟨it, k', rfl, hi, hk3⟩ := h3.cons; clear h3
  have h3 := hk3
  cases it <;> simp only [IRel] at hi
  subst hi
  simp only [codeA, cond_true] at hb
  split at hb
  · cases hb
  · rename_i pl hpl
    cases hok : planOk ops pl with
    | false => rw [hok] at hb; cases hb
    | true =>
      rw [hok] at hb; simp only [cond_true] at hb
      have pf := pf_of hok
      obtain ⟨base, t⟩ := h
      simp only [fN_eq] at hb
      obtain ⟨tmE, hE', hs, rs, e1, e2, e3, e4, e5, e6, e7⟩ := regD_spec (tm0 := fr.tm) pf.len
        (fun i j a b d hij ha hb hd => (pf.slots i j a b d (by omega) ha hb hd).1)
        ops.toList pl.ps 0 fr.tm ⟨base + ops.size, t⟩ [⟨base + ops.size, t⟩] [] _ _ rfl rfl (Nat.zero_le _) rfl rfl rfl
        ⟨fun i hi => by omega, fun t _ => rfl⟩ (fun i hi => by omega) hb
      cases hsame : sameAll E base hs rs ops.toList pl.ps rs with
      | false => rw [hsame] at e1; cases e1
      | true =>
        rw [hsame] at e1; simp only [cond_true] at e1
        obtain ⟨hF, f1, f2⟩ := mergeA_eq e1
        have inv0 : Inv ops pl.ps rs hs fr.nt fr.tm σ ⟨base, t⟩ { w with drawn := w.drawn + 1 } (Array.replicate ops.size false) ⟨base + ops.size, t⟩ σ { w with drawn := w.drawn + 1 } fr.tm tm := by
          have hno : ∀ i, (Array.replicate ops.size false).getD i false = false := fun i => by
            simp [Array.getD_eq_getD_getElem?, Array.getElem?_replicate]; split <;> rfl
          refine ⟨by simp, (fun j hj => by rw [hno] at hj; cases hj), ?_, ⟨fun i hi => r.fresh i (by simp only at hi ⊢; omega), r.objs, r.inj⟩,
            ⟨rfl, rfl, rfl, Nat.le_refl _, by simp, fun _ _ => rfl, fun _ _ _ => rfl, fun i o _ c hi hs _ => ⟨i, o, c, hi, hs⟩⟩, by simp,
            (fun x o hx => by have := hx.1; rw [hno] at this; cases this), (fun x y o o' b c c' hx => by have := hx.1; rw [hno] at this; cases this),
            (fun x hx _ => r.fresh _ (by simp)), ⟨(fun i hi => by rw [hno] at hi; cases hi), fun _ _ => rfl⟩, h2⟩
          have : (List.range ops.size).countP (fun i => effAt pl.ps i && (Array.replicate ops.size false).getD i false) = 0 := by
            rw [List.countP_eq_zero]; intro i _; rw [hno]; simp
          rw [this, e5]; rfl
        have hcnt : (List.range ops.size).countP (fun i => !(Array.replicate ops.size false).getD i false) = ops.size := by
          have : (List.range ops.size).countP (fun i => !(Array.replicate ops.size false).getD i false) = (List.range ops.size).length := by
            rw [List.countP_eq_length]
            intro i hi
            have : i < ops.size := by simpa using hi
            simp [Array.getD_eq_getD_getElem?, Array.getElem?_replicate, this]
          rw [this]; simp
        obtain ⟨L', h₁, σ₁, w₁, tm₁, tmps₁, k1, inv₁, k3⟩ := draw_run hE hrc pf e7
          (fun j o ks req rr vs a1 a2 a3 a4 => sameAll_spec hsame j o ks req rr vs (by rw [Array.getElem?_toList]; exact a1) a2 a3 a4)
          fr.fn k' d (kindOf fr) ro cs ops.size (w.tape w.drawn (.order fr.fn id)) _ _ _ _ _ _ inv0 hcnt
        have hh : h₁ = hE' := by
          have h5 := inv₁.hk
          have : (List.range ops.size).countP (fun i => effAt pl.ps i && L'.getD i false) = rank pl.ps ops.size := by
            refine List.countP_congr fun i hi => ?_
            rw [k1 i (by simpa using hi), Bool.and_true]
          rw [this, e4] at h5; cases h5; rfl
        subst hh
        obtain ⟨m1, m2, m3, m4⟩ := inv₁.merge (req := pl.fin) (hm := hF) (fun x hx o vs v hr => by
          obtain ⟨q1, q2⟩ := pf.fin x hx
          have hxn : x < ops.size := by have := allocAt_lt q1; have := pf.len; omega
          refine ⟨k1 x hxn, ⟨vs, v, hr⟩, fun e req he hD hx' => ?_⟩
          obtain ⟨u3, _⟩ := pf.eff e req he x hx'
          have hen : e < ops.size := by have := (List.getElem?_eq_some_iff.1 he).1; have := pf.len; omega
          have := q2 e hen (by rw [effAt_of he]; rfl)
          rw [u3] at this; cases this) f1
        have hx : Ext σ ⟨base, t⟩ w σ₁ hF w₁ := m2.drew'
        have hsub := hx.sub r
        refine (hrc _ _ _ _ f2 σ₁ ⟨fr.fn, tmps₁, k', d, .run, kindOf fr, ro⟩ w₁ ?_ m1 cs (okCs.of (fr₁ := { fr with tm := tmE, todo := k }) hcs rfl rfl)).of_steps ?_ rfl rfl rfl hx
        rotate_left
        · refine Steps.head st_draw (Steps.trans ?_ (.one (st_regionEnd (ops := ops))))
          have hsch : Region.schedule (P.follows .mixedOrders) ops (w.tape w.drawn (.order fr.fn id)) = Region.linearise.go .any ops ops.size (w.tape w.drawn (.order fr.fn id)) (Array.replicate ops.size false) [] := by
            simp only [Region.schedule, hE.mixed, Bool.true_or, if_true]; rfl
          rw [hsch]
          exact k3
        · have htr := inv₁.tr.same (TmOk.same inv₁.tmk e6 k1 (fun i hi => hi))
          have := FRel.mk' (fr := { fr with tm := tmE, todo := k }) (σ := σ₁) (tm := tmps₁) (k := k') (d := d) (ro := ro) htr (h3.mono hsub) (h4.mono hsub) (roundRel.mono (fr := fr) hsub h7)
          simpa [modeOf, hret, kindOf] using this

/-- a call that the evaluator carries out is carried out by the machine -/
theorem callF_sound (hE : EnvOk P E) {n : Nat} {f : FuncId} {args : List AV} {h h' : H} {v : AV} (hc : callF E n f args h = some (v, h')) {σ : Sg} {w : World} {xs : List Value} (hx : concL σ args = some xs) (r : HRel σ h w.heap) :
    Calls P f ⟨xs⟩ w fun e w' => ∃ σ' x, e = .returned x ∧ conc σ' v = some x ∧ HRel σ' h' w'.heap ∧ Ext σ h w σ' h' w' := by
  unfold callF at hc
  obtain ⟨fr, h1, h2, h3, h4, h5, h6⟩ := enter_rel hE hc
  intro cs
  obtain ⟨σ', w', x, a1, a2, a3, a4⟩ := run_sound hE (draw_ok hE) n fr h v h' h1 σ _ w (h6 σ xs hx) r cs (fun _ q => by rw [h4] at q; cases q)
  simp only [EndsC, h3] at a4
  obtain ⟨cf', s1, q1, q2, q3, q4, fn, q5, q6⟩ := a4
  rw [h4] at q4
  refine ⟨.returned x, w', cf', ⟨σ', x, rfl, a1, a2, a3⟩, s1, by rw [q1, h2], q2, q3, q4, fn, by rw [q1]; exact q5, q6⟩

/-- a call without arguments that comes to a plain value: memory that was there is left alone -/
theorem callF_plain (hE : EnvOk P E) {n : Nat} {f : FuncId} {h' : H} {b : Bool} (hc : callF E n f [] ⟨0, .nil⟩ = some (.bool b, h')) (w : World) :
    Calls P f #[] w fun e w' => e = .returned (.bool b) ∧ Below w.heap.size w w' := by
  have := callF_sound hE hc (σ := fun _ => none) (w := w) (xs := []) rfl ⟨fun _ _ => rfl, fun i o hi => by simp [get_nil] at hi, fun i j o o' b c c' hi => by simp [get_nil] at hi⟩
  refine this.mono fun e w' he => ?_
  obtain ⟨σ', x, rfl, h1, h2, h3⟩ := he
  simp only [conc, Option.some.injEq] at h1
  subst h1
  exact ⟨rfl, h3.below⟩

end
end Go.Ev
