/- The evaluator's soundness: regions that draw their order: any order comes to the same. -/
import Derived.Test.YtaodaeehndocgaaGreatEvU
set_option linter.unusedSimpArgs false
set_option linter.unusedVariables false
namespace Go.Ev

/-! what is ahead of what -/
def maskOf (o : Oper) (acc : List Nat) : Nat := (directs o).foldl (fun s d => s ||| 2 ^ d ||| (acc.getD d 0)) 0
theorem masks_spec : ∀ (os : List Oper) (acc : List Nat), ∃ ext, masks os acc = acc ++ ext ∧ ext.length = os.length ∧ ∀ j o, os[j]? = some o → ext[j]? = some (maskOf o (acc ++ ext.take j))
  | [], acc => ⟨[], by simp [masks], rfl, by intro j o h; simp at h⟩
  | o :: os, acc => by
    obtain ⟨ext, h1, h2, h3⟩ := masks_spec os (acc ++ [maskOf o acc])
    refine ⟨maskOf o acc :: ext, ?_, by simp [h2], fun j o' hj => ?_⟩
    · simp only [masks, snoc_eq]
      have := h1
      simp only [maskOf] at this ⊢
      rw [this]; simp
    · cases j with
      | zero => simp at hj; subst hj; simp
      | succ j =>
        simp at hj
        have := h3 j o' hj
        simpa using this
theorem foldl_bit (acc : List Nat) (i : Nat) : ∀ (l : List Nat) (s : Nat), (l.foldl (fun s d => s ||| 2 ^ d ||| (acc.getD d 0)) s).testBit i = (s.testBit i || l.any fun d => d == i || (acc.getD d 0).testBit i)
  | [], s => by simp
  | d :: l, s => by
    rw [List.foldl_cons, foldl_bit acc i l]
    simp only [Nat.testBit_or, Nat.testBit_two_pow, List.any_cons, Bool.or_assoc]
    congr 1
theorem bef_iff {ops : Array Oper} {j : Nat} {o : Oper} (ho : ops[j]? = some o) (hd : ∀ d ∈ directs o, d < j) (i : Nat) :
    bef (masks ops.toList []) i j = true ↔ ∃ d ∈ directs o, d = i ∨ bef (masks ops.toList []) i d = true := by
  obtain ⟨ext, h1, h2, h3⟩ := masks_spec ops.toList []
  have hj := h3 j o (by rw [Array.getElem?_toList]; exact ho)
  rw [h1]
  simp only [List.nil_append] at hj ⊢
  unfold bef
  have e : ext.getD j 0 = maskOf o (ext.take j) := by simp [List.getD_eq_getElem?_getD, hj]
  rw [e, maskOf, foldl_bit]
  simp only [Nat.zero_testBit, Bool.false_or, List.any_eq_true, Bool.or_eq_true, beq_iff_eq]
  constructor
  · rintro ⟨d, hd1, q⟩
    refine ⟨d, hd1, ?_⟩
    rcases q with q | q
    · exact .inl q
    · right
      rw [List.getD_eq_getElem?_getD, List.getElem?_take_of_lt (hd d hd1), ← List.getD_eq_getElem?_getD] at q
      exact q
  · rintro ⟨d, hd1, q⟩
    refine ⟨d, hd1, ?_⟩
    rcases q with q | q
    · exact .inl q
    · right
      rw [List.getD_eq_getElem?_getD, List.getElem?_take_of_lt (hd d hd1), ← List.getD_eq_getElem?_getD]
      exact q

/-- what a plan owes, told -/
structure PF (ops : Array Oper) (ps : List PE) (fin : List Nat) : Prop where
  len : ps.length = ops.size
  dir : ∀ j o, ops[j]? = some o → ∀ d ∈ directs o, d < j
  effs : ∀ i j, i < j → j < ops.size → effAt ps i = true → effAt ps j = true → bef (masks ops.toList []) i j = true
  slots : ∀ (i j : Nat) (a b : Oper) d, i ≠ j → ops[i]? = some a → ops[j]? = some b → a.dst = some d → b.dst ≠ some d ∧ (d ∈ b.looksAt ops → bef (masks ops.toList []) i j = true ∨ bef (masks ops.toList []) j i = true)
  light : ∀ (j : Nat) ks req, ps[j]? = some (.light ks req) →
    (∀ k, k ≤ ops.size → k ∈ ks ∨ k < (List.range ops.size).countP (fun i => effAt ps i && bef (masks ops.toList []) i j) ∨ (List.range ops.size).countP (fun i => effAt ps i && !bef (masks ops.toList []) j i) < k) ∧
    ∀ x ∈ req, bef (masks ops.toList []) x j = true ∧ ∀ e, e < ops.size → effAt ps e = true → bef (masks ops.toList []) x e = true → bef (masks ops.toList []) j e = true
  eff : ∀ (j : Nat) req, ps[j]? = some (.eff req) → ∀ x ∈ req, bef (masks ops.toList []) x j = true ∧ ∀ e, e < j → effAt ps e = true → bef (masks ops.toList []) x e = false
  fin : ∀ x ∈ fin, allocAt ps x = true ∧ ∀ e, e < ops.size → effAt ps e = true → bef (masks ops.toList []) x e = false

theorem allocAt_lt {ps : List PE} {x : Nat} (h : allocAt ps x = true) : x < ps.length := by
  unfold allocAt at h
  split at h
  · rename_i p hp; exact (List.getElem?_eq_some_iff.1 hp).1
  · cases h

theorem pf_of {ops : Array Oper} {pl : Plan} (h : planOk ops pl = true) : PF ops pl.ps pl.fin := by
  unfold planOk at h
  simp only [Bool.and_eq_true, decide_eq_true_eq, List.all_eq_true, List.mem_range, Bool.or_eq_true, Bool.not_eq_true'] at h
  obtain ⟨h1, h2, h3, h4, h5, h6, h7⟩ := h
  have at' : ∀ {j : Nat} {p : PE}, pl.ps[j]? = some p → j < ops.size := fun hp => by
    have := (List.getElem?_eq_some_iff.1 hp).1; omega
  refine ⟨h1, fun j o ho d hd => ?_, fun i j hi hj hei hej => ?_, fun i j a b d hne ha hb hd => ?_, fun j ks req hp => ?_, fun j req hp x hx => ?_, fun x hx => ?_⟩
  · have := h3 j (Array.getElem?_eq_some_iff.1 ho).1
    simp only [ho, List.all_eq_true] at this
    exact blt_true.1 (this d hd)
  · have := h4 j hj i hi
    rcases this with (q | q) | q
    · rw [hei] at q; cases q
    · rw [hej] at q; cases q
    · exact q
  · have := h5 j (Array.getElem?_eq_some_iff.1 hb).1 i (Array.getElem?_eq_some_iff.1 ha).1
    rcases this with q | q
    · exact absurd q hne
    · simp only [slotsOk, ha, hb, hd, Bool.and_eq_true, Bool.or_eq_true, Bool.not_eq_true'] at q
      refine ⟨by simpa using q.1, fun hm => ?_⟩
      rcases q.2 with (q2 | q2) | q2
      · have : (b.looksAt ops).contains d = true := by simpa using hm
        rw [this] at q2; cases q2
      · exact .inl q2
      · exact .inr q2
  · have := h6 j (at' hp)
    simp only [planOp, hp, Bool.and_eq_true, List.all_eq_true, List.mem_range, Bool.or_eq_true, Bool.not_eq_true'] at this
    obtain ⟨a1, a2⟩ := this
    refine ⟨fun k hk => ?_, fun x hx => ?_⟩
    · rcases a1 k (by omega) with (q | q) | q
      · exact .inl (by simpa using q)
      · exact .inr (.inl (blt_true.1 q))
      · exact .inr (.inr (blt_true.1 q))
    · obtain ⟨⟨q1, q2⟩, q3⟩ := a2 x hx
      refine ⟨q2, fun e he hee hb => ?_⟩
      rcases q3 e he with (q | q) | q
      · rw [hee] at q; cases q
      · rw [hb] at q; cases q
      · exact q
  · have := h6 j (at' hp)
    simp only [planOp, hp, Bool.and_eq_true, List.all_eq_true, List.mem_range, Bool.or_eq_true, Bool.not_eq_true'] at this
    obtain ⟨⟨q1, q2⟩, q3⟩ := this x hx
    refine ⟨q2, fun e he hee => ?_⟩
    rcases q3 e he with q | q
    · rw [hee] at q; cases q
    · exact q
  · obtain ⟨q1, q2⟩ := h7 x hx
    refine ⟨q1, fun e he hee => ?_⟩
    rcases q2 e he with q | q
    · rw [hee] at q; cases q
    · exact q

/-! counting -/
theorem countP_one {f g : Nat → Bool} {j : Nat} (hne : ∀ i, i ≠ j → g i = f i) (hj : f j = false) : ∀ n, (List.range n).countP g = (List.range n).countP f + if j < n ∧ g j = true then 1 else 0
  | 0 => by simp
  | n + 1 => by
    rw [List.range_succ, List.countP_append, List.countP_append, countP_one hne hj n]
    simp only [List.countP_cons, List.countP_nil, Nat.zero_add]
    by_cases e : n = j
    · subst e
      rw [hj]
      simp
    · rw [hne n e]
      by_cases hlt : j < n
      · have : j < n + 1 := by omega
        by_cases hg : g j = true
        · simp [hlt, this, hg]; omega
        · simp [hg]
      · have : ¬ j < n + 1 := by omega
        simp [hlt, this]
theorem countP_cut {f g : Nat → Bool} {j : Nat} (h1 : ∀ i, i < j → f i = g i) (h2 : ∀ i, j ≤ i → f i = false) : ∀ n, j ≤ n → (List.range n).countP f = (List.range j).countP g
  | 0, h => by have : j = 0 := by omega
               subst this; rfl
  | n + 1, h => by
    by_cases e : j = n + 1
    · subst e
      refine List.countP_congr fun i hi => ?_
      rw [h1 i (by simpa using hi)]
    · rw [List.range_succ, List.countP_append, countP_cut h1 h2 n (by omega)]
      simp [h2 n (by omega)]

theorem wanted_same {ops : Array Oper} {o : Oper} {a b : T AV} (h : ∀ t ∈ o.looksAt ops, a.get t = b.get t) : wantedA ops a o = wantedA ops b o := by
  unfold wantedA
  cases hg : o.guard with
  | none => rfl
  | some p =>
    obtain ⟨j, want⟩ := p
    simp only
    cases hn : nth ops.toList j with
    | none => rfl
    | some q =>
      simp only
      cases hd : q.dst with
      | none => rfl
      | some d =>
        simp only
        have : a.get d = b.get d := h d (by
          unfold Oper.looksAt
          refine List.mem_append_right _ ?_
          rw [nth_eq, Array.getElem?_toList] at hn
          simp [hg, hn, hd])
        rw [this]
theorem aevL_same {a b : T AV} : ∀ {l : List Operand}, (∀ t, Operand.tmp t ∈ l → a.get t = b.get t) → aevL a l = aevL b l
  | [], _ => rfl
  | x :: l, h => by
    simp only [aevL]
    rw [aevL_same (l := l) fun t ht => h t (by simp [ht])]
    have : aev a x = aev b x := by
      cases x with
      | tmp t => simp only [aev]; rw [h t (by simp)]
      | _ => rfl
    rw [this]
theorem args_same {ops : Array Oper} {o : Oper} {a b : T AV} (h : ∀ t ∈ o.looksAt ops, a.get t = b.get t) : aevL a o.op.operands.toList = aevL b o.op.operands.toList :=
  aevL_same fun t ht => h t (by
    unfold Oper.looksAt
    exact List.mem_append_left _ (List.mem_filterMap.2 ⟨_, ht, rfl⟩))

end Go.Ev
