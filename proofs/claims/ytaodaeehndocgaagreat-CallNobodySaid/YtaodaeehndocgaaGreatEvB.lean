/- The evaluator's soundness: tries, values, relations. -/
import Derived.Test.YtaodaeehndocgaaGreatEvA
namespace Go.Ev

/-! forcing -/
theorem fN_eq {β : Type} (n : Nat) (K : Nat → β) : fN n K = K n := by cases n <;> rfl
theorem fI_eq {β : Type} (n : Int) (K : Int → β) : fI n K = K n := by cases n <;> simp [fI, fN_eq]
theorem fL_eq {α β : Type} (l : List α) : ∀ K : List α → β, fL l K = K l := by
  induction l with
  | nil => intro K; rfl
  | cons a l ih => intro K; simp [fL, ih]
theorem snoc_eq {α β : Type} (l : List α) (a : α) (K : List α → β) : snoc l a K = K (l ++ [a]) := fL_eq _ _
theorem intV_eq (k : IntKind) (n : Int) : intV k n = some (.int k n) := fI_eq _ _

/-! tries -/
theorem setK_eq' {α : Type} (x : Option α) : ∀ (d : Nat) (t : T α) (k : Nat) (β : Type) (K : T α → β), T.setK x d t k K = K (T.setK x d t k id) := by
  intro d
  induction d with
  | zero => intro t k β K; rfl
  | succ d ih =>
    intro t k β K
    cases t with
    | nil =>
      cases k with
      | zero => rfl
      | succ k =>
        simp only [T.setK]
        cases Nat.beq (k % 2) 0
        · simp only [cond_false]; rw [ih _ _ β, ih _ _ (T α) (fun r => id (T.node T.nil none r))]; rfl
        · simp only [cond_true]; rw [ih _ _ β, ih _ _ (T α) (fun l => id (T.node l none T.nil))]; rfl
    | node l v r =>
      cases k with
      | zero => rfl
      | succ k =>
        simp only [T.setK]
        cases Nat.beq (k % 2) 0
        · simp only [cond_false]; rw [ih _ _ β, ih _ _ (T α) (fun r => id (T.node l v r))]; rfl
        · simp only [cond_true]; rw [ih _ _ β, ih _ _ (T α) (fun l => id (T.node l v r))]; rfl
theorem setK_eq {α β : Type} (x : Option α) (d : Nat) (t : T α) (k : Nat) (K : T α → β) : T.setK x d t k K = K (T.setK x d t k id) := setK_eq' x d t k β K

theorem get_nil {α : Type} (k : Nat) : (T.nil : T α).get k = none := rfl

theorem get_setK {α : Type} (x : Option α) : ∀ (d : Nat) (t : T α) (k j : Nat), k < d → (T.setK x d t k id).get j = if j = k then x else t.get j := by
  intro d
  induction d with
  | zero => intro t k j h; omega
  | succ d ih =>
    intro t k j h
    have two : ∀ a b : Nat, a % 2 = b % 2 → a / 2 = b / 2 → a = b := by omega
    cases t with
    | nil =>
      cases k with
      | zero =>
        cases j with
        | zero => simp [T.setK, T.get]
        | succ j => simp [T.setK, T.get]
      | succ k =>
        simp only [T.setK]
        cases hb : Nat.beq (k % 2) 0
        · simp only [cond_false]
          rw [setK_eq]
          simp only [id]
          cases j with
          | zero => simp [T.get]
          | succ j =>
            simp only [T.get]
            cases hj : Nat.beq (j % 2) 0
            · simp only [cond_false]
              rw [ih _ _ _ (by omega)]
              have h1 : k % 2 ≠ 0 := fun e => by simp [e] at hb
              have h2 : j % 2 ≠ 0 := fun e => by simp [e] at hj
              by_cases e : j = k
              · subst e; simp
              · have : j / 2 ≠ k / 2 := fun q => e (two _ _ (by omega) q)
                simp [e, this, T.get]
            · simp only [cond_true]
              have h1 : k % 2 ≠ 0 := fun e => by simp [e] at hb
              have h2 : j % 2 = 0 := Nat.eq_of_beq_eq_true hj
              have e : j ≠ k := fun e => by subst e; exact h1 h2
              simp [e]
        · simp only [cond_true]
          rw [setK_eq]
          simp only [id]
          cases j with
          | zero => simp [T.get]
          | succ j =>
            simp only [T.get]
            have h1 : k % 2 = 0 := Nat.eq_of_beq_eq_true hb
            cases hj : Nat.beq (j % 2) 0
            · simp only [cond_false]
              have h2 : j % 2 ≠ 0 := fun e => by simp [e] at hj
              have e : j ≠ k := fun e => by subst e; exact h2 h1
              simp [e]
            · simp only [cond_true]
              rw [ih _ _ _ (by omega)]
              have h2 : j % 2 = 0 := Nat.eq_of_beq_eq_true hj
              by_cases e : j = k
              · subst e; simp
              · have : j / 2 ≠ k / 2 := fun q => e (two _ _ (by omega) q)
                simp [e, this, T.get]
    | node l v r =>
      cases k with
      | zero =>
        cases j with
        | zero => simp [T.setK, T.get]
        | succ j => simp [T.setK, T.get]
      | succ k =>
        simp only [T.setK]
        cases hb : Nat.beq (k % 2) 0
        · simp only [cond_false]
          rw [setK_eq]
          simp only [id]
          have h1 : k % 2 ≠ 0 := fun e => by simp [e] at hb
          cases j with
          | zero => simp [T.get]
          | succ j =>
            simp only [T.get]
            cases hj : Nat.beq (j % 2) 0
            · simp only [cond_false]
              rw [ih _ _ _ (by omega)]
              have h2 : j % 2 ≠ 0 := fun e => by simp [e] at hj
              by_cases e : j = k
              · subst e; simp
              · have : j / 2 ≠ k / 2 := fun q => e (two _ _ (by omega) q)
                simp [e, this]
            · simp only [cond_true]
              have h2 : j % 2 = 0 := Nat.eq_of_beq_eq_true hj
              have e : j ≠ k := fun e => by subst e; exact h1 h2
              simp [e]
        · simp only [cond_true]
          rw [setK_eq]
          simp only [id]
          have h1 : k % 2 = 0 := Nat.eq_of_beq_eq_true hb
          cases j with
          | zero => simp [T.get]
          | succ j =>
            simp only [T.get]
            cases hj : Nat.beq (j % 2) 0
            · simp only [cond_false]
              have h2 : j % 2 ≠ 0 := fun e => by simp [e] at hj
              have e : j ≠ k := fun e => by subst e; exact h2 h1
              simp [e]
            · simp only [cond_true]
              rw [ih _ _ _ (by omega)]
              have h2 : j % 2 = 0 := Nat.eq_of_beq_eq_true hj
              by_cases e : j = k
              · subst e; simp
              · have : j / 2 ≠ k / 2 := fun q => e (two _ _ (by omega) q)
                simp [e, this]

theorem get_set {α : Type} (x : Option α) (t : T α) (k j : Nat) : (T.set x t k).get j = if j = k then x else t.get j :=
  get_setK x _ _ _ _ (by omega)
theorem setK_set {α β : Type} (x : Option α) (t : T α) (k : Nat) (K : T α → β) : T.setK x (k + 1) t k K = K (T.set x t k) := setK_eq _ _ _ _ _

theorem newO_eq {β : Type} (h : H) (o : AObj) (K : Nat → H → β) : newO h o K = K h.next ⟨h.next + 1, T.set (some o) h.t h.next⟩ := by
  cases h; simp only [newO, setK_set, fN_eq]
theorem putO_eq {β : Type} (h : H) (i : Nat) (o : Option AObj) (K : H → β) : putO h i o K = K ⟨h.next, T.set o h.t i⟩ := by
  cases h; simp only [putO, setK_set]

/-! what the numbers stand for: a block, and how many elements it has room for -/
abbrev Sg := Nat → Option (Nat × Nat)

mutual
def conc (σ : Sg) : AV → Option Value
  | .bool b => some (.bool b)
  | .int k n => some (.int k n)
  | .str s => some (.string ⟨⟨s⟩⟩)
  | .ptr none => some (.pointer none)
  | .ptr (some (i, o)) => (match σ i with
    | some (b, _) => some (.pointer (some ⟨b, o, none⟩))
    | none => none)
  | .slice none n (some c) => some (.slice none n c)
  | .slice none _ none => none
  | .slice (some (i, o)) n (some c) => (match σ i with
    | some (b, _) => some (.slice (some ⟨b, o, none⟩) n c)
    | none => none)
  | .slice (some (i, o)) n none => (match σ i with
    | some (b, c) => if n ≤ c then some (.slice (some ⟨b, o, none⟩) n c) else none
    | none => none)
  | .map none => some (.map none)
  | .map (some i) => (match σ i with
    | some (b, _) => some (.map (some b))
    | none => none)
  | .chan none => some (.chan none)
  | .chan (some i) => (match σ i with
    | some (b, _) => some (.chan (some b))
    | none => none)
  | .func f a b => (match concL σ a, concL σ b with
    | some x, some y => some (.func (.func f) ⟨x⟩ ⟨y⟩)
    | _, _ => none)
  | .yield l => (match σ l with
    | some (b, _) => some (.func (.yield b) #[] #[])
    | none => none)
  | .nilFunc => some .nilFunc
  | .iface t v => (match conc σ v with
    | some x => some (.iface t x)
    | none => none)
  | .nilIface => some .nilIface
  | .agg cs => (match concL σ cs with
    | some l => some (.agg ⟨l⟩)
    | none => none)
  | .tuple vs => (match concL σ vs with
    | some l => some (.tuple ⟨l⟩)
    | none => none)
def concL (σ : Sg) : List AV → Option (List Value)
  | [] => some []
  | v :: l => (match conc σ v, concL σ l with
    | some a, some b => some (a :: b)
    | _, _ => none)
end

/-- σ' says no less than σ -/
def Sub (σ σ' : Sg) : Prop := ∀ i p, σ i = some p → σ' i = some p
theorem Sub.refl (σ : Sg) : Sub σ σ := fun _ _ h => h
theorem Sub.trans {σ σ₁ σ₂ : Sg} (h : Sub σ σ₁) (h' : Sub σ₁ σ₂) : Sub σ σ₂ := fun i p e => h' i p (h i p e)

mutual
theorem conc_mono {σ σ' : Sg} (h : Sub σ σ') : ∀ (v : AV) (x : Value), conc σ v = some x → conc σ' v = some x
  | .bool b, x, e => by simpa [conc] using e
  | .int k n, x, e => by simpa [conc] using e
  | .str s, x, e => by simpa [conc] using e
  | .ptr none, x, e => by simpa [conc] using e
  | .ptr (some (i, o)), x, e => by
    simp only [conc] at e ⊢
    cases hi : σ i with
    | none => simp [hi] at e
    | some p => rw [h i p hi]; simpa [hi] using e
  | .slice none n (some c), x, e => by simpa [conc] using e
  | .slice none _ none, x, e => by simp [conc] at e
  | .slice (some (i, o)) n (some c), x, e => by
    simp only [conc] at e ⊢
    cases hi : σ i with
    | none => simp [hi] at e
    | some p => rw [h i p hi]; simpa [hi] using e
  | .slice (some (i, o)) n none, x, e => by
    simp only [conc] at e ⊢
    cases hi : σ i with
    | none => simp [hi] at e
    | some p => rw [h i p hi]; simpa [hi] using e
  | .map none, x, e => by simpa [conc] using e
  | .map (some i), x, e => by
    simp only [conc] at e ⊢
    cases hi : σ i with
    | none => simp [hi] at e
    | some p => rw [h i p hi]; simpa [hi] using e
  | .chan none, x, e => by simpa [conc] using e
  | .chan (some i), x, e => by
    simp only [conc] at e ⊢
    cases hi : σ i with
    | none => simp [hi] at e
    | some p => rw [h i p hi]; simpa [hi] using e
  | .func f a b, x, e => by
    simp only [conc] at e ⊢
    cases ha : concL σ a with
    | none => simp [ha] at e
    | some y =>
      cases hb : concL σ b with
      | none => simp [ha, hb] at e
      | some z => rw [concL_mono h a y ha, concL_mono h b z hb]; simpa [ha, hb] using e
  | .yield l, x, e => by
    simp only [conc] at e ⊢
    cases hi : σ l with
    | none => simp [hi] at e
    | some p => rw [h l p hi]; simpa [hi] using e
  | .nilFunc, x, e => by simpa [conc] using e
  | .iface t v, x, e => by
    simp only [conc] at e ⊢
    cases ha : conc σ v with
    | none => simp [ha] at e
    | some y => rw [conc_mono h v y ha]; simpa [ha] using e
  | .nilIface, x, e => by simpa [conc] using e
  | .agg cs, x, e => by
    simp only [conc] at e ⊢
    cases ha : concL σ cs with
    | none => simp [ha] at e
    | some y => rw [concL_mono h cs y ha]; simpa [ha] using e
  | .tuple cs, x, e => by
    simp only [conc] at e ⊢
    cases ha : concL σ cs with
    | none => simp [ha] at e
    | some y => rw [concL_mono h cs y ha]; simpa [ha] using e
theorem concL_mono {σ σ' : Sg} (h : Sub σ σ') : ∀ (l : List AV) (x : List Value), concL σ l = some x → concL σ' l = some x
  | [], x, e => by simpa [concL] using e
  | v :: l, x, e => by
    simp only [concL] at e ⊢
    cases ha : conc σ v with
    | none => simp [ha] at e
    | some y =>
      cases hb : concL σ l with
      | none => simp [ha, hb] at e
      | some z => rw [conc_mono h v y ha, concL_mono h l z hb]; simpa [ha, hb] using e
end

theorem concL_cons {σ : Sg} {v : AV} {l : List AV} {x : List Value} : concL σ (v :: l) = some x ↔ ∃ a b, conc σ v = some a ∧ concL σ l = some b ∧ x = a :: b := by
  simp only [concL]
  constructor
  · intro h
    cases ha : conc σ v with
    | none => simp [ha] at h
    | some a =>
      cases hb : concL σ l with
      | none => simp [ha, hb] at h
      | some b => simp [ha, hb] at h; exact ⟨a, b, rfl, rfl, h.symm⟩
  · rintro ⟨a, b, ha, hb, rfl⟩; simp [ha, hb]
theorem concL_nil {σ : Sg} {x : List Value} : concL σ [] = some x ↔ x = [] := by simp [concL, eq_comm]

theorem concL_length {σ : Sg} : ∀ {l : List AV} {x : List Value}, concL σ l = some x → x.length = l.length
  | [], x, h => by rw [concL_nil] at h; simp [h]
  | v :: l, x, h => by
    obtain ⟨a, b, _, hb, rfl⟩ := concL_cons.1 h
    simp [concL_length hb]
theorem concL_append {σ : Sg} : ∀ {l m : List AV} {x y : List Value}, concL σ l = some x → concL σ m = some y → concL σ (l ++ m) = some (x ++ y)
  | [], m, x, y, h, h' => by rw [concL_nil] at h; subst h; simpa using h'
  | v :: l, m, x, y, h, h' => by
    obtain ⟨a, b, ha, hb, rfl⟩ := concL_cons.1 h
    exact concL_cons.2 ⟨a, b ++ y, ha, concL_append hb h', rfl⟩

/-- place by place -/
theorem concL_nth {σ : Sg} : ∀ {l : List AV} {x : List Value} {n : Nat} {v : AV}, concL σ l = some x → nth l n = some v → ∃ a, x[n]? = some a ∧ conc σ v = some a
  | [], _, _, _, _, h => by simp [nth] at h
  | u :: l, x, n, v, h, hn => by
    obtain ⟨a, b, ha, hb, rfl⟩ := concL_cons.1 h
    cases n with
    | zero => simp [nth] at hn; subst hn; exact ⟨a, rfl, ha⟩
    | succ n => simp [nth] at hn; simpa using concL_nth hb hn

theorem takeN_eq {α : Type} : ∀ {n : Nat} {l r : List α}, takeN n l = some r → r = l.take n ∧ n ≤ l.length
  | 0, l, r, h => by simp [takeN] at h; simp [h.symm]
  | n + 1, [], r, h => by simp [takeN] at h
  | n + 1, a :: l, r, h => by
    simp only [takeN] at h
    cases hr : takeN n l with
    | none => simp [hr] at h
    | some r' =>
      simp [hr] at h
      obtain ⟨e, hle⟩ := takeN_eq hr
      exact ⟨by simp [← h, e], by simpa using hle⟩
theorem dropN_eq {α : Type} : ∀ (n : Nat) (l : List α), dropN n l = l.drop n
  | 0, l => by simp [dropN]
  | n + 1, [] => by simp [dropN]
  | n + 1, a :: l => by simp [dropN, dropN_eq n l]
theorem sub_eq {α : Type} {off n : Nat} {l r : List α} (h : sub off n l = some r) : r = (l.drop off).take n ∧ (off + n ≤ l.length ∨ n = 0) := by
  simp only [sub, dropN_eq] at h
  obtain ⟨e, hle⟩ := takeN_eq h
  refine ⟨e, ?_⟩
  simp at hle
  omega
theorem write_eq {α : Type} : ∀ {n : Nat} {vs l r : List α}, write n vs l = some r → (vs = [] ∧ r = l) ∨ (n + vs.length ≤ l.length ∧ r = l.take n ++ vs ++ l.drop (n + vs.length)) := by
  intro n vs l
  induction l generalizing n vs with
  | nil =>
    intro r h
    cases vs with
    | nil => simp [write] at h; exact .inl ⟨rfl, h⟩
    | cons v vs => simp [write] at h
  | cons a l ih =>
    intro r h
    cases vs with
    | nil => simp [write] at h; exact .inl ⟨rfl, h.symm⟩
    | cons v vs =>
      cases n with
      | zero =>
        simp only [write] at h
        cases hr : write 0 vs l with
        | none => simp [hr] at h
        | some r' =>
          simp [hr] at h
          subst h
          refine .inr ?_
          rcases ih hr with ⟨rfl, rfl⟩ | ⟨hle, rfl⟩
          · simp
          · simp at hle ⊢; omega
      | succ n =>
        simp only [write] at h
        cases hr : write n (v :: vs) l with
        | none => simp [hr] at h
        | some r' =>
          simp [hr] at h
          subst h
          rcases ih hr with ⟨h0, _⟩ | ⟨hle, rfl⟩
          · simp at h0
          · refine .inr ⟨by simp at hle ⊢; omega, ?_⟩
            have : n + 1 + (v :: vs).length = (n + (v :: vs).length) + 1 := by omega
            rw [this]; simp

theorem concL_take {σ : Sg} : ∀ {n : Nat} {l : List AV} {x : List Value}, concL σ l = some x → concL σ (l.take n) = some (x.take n)
  | 0, l, x, h => by simp [concL]
  | n + 1, [], x, h => by rw [concL_nil] at h; subst h; simp [concL]
  | n + 1, v :: l, x, h => by
    obtain ⟨a, b, ha, hb, rfl⟩ := concL_cons.1 h
    exact concL_cons.2 ⟨a, b.take n, ha, concL_take hb, rfl⟩
theorem concL_drop {σ : Sg} : ∀ {n : Nat} {l : List AV} {x : List Value}, concL σ l = some x → concL σ (l.drop n) = some (x.drop n)
  | 0, l, x, h => by simpa using h
  | n + 1, [], x, h => by rw [concL_nil] at h; subst h; simp [concL]
  | n + 1, v :: l, x, h => by
    obtain ⟨a, b, ha, hb, rfl⟩ := concL_cons.1 h
    simpa using concL_drop hb
theorem concL_sub {σ : Sg} {off n : Nat} {l r : List AV} {x : List Value} (h : concL σ l = some x) (e : sub off n l = some r) : concL σ r = some ((x.drop off).take n) := by
  obtain ⟨rfl, _⟩ := sub_eq e
  exact concL_take (concL_drop h)

theorem concL_rep {σ : Sg} {l : List AV} {x : List Value} (h : concL σ l = some x) : ∀ n, concL σ (rep n l) = some (rep n x)
  | 0 => by simp [rep, concL]
  | n + 1 => by simpa [rep] using concL_append h (concL_rep h n)

/-- constants -/
theorem conc_ofV1 {σ : Sg} {v : Value} {a : AV} (h : ofV1 v = some a) : conc σ a = some v := by
  cases v with
  | bool b => simp [ofV1] at h; subst h; simp [conc]
  | int k n => simp [ofV1] at h; subst h; simp [conc]
  | string s => simp [ofV1] at h; subst h; obtain ⟨⟨s⟩⟩ := s; simp [conc]
  | pointer a => cases a <;> simp [ofV1] at h; subst h; simp [conc]
  | slice a n c => cases a <;> simp [ofV1] at h; subst h; simp [conc]
  | map a => cases a <;> simp [ofV1] at h; subst h; simp [conc]
  | chan a => cases a <;> simp [ofV1] at h; subst h; simp [conc]
  | nilFunc => simp [ofV1] at h; subst h; simp [conc]
  | nilIface => simp [ofV1] at h; subst h; simp [conc]
  | _ => simp [ofV1] at h
theorem concL_ofV1s {σ : Sg} : ∀ {l : List Value} {a : List AV}, ofV1s l = some a → concL σ a = some l
  | [], a, h => by simp [ofV1s] at h; subst h; simp [concL]
  | v :: l, a, h => by
    simp only [ofV1s] at h
    cases hv : ofV1 v with
    | none => simp [hv] at h
    | some x =>
      cases hl : ofV1s l with
      | none => simp [hv, hl] at h
      | some y => simp [hv, hl] at h; subst h; exact concL_cons.2 ⟨v, l, conc_ofV1 hv, concL_ofV1s hl, rfl⟩
theorem conc_ofV {σ : Sg} {v : Value} {a : AV} (h : ofV v = some a) : conc σ a = some v := by
  cases v with
  | agg cs =>
    simp only [ofV] at h
    cases hl : ofV1s cs.toList with
    | none => simp [hl] at h
    | some l => simp [hl] at h; subst h; simp [conc, concL_ofV1s (σ := σ) hl]
  | _ => exact conc_ofV1 h

theorem conc_cells {σ : Sg} {v : AV} {x : Value} (h : conc σ v = some x) : concL σ v.cells = some x.cells.toList := by
  cases v with
  | agg cs =>
    simp only [conc] at h
    cases hl : concL σ cs with
    | none => simp [hl] at h
    | some l => simp [hl] at h; subst h; simpa [AV.cells, Value.cells] using hl
  | slice a n c =>
    have : x.cells = #[x] := by
      cases a with
      | none => cases c <;> simp [conc] at h; subst h; rfl
      | some p =>
        obtain ⟨i, o⟩ := p
        cases c <;> simp only [conc] at h
        · split at h <;> simp at h
          obtain ⟨_, h⟩ := h; subst h; rfl
        · split at h <;> simp at h
          subst h; rfl
    simp [AV.cells, this, concL, h]
  | tuple vs =>
    have hx : x.cells = #[x] := by
      simp only [conc] at h
      split at h <;> simp at h
      subst h; rfl
    simp [AV.cells, hx, concL, h]
  | bool b => simp [conc] at h; subst h; simp [AV.cells, Value.cells, concL, conc]
  | int k n => simp [conc] at h; subst h; simp [AV.cells, Value.cells, concL, conc]
  | str s => simp [conc] at h; subst h; simp [AV.cells, Value.cells, concL, conc]
  | nilFunc => simp [conc] at h; subst h; simp [AV.cells, Value.cells, concL, conc]
  | nilIface => simp [conc] at h; subst h; simp [AV.cells, Value.cells, concL, conc]
  | ptr a =>
    have hx : x.cells = #[x] := by
      rcases a with _ | ⟨i, o⟩
      · simp [conc] at h; subst h; rfl
      · simp only [conc] at h; split at h <;> simp at h; subst h; rfl
    simp [AV.cells, hx, concL, h]
  | map a =>
    have hx : x.cells = #[x] := by
      rcases a with _ | i
      · simp [conc] at h; subst h; rfl
      · simp only [conc] at h; split at h <;> simp at h; subst h; rfl
    simp [AV.cells, hx, concL, h]
  | chan a =>
    have hx : x.cells = #[x] := by
      rcases a with _ | i
      · simp [conc] at h; subst h; rfl
      · simp only [conc] at h; split at h <;> simp at h; subst h; rfl
    simp [AV.cells, hx, concL, h]
  | func f a b =>
    have hx : x.cells = #[x] := by simp only [conc] at h; split at h <;> simp at h; subst h; rfl
    simp [AV.cells, hx, concL, h]
  | yield l =>
    have hx : x.cells = #[x] := by simp only [conc] at h; split at h <;> simp at h; subst h; rfl
    simp [AV.cells, hx, concL, h]
  | iface t v =>
    have hx : x.cells = #[x] := by simp only [conc] at h; split at h <;> simp at h; subst h; rfl
    simp [AV.cells, hx, concL, h]

def oneC : Value → Bool
  | .agg _ => false
  | .tuple _ => false
  | _ => true
theorem conc_one {σ : Sg} {v : AV} {x : Value} (h : conc σ v = some x) (ho : v.one = true) : oneC x = true := by
  cases v with
  | agg cs => simp [AV.one] at ho
  | tuple cs => simp [AV.one] at ho
  | slice a n c =>
    cases a with
    | none => cases c <;> simp [conc] at h; subst h; rfl
    | some p =>
      obtain ⟨i, o⟩ := p
      cases c <;> simp only [conc] at h
      · split at h <;> simp at h
        obtain ⟨_, h⟩ := h; subst h; rfl
      · split at h <;> simp at h
        subst h; rfl
  | bool b => simp [conc] at h; subst h; rfl
  | int k n => simp [conc] at h; subst h; rfl
  | str s => simp [conc] at h; subst h; rfl
  | nilFunc => simp [conc] at h; subst h; rfl
  | nilIface => simp [conc] at h; subst h; rfl
  | ptr a =>
    rcases a with _ | ⟨i, o⟩
    · simp [conc] at h; subst h; rfl
    · simp only [conc] at h; split at h <;> simp at h; subst h; rfl
  | map a =>
    rcases a with _ | i
    · simp [conc] at h; subst h; rfl
    · simp only [conc] at h; split at h <;> simp at h; subst h; rfl
  | chan a =>
    rcases a with _ | i
    · simp [conc] at h; subst h; rfl
    · simp only [conc] at h; split at h <;> simp at h; subst h; rfl
  | func f a b => simp only [conc] at h; split at h <;> simp at h; subst h; rfl
  | yield l => simp only [conc] at h; split at h <;> simp at h; subst h; rfl
  | iface t v => simp only [conc] at h; split at h <;> simp at h; subst h; rfl

end Go.Ev
