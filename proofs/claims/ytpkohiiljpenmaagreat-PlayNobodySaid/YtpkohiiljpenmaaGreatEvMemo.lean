/- The evaluator's soundness: sorted keys of a map, answered out of a contract. -/
import Derived.Test.YtpkohiiljpenmaaGreatEvX
import Derived.Shelf.SlIter.Nil
import Derived.Shelf.SlIterI.Nil
import Derived.Test.YtpkohiiljpenmaaGreatEvZe
set_option linter.unusedSimpArgs false
set_option linter.unusedVariables false
namespace Go.Ev
open Go.RowKit Go.Maps Go.Sort Go.Proofs

/-! lists put in order -/
def insO {α : Type} (le : α → α → Bool) (x : α) : List α → List α
  | [] => [x]
  | y :: l => cond (le x y) (x :: y :: l) (y :: insO le x l)
def sortO {α : Type} (le : α → α → Bool) : List α → List α
  | [] => []
  | x :: l => insO le x (sortO le l)
theorem insO_perm {α : Type} (le : α → α → Bool) (x : α) : ∀ l, (insO le x l).Perm (x :: l)
  | [] => .refl _
  | y :: l => by
    simp only [insO]
    cases le x y with
    | true => exact .refl _
    | false => exact ((insO_perm le x l).cons y).trans (.swap x y l)
theorem sortO_perm {α : Type} (le : α → α → Bool) : ∀ l : List α, (sortO le l).Perm l
  | [] => .refl _
  | x :: l => (insO_perm le x _).trans ((sortO_perm le l).cons x)
section
variable {α : Type} {le : α → α → Bool} (tr : ∀ a b c, le a b = true → le b c = true → le a c = true) (to : ∀ a b, (le a b || le b a) = true)
include tr to
theorem insO_sorted (x : α) : ∀ l : List α, l.Pairwise (fun a b => le a b = true) → (insO le x l).Pairwise fun a b => le a b = true
  | [], _ => by simp [insO]
  | y :: l, h => by
    simp only [insO]
    have hy := List.pairwise_cons.1 h
    cases hxy : le x y with
    | true =>
      refine List.pairwise_cons.2 ⟨fun z hz => ?_, h⟩
      rcases List.mem_cons.1 hz with rfl | hz
      · exact hxy
      · exact tr _ _ _ hxy (hy.1 z hz)
    | false =>
      refine List.pairwise_cons.2 ⟨fun z hz => ?_, insO_sorted x l hy.2⟩
      rcases List.mem_cons.1 ((insO_perm le x l).mem_iff.1 hz) with rfl | hz
      · have := to z y; rw [hxy, Bool.false_or] at this; exact this
      · exact hy.1 z hz
theorem sortO_sorted : ∀ l : List α, (sortO le l).Pairwise fun a b => le a b = true
  | [] => List.Pairwise.nil
  | x :: l => insO_sorted tr to x _ (sortO_sorted l)
end

/-! stamps and keys of a map's entries -/
def leS (a b : List UInt8) : Bool := !ltL b a
def leZ (a b : Int) : Bool := !ltI b a
def strKs : List (AV × AV × Nat) → Option (List (List UInt8))
  | [] => some []
  | (.str s, _, _) :: l => (match strKs l with
    | some r => cond (Nat.ble s.length 1000000) (some (s :: r)) none
    | none => none)
  | _ => none
def intKs : List (AV × AV × Nat) → Option (List Int)
  | [] => some []
  | (.int .i64 n, _, _) :: l => (match intKs l with
    | some r => cond (inR .i64 n) (some (n :: r)) none
    | none => none)
  | _ => none
def noneOf {α : Type} (eq : α → α → Bool) (x : α) : List α → Bool
  | [] => true
  | y :: l => cond (eq x y) false (noneOf eq x l)
def apart {α : Type} (eq : α → α → Bool) : List α → Bool
  | [] => true
  | x :: l => cond (noneOf eq x l) (apart eq l) false
def bornsOf : List (AV × AV × Nat) → List Nat
  | [] => []
  | (_, _, b) :: l => b :: bornsOf l
def bornOk (c : Nat) : List Nat → Bool
  | [] => true
  | b :: l => cond (Nat.blt b c) (bornOk c l) false
def mapOf (g : FuncId) (args : List AV) (h : H) : Option (List (AV × AV × Nat) × Nat) :=
  match args with
  | [.func g' [] [.ptr (some (bx, 0))]] => cond (Nat.beq g' g) (match h.t.get bx with
    | some (.cells [.map (some r)] _ _ _) => (match h.t.get r with
      | some (.map es c) => cond (apart Nat.beq (bornsOf es) && bornOk c (bornsOf es) && Nat.ble es.length 1000000) (some (es, c)) none
      | _ => none)
    | _ => none) none
  | _ => none
def rowO (e : TypeId) (h : H) : List AV → Option (AV × H)
  | [] => some (.slice none 0 (some 0), h)
  | v :: l => fL (v :: l) fun cs => newO h (.cells cs e (some 1) true) fun j h => fN (v :: l).length fun n => some (.slice (some (j, 0)) n none, h)
/-- slices.Sorted of the keys (texts) of a map, by the iterator g; e: the type of an element -/
def sortedS (g : FuncId) (e : TypeId) (args : List AV) (h : H) : Option (AV × H) :=
  match mapOf g args h with
  | some (es, _) => (match strKs es with
    | some ks => cond (apart eqL ks) (rowO e h ((sortO leS ks).map .str)) none
    | none => none)
  | none => none
/-- .. (ints) -/
def sortedZ (g : FuncId) (e : TypeId) (args : List AV) (h : H) : Option (AV × H) :=
  match mapOf g args h with
  | some (es, _) => (match intKs es with
    | some ks => cond (apart eqI ks) (rowO e h ((sortO leZ ks).map (.int .i64))) none
    | none => none)
  | none => none

/-! what they are -/
theorem beqN {a b : Nat} : Nat.beq a b = true ↔ a = b := ⟨Nat.eq_of_beq_eq_true, fun h => h ▸ Nat.beq_refl a⟩
theorem ltL_lt : ∀ a b : List UInt8, ltL a b = true ↔ a < b
  | _, [] => by simp [ltL]
  | [], _ :: _ => by simp [ltL]
  | a :: x, b :: y => by
    have ih := ltL_lt x y
    simp only [ltL, List.cons_lt_cons_iff]
    have h1 : Nat.blt a.toNat b.toNat = true ↔ a < b := by
      rw [blt_true]; exact UInt8.lt_iff_toNat_lt.symm
    have h2 : Nat.beq a.toNat b.toNat = true ↔ a = b := by
      rw [beqN]; exact UInt8.toNat_inj
    cases hab : Nat.blt a.toNat b.toNat with
    | true => simp [h1.1 hab]
    | false =>
      have n1 : ¬ a < b := fun q => by rw [h1.2 q] at hab; cases hab
      cases he : Nat.beq a.toNat b.toNat with
      | true => simp [n1, h2.1 he, ih]
      | false =>
        have n2 : ¬ a = b := fun q => by rw [h2.2 q] at he; cases he
        simp [n1, n2]
theorem leS_eq (a b : List UInt8) : leS a b = leB a b := by
  unfold leS leB
  rw [Bool.eq_iff_iff]
  simp only [Bool.not_eq_true', decide_eq_true_eq]
  rw [← Bool.not_eq_true, ltL_lt, List.not_lt]
theorem eqL_iff : ∀ a b : List UInt8, eqL a b = true ↔ a = b
  | [], [] => by simp [eqL]
  | [], _ :: _ => by simp [eqL]
  | _ :: _, [] => by simp [eqL]
  | a :: x, b :: y => by
    simp only [eqL, List.cons.injEq]
    have h2 : Nat.beq a.toNat b.toNat = true ↔ a = b := by
      rw [beqN]; exact UInt8.toNat_inj
    cases he : Nat.beq a.toNat b.toNat with
    | true => simp [h2.1 he, eqL_iff x y]
    | false =>
      have n2 : ¬ a = b := fun q => by rw [h2.2 q] at he; cases he
      simp [n2]
theorem eqI_iff (a b : Int) : eqI a b = true ↔ a = b := by
  cases a with
  | ofNat m => cases b with
    | ofNat n => exact beqN.trans ⟨fun h => by rw [h], fun h => Int.ofNat.inj h⟩
    | negSucc n => simp [eqI]
  | negSucc m => cases b with
    | ofNat n => simp [eqI]
    | negSucc n => exact beqN.trans ⟨fun h => by rw [h], fun h => Int.negSucc.inj h⟩
theorem ltI_lt (a b : Int) : ltI a b = true ↔ a < b := by
  have e : ∀ n : Nat, Int.ofNat n = (n : Int) := fun _ => rfl
  cases a with
  | ofNat m => cases b with
    | ofNat n => rw [e, e]; exact blt_true.trans (by omega)
    | negSucc n => rw [e]; simp only [ltI]; constructor <;> intro h <;> first | cases h | omega
  | negSucc m => cases b with
    | ofNat n => exact ⟨fun _ => Int.lt_of_lt_of_le (Int.negSucc_lt_zero m) (Int.natCast_nonneg n), fun _ => rfl⟩
    | negSucc n =>
      refine blt_true.trans ?_
      rw [Int.negSucc_eq, Int.negSucc_eq]; omega
theorem leZ_eq (a b : Int) : leZ a b = leI a b := by
  unfold leZ leI
  rw [Bool.eq_iff_iff]
  simp only [Bool.not_eq_true', decide_eq_true_eq]
  rw [← Bool.not_eq_true, ltI_lt]
  omega
theorem apart_nodup {α : Type} {eq : α → α → Bool} (he : ∀ a b, eq a b = true ↔ a = b) : ∀ l : List α, apart eq l = true → l.Nodup
  | [], _ => List.nodup_nil
  | x :: l, h => by
    simp only [apart] at h
    have hn : ∀ m : List α, noneOf eq x m = true → x ∉ m := by
      intro m
      induction m with
      | nil => intro _ q; cases q
      | cons y m ih =>
        intro hm q
        simp only [noneOf] at hm
        cases hxy : eq x y with
        | true => rw [hxy] at hm; cases hm
        | false =>
          rw [hxy] at hm
          rcases List.mem_cons.1 q with rfl | q
          · rw [(he x x).2 rfl] at hxy; cases hxy
          · exact ih hm q
    cases hx : noneOf eq x l with
    | false => rw [hx] at h; cases h
    | true => rw [hx] at h; exact List.nodup_cons.2 ⟨hn l hx, apart_nodup he l h⟩
theorem bornOk_lt {c : Nat} : ∀ l : List Nat, bornOk c l = true → ∀ b ∈ l, b < c
  | [], _, _, q => by cases q
  | b :: l, h, b', q => by
    simp only [bornOk] at h
    cases hb : Nat.blt b c with
    | false => rw [hb] at h; cases h
    | true =>
      rw [hb] at h
      rcases List.mem_cons.1 q with rfl | q
      · exact blt_true.1 hb
      · exact bornOk_lt l h b' q

theorem sortS_eq {ss ks : List (List UInt8)} (hp : ss.Perm ks) : ss.mergeSort leB = sortO leS ks := by
  have tr : ∀ a b c : List UInt8, leB a b = true → leB b c = true → leB a c = true := fun a b c h1 h2 => by simp only [leB, decide_eq_true_eq] at *; exact List.le_trans h1 h2
  have to : ∀ a b : List UInt8, (leB a b || leB b a) = true := fun a b => by simp only [leB, Bool.or_eq_true, decide_eq_true_eq]; exact List.le_total a b
  have hS : (leS : List UInt8 → List UInt8 → Bool) = leB := funext fun a => funext fun b => leS_eq a b
  rw [hS]
  refine List.Perm.eq_of_pairwise (le := fun a b => leB a b = true) (fun a b _ _ h1 h2 => ?_) (List.pairwise_mergeSort tr to ss) (sortO_sorted tr to ks) ((List.mergeSort_perm ss leB).trans (hp.trans (sortO_perm leB ks).symm))
  simp only [leB, decide_eq_true_eq] at h1 h2
  exact List.le_antisymm h1 h2
theorem sortZ_eq {ss ks : List Int} (hp : ss.Perm ks) : ss.mergeSort leI = sortO leZ ks := by
  have tr : ∀ a b c : Int, leI a b = true → leI b c = true → leI a c = true := fun a b c h1 h2 => by simp only [leI, decide_eq_true_eq] at *; exact Int.le_trans h1 h2
  have to : ∀ a b : Int, (leI a b || leI b a) = true := fun a b => by simp only [leI, Bool.or_eq_true, decide_eq_true_eq]; exact Int.le_total a b
  have hS : (leZ : Int → Int → Bool) = leI := funext fun a => funext fun b => leZ_eq a b
  rw [hS]
  refine List.Perm.eq_of_pairwise (le := fun a b => leI a b = true) (fun a b _ _ h1 h2 => ?_) (List.pairwise_mergeSort tr to ss) (sortO_sorted tr to ks) ((List.mergeSort_perm ss leI).trans (hp.trans (sortO_perm leI ks).symm))
  simp only [leI, decide_eq_true_eq] at h1 h2
  exact Int.le_antisymm h1 h2

/-! a call that lays new blocks alone -/
theorem below_same {σ : Sg} {h : H} {w w' : World} (r : HRel σ h w.heap) (hb : Below w.heap.size w w') : HRel σ h w'.heap ∧ Ext σ h w σ h w' := by
  refine ⟨⟨r.fresh, fun i o hi => ?_, r.inj⟩, ⟨hb.os, hb.tape, hb.output, hb.size, Nat.le_refl _, fun _ _ => rfl, fun b hb' _ => hb.block b hb', fun i o _ c hi hs _ => ⟨i, o, c, hi, hs⟩⟩⟩
  obtain ⟨b, c, x, h1, h2, h3⟩ := r.objs i o hi
  exact ⟨b, c, x, h1, by rw [hb.block b (Array.getElem?_eq_some_iff.1 h2).1]; exact h2, h3⟩
theorem below_new {σ : Sg} {h : H} {w w' : World} (r : HRel σ h w.heap) (hb : Below w.heap.size w w') {gb cap : Nat} (hg : w.heap.size ≤ gb) {x : Obj} (hx : w'.heap[gb]? = some x) (o : AObj) (ho : ORel (upd σ h.next (gb, cap)) cap o x) :
    HRel (upd σ h.next (gb, cap)) ⟨h.next + 1, T.set (some o) h.t h.next⟩ w'.heap ∧ Ext σ h w (upd σ h.next (gb, cap)) ⟨h.next + 1, T.set (some o) h.t h.next⟩ w' := by
  have hsub : Sub σ (upd σ h.next (gb, cap)) := sub_upd _ (r.fresh _ (Nat.le_refl _))
  have hlt : ∀ i b c' o', h.t.get i = some o' → σ i = some (b, c') → b < w.heap.size := fun i b c' o' hi hs => by
    obtain ⟨b', c'', x', h1, h2, _⟩ := r.objs i o' hi
    rw [hs] at h1; cases h1
    exact (Array.getElem?_eq_some_iff.1 h2).1
  refine ⟨⟨fun i hi => ?_, fun i o' hi => ?_, fun i j o₁ o₂ b c₁ c₂ hi hj hsi hsj => ?_⟩, ⟨hb.os, hb.tape, hb.output, hb.size, by simp, fun i hi => ?_, fun b hb' _ => hb.block b hb', fun i o' b c' hi hs hb' => ?_⟩⟩
  · simp only at hi; rw [upd_ne σ _ (by omega)]; exact r.fresh i (by omega)
  · simp only [get_set] at hi
    by_cases e : i = h.next
    · subst e
      simp at hi; subst hi
      exact ⟨gb, cap, x, upd_self _ _ _, hx, ho⟩
    · simp [e] at hi
      obtain ⟨b, c', x', h1, h2, h3⟩ := r.objs i o' hi
      refine ⟨b, c', x', by rw [upd_ne σ _ e]; exact h1, ?_, h3.mono hsub⟩
      rw [hb.block b (hlt i b c' o' hi h1)]; exact h2
  · simp only [get_set] at hi hj
    by_cases ei : i = h.next <;> by_cases ej : j = h.next
    · omega
    · subst ei; simp [ej] at hj
      rw [upd_self] at hsi; rw [upd_ne σ _ ej] at hsj; cases hsi
      have := hlt j _ c₂ o₂ hj hsj; omega
    · subst ej; simp [ei] at hi
      rw [upd_self] at hsj; rw [upd_ne σ _ ei] at hsi; cases hsj
      have := hlt i _ c₁ o₁ hi hsi; omega
    · simp [ei] at hi; simp [ej] at hj
      rw [upd_ne σ _ ei] at hsi; rw [upd_ne σ _ ej] at hsj
      exact r.inj i j o₁ o₂ b c₁ c₂ hi hj hsi hsj
  · rw [upd_ne σ _ (by omega)]
  · simp only [get_set] at hi
    by_cases e : i = h.next
    · subst e; rw [upd_self] at hs; cases hs; omega
    · simp [e] at hi; rw [upd_ne σ _ e] at hs; exact ⟨i, o', c', hi, hs⟩

/-- a row that a call hands back -/
theorem rowO_sound {σ : Sg} {h h' : H} {w w' : World} {e : TypeId} {vs : List AV} {v : AV} (r : HRel σ h w.heap) (hb : Below w.heap.size w w') (hc : rowO e h vs = some (v, h'))
    {xs : List Value} (hvs : concL σ vs = some xs) {u : Value} (hrow : w'.ownsRow w.heap.size e 1 u vs.length xs) (hnil : u = .slice none 0 0 ↔ vs = []) :
    ∃ σ', conc σ' v = some u ∧ HRel σ' h' w'.heap ∧ Ext σ h w σ' h' w' := by
  cases vs with
  | nil =>
    simp only [rowO] at hc; cases hc
    obtain rfl := hnil.2 rfl
    exact ⟨σ, rfl, below_same r hb⟩
  | cons a l =>
    simp only [rowO, fL_eq, newO_eq, fN_eq] at hc; cases hc
    rcases hrow.2 with ⟨hu, hz⟩ | ⟨gb, cap, cur, hu, hbase, hgb, r1, r2, r3, r4⟩
    · exact absurd hz (by simp)
    · subst hu
      have hsub : Sub σ (upd σ h.next (gb, cap)) := sub_upd _ (r.fresh _ (Nat.le_refl _))
      obtain ⟨q1, q2⟩ := below_new r hb hbase hgb (.cells (a :: l) e (some 1) true) (cap := cap) ⟨xs, concL_mono hsub _ _ hvs, ⟨cur.toList.drop xs.length, by
          rw [← r4, Nat.mul_one]
          simp only [List.length_take, Array.length_toList]
          rw [Nat.min_eq_left (by omega), List.take_append_drop]⟩, rfl, r3, fun _ o ho q => by simp only at q; omega⟩
      refine ⟨_, ?_, q1, q2⟩
      simp only [conc, upd_self]
      rw [if_pos (by simpa using r1)]

/-! the keys of a map's entries -/
def R0 : Value → Option (DataW Unit × List MemPlace) := fun _ => some (.nil, [])

theorem strKs_spec {σ : Sg} {P : Program} {k : TypeId} (hk : P.underlying k = some .string) : ∀ {es : List (AV × AV × Nat)} {ks : List (List UInt8)} {l : List MapEntry}, strKs es = some ks → concE σ es = some l →
    l.map (·.key) = ks.map encStr ∧ (∀ x ∈ l, ∃ y, Go.WideElems.rd P k R0 x = some y) ∧ (l.map (Go.WideElems.rg P k R0)).map (fun p => strOf p.1) = ks ∧ l.map (·.born) = bornsOf es ∧ l.length = es.length
  | [], ks, l, h, hc => by
    simp only [strKs] at h; cases h
    simp only [concE] at hc; cases hc
    exact ⟨rfl, (fun x q => by cases q), rfl, rfl, rfl⟩
  | (a, v, b) :: es, ks, l, h, hc => by
    obtain ⟨key, val, l', h1, h2, h3, rfl⟩ := concE_cons.1 hc
    simp only at h1 h2
    cases a <;> simp only [strKs] at h <;> try (cases h; done)
    rename_i s
    cases hr : strKs es with
    | none => rw [hr] at h; cases h
    | some r =>
      rw [hr] at h; simp only at h
      cases hl : Nat.ble s.length 1000000 with
      | false => rw [hl] at h; cases h
      | true =>
        rw [hl] at h; cases h
        simp only [conc, Option.some.injEq] at h1
        subst h1
        obtain ⟨i1, i2, i3, i4, i5⟩ := strKs_spec hk hr h3
        have hlen : s.length ≤ maxLen := Nat.le_trans (Nat.le_of_ble_eq_true hl) (by decide)
        have hrd : Go.WideElems.rd P k R0 { key := .string ⟨⟨s⟩⟩, val := val, born := b } = some (.string s, .nil) := by
          have : keyOf P k (.string ⟨⟨s⟩⟩) = some (.string s) := by
            have hsz : (⟨⟨s⟩⟩ : ByteArray).size = s.length := rfl
            simp [keyOf, hk, mapKey, hsz, hlen]
          exact Go.WideElems.rd_mk this (show R0 val = some (DataW.nil, []) from rfl)
        refine ⟨by simp only [List.map_cons]; rw [i1], fun x q => ?_, ?_, by simp only [List.map_cons, bornsOf]; rw [i4], by simp [i5]⟩
        · rcases List.mem_cons.1 q with rfl | q
          · exact ⟨_, hrd⟩
          · exact i2 x q
        · simp only [List.map_cons]
          rw [i3, Go.WideElems.rg_of hrd]
          rfl
theorem intKs_spec {σ : Sg} {P : Program} {k : TypeId} (hk : P.underlying k = some (.int .i64)) : ∀ {es : List (AV × AV × Nat)} {ks : List Int} {l : List MapEntry}, intKs es = some ks → concE σ es = some l →
    l.map (·.key) = ks.map encZ ∧ (∀ x ∈ l, ∃ y, Go.WideElems.rd P k R0 x = some y) ∧ (l.map (Go.WideElems.rg P k R0)).map (fun p => intOf p.1) = ks ∧ l.map (·.born) = bornsOf es ∧ l.length = es.length
  | [], ks, l, h, hc => by
    simp only [intKs] at h; cases h
    simp only [concE] at hc; cases hc
    exact ⟨rfl, (fun x q => by cases q), rfl, rfl, rfl⟩
  | (a, v, b) :: es, ks, l, h, hc => by
    obtain ⟨key, val, l', h1, h2, h3, rfl⟩ := concE_cons.1 hc
    simp only at h1 h2
    cases a <;> try (simp only [intKs] at h; cases h; done)
    rename_i q n
    cases q <;> try (simp only [intKs] at h; cases h; done)
    simp only [intKs] at h
    cases hr : intKs es with
    | none => rw [hr] at h; cases h
    | some r =>
      rw [hr] at h; simp only at h
      cases hl : inR .i64 n with
      | false => rw [hl] at h; cases h
      | true =>
        rw [hl] at h; cases h
        simp only [conc, Option.some.injEq] at h1
        subst h1
        obtain ⟨i1, i2, i3, i4, i5⟩ := intKs_spec hk hr h3
        have hwf : (Lit.int .i64 n).wf = true := by
          cases n <;> simp only [inR] at hl <;> have := Nat.le_of_ble_eq_true hl <;> simp [Lit.wf, IntKind.min, IntKind.max, IntKind.bits, IntKind.signed] <;> omega
        have hrd : Go.WideElems.rd P k R0 { key := .int .i64 n, val := val, born := b } = some (.int .i64 n, .nil) :=
          Go.WideElems.rd_mk (keyOf_int_mk hk hwf) (show R0 val = some (DataW.nil, []) from rfl)
        refine ⟨by simp only [List.map_cons]; rw [i1], fun x q => ?_, ?_, by simp only [List.map_cons, bornsOf]; rw [i4], by simp [i5]⟩
        · rcases List.mem_cons.1 q with rfl | q
          · exact ⟨_, hrd⟩
          · exact i2 x q
        · simp only [List.map_cons]
          rw [i3, Go.WideElems.rg_of hrd]
          rfl

/-- the contract of slices.Sorted at the keys of a map, by the iterator g -/
def SortedS (P : Program) (f g : FuncId) (k e : TypeId) : Prop :=
  ∀ (R : Value → Option (DataW Unit × List MemPlace)) (Bm b nn : Nat) (D0 : DataW Unit) (w : World), Bm < w.heap.size → w.cell? ⟨Bm, 0, none⟩ = some (.map (some b)) → w.ownsMap P k R b nn D0 → Maps.size D0 ≤ maxLen → Maps.size D0 * 16 ≤ 140737488355328 →
    Calls P f #[.func (.func g) #[] #[.pointer (some ⟨Bm, 0, none⟩)]] w fun ed w' => ∃ (v : Value) (ss : List (List UInt8)), ed = .returned v ∧ ss.Perm (strKeys D0) ∧
      w'.ownsRow w.heap.size e 1 v ss.length ((ss.mergeSort leB).map encStr) ∧ (v = .slice none 0 0 ↔ ss = []) ∧ Below w.heap.size w w'
def SortedZ (P : Program) (f g : FuncId) (k e : TypeId) : Prop :=
  ∀ (R : Value → Option (DataW Unit × List MemPlace)) (Bm b nn : Nat) (D0 : DataW Unit) (w : World), Bm < w.heap.size → w.cell? ⟨Bm, 0, none⟩ = some (.map (some b)) → w.ownsMap P k R b nn D0 → Maps.size D0 ≤ maxLen → Maps.size D0 * 8 ≤ 140737488355328 →
    Calls P f #[.func (.func g) #[] #[.pointer (some ⟨Bm, 0, none⟩)]] w fun ed w' => ∃ (v : Value) (ss : List Int), ed = .returned v ∧ ss.Perm (intKeys D0) ∧
      w'.ownsRow w.heap.size e 1 v ss.length ((ss.mergeSort leI).map encZ) ∧ (v = .slice none 0 0 ↔ ss = []) ∧ Below w.heap.size w w'

/-- a map that an iterator's box holds -/
theorem mapOf_sound {σ : Sg} {g : FuncId} {args : List AV} {xs : List Value} {h : H} {w : World} {es : List (AV × AV × Nat)} {c : Nat} (hx : concL σ args = some xs) (r : HRel σ h w.heap) (hm : mapOf g args h = some (es, c)) :
    ∃ (B b : Nat) (es' : Array MapEntry), xs = [.func (.func g) #[] #[.pointer (some ⟨B, 0, none⟩)]] ∧ B < w.heap.size ∧ w.cell? ⟨B, 0, none⟩ = some (.map (some b)) ∧ w.heap[b]? = some (.map es' c) ∧ concE σ es = some es'.toList ∧
      (bornsOf es).Nodup ∧ (∀ x ∈ bornsOf es, x < c) ∧ es.length ≤ 1000000 := by
  unfold mapOf at hm
  split at hm
  · rename_i g' bx
    cases hg : Nat.beq g' g with
    | false => rw [hg] at hm; cases hm
    | true =>
      rw [hg] at hm; simp only [cond_true] at hm
      obtain rfl := Nat.eq_of_beq_eq_true hg
      split at hm
      · rename_i rr t ext wr hbx
        split at hm
        · rename_i es0 c0 hr
          cases hok : apart Nat.beq (bornsOf es0) && bornOk c0 (bornsOf es0) && Nat.ble es0.length 1000000 with
          | false => rw [hok] at hm; cases hm
          | true =>
            rw [hok] at hm; cases hm
            simp only [Bool.and_eq_true] at hok
            obtain ⟨⟨k1, k2⟩, k3⟩ := hok
            obtain ⟨x, rfl, h1⟩ : ∃ x, xs = [x] ∧ conc σ (.func g' [] [.ptr (some (bx, 0))]) = some x := by
              obtain ⟨a, b, p1, p2, rfl⟩ := concL_cons.1 hx
              rw [concL_nil] at p2; subst p2
              exact ⟨a, rfl, p1⟩
            obtain ⟨B, cB, ob, s1, s2, s3⟩ := r.objs _ _ hbx
            simp only [conc, concL, s1, Option.some.injEq] at h1
            subst h1
            cases ob <;> simp only [ORel] at s3
            rename_i cells' e' fz
            obtain ⟨l, l1, ⟨rest, l2⟩, _⟩ := s3
            obtain ⟨a, b', p1, p2, rfl⟩ := concL_cons.1 l1
            rw [concL_nil] at p2; subst p2
            obtain ⟨b, cb, oB, t1, t2, t3⟩ := r.objs _ _ hr
            simp only [conc, t1, Option.some.injEq] at p1
            subst p1
            cases oB <;> simp only [ORel] at t3
            rename_i es' c'
            obtain ⟨rfl, t3⟩ := t3
            have h0 : cells'[0]? = some (.map (some b)) := by
              rw [← Array.getElem?_toList, l2]; rfl
            exact ⟨B, b, es', rfl, (Array.getElem?_eq_some_iff.1 s2).1, by simp [World.cell?, s2, h0], t2, t3, apart_nodup (fun a b => beqN) _ k1, bornOk_lt _ k2, Nat.le_of_ble_eq_true k3⟩
        · cases hm
      · cases hm
  · cases hm

theorem orcS {P : Program} {f g : FuncId} {k e : TypeId} (hk : P.underlying k = some .string) (hS : SortedS P f g k e) : OrcOk P f (sortedS g e) := by
  intro σ args xs h w v h' hx r hc
  unfold sortedS at hc
  split at hc
  · rename_i es c hm
    split at hc
    · rename_i ks hks
      cases hap : apart eqL ks with
      | false => rw [hap] at hc; cases hc
      | true =>
        rw [hap] at hc; simp only [cond_true] at hc
        obtain ⟨B, b, es', rfl, hB, hcell, hb, hce, hbn, hbl, hlen⟩ := mapOf_sound hx r hm
        obtain ⟨i1, i2, i3, i4, i5⟩ := strKs_spec hk hks hce
        have hsz : es'.size = es.length := by rw [← Array.length_toList]; exact i5
        have hmx : es'.size ≤ maxLen := by rw [hsz]; exact Nat.le_trans hlen (by decide)
        have hown : w.ownsMap P k R0 b es'.size (.map ((es'.toList.map (Go.WideElems.rg P k R0)).foldr DataW.insert [])) :=
          ⟨es', c, hb, ⟨hmx, ⟨fun x q => hbl _ (by rw [← i4]; exact List.mem_map_of_mem q), by rw [i4]; exact hbn, by
            rw [i1]
            refine List.pairwise_map.2 ((apart_nodup eqL_iff ks hap).imp fun hne q => hne (encStr_inj q))⟩, i2⟩, Nat.le_refl _, rfl⟩
        have hS0 : Maps.size (H := Unit) (.map ((es'.toList.map (Go.WideElems.rg P k R0)).foldr DataW.insert [])) = es'.size := by
          rw [Maps.size_eq, length_sorted]; simp
        refine (hS R0 B b _ _ w hB hcell hown (by rw [hS0]; exact hmx) (by rw [hS0, hsz]; omega)).mono ?_
        rintro ed w' ⟨u, ss, rfl, hperm, hrow, hnil, hbel⟩
        have hp : ss.Perm ks := by
          refine hperm.trans ?_
          rw [← i3]
          exact (Go.WideShapes.sorted_perm _).map _
        rw [sortS_eq hp] at hrow
        have hl1 : ((sortO leS ks).map AV.str).length = ss.length := by
          rw [List.length_map, (sortO_perm leS ks).length_eq, hp.length_eq]
        have hcv : ∀ l : List (List UInt8), concL σ (l.map AV.str) = some (l.map encStr) := by
          intro l
          induction l with
          | nil => rfl
          | cons s l ih => exact concL_cons.2 ⟨_, _, rfl, ih, rfl⟩
        obtain ⟨σ', q1, q2, q3⟩ := rowO_sound r hbel hc (hcv _) (by rw [hl1]; exact hrow) (hnil.trans (by
          rw [← List.length_eq_zero_iff, ← hl1, List.length_eq_zero_iff]))
        exact ⟨σ', u, rfl, q1, q2, q3⟩
    · cases hc
  · cases hc

theorem orcZ {P : Program} {f g : FuncId} {k e : TypeId} (hk : P.underlying k = some (.int .i64)) (hS : SortedZ P f g k e) : OrcOk P f (sortedZ g e) := by
  intro σ args xs h w v h' hx r hc
  unfold sortedZ at hc
  split at hc
  · rename_i es c hm
    split at hc
    · rename_i ks hks
      cases hap : apart eqI ks with
      | false => rw [hap] at hc; cases hc
      | true =>
        rw [hap] at hc; simp only [cond_true] at hc
        obtain ⟨B, b, es', rfl, hB, hcell, hb, hce, hbn, hbl, hlen⟩ := mapOf_sound hx r hm
        obtain ⟨i1, i2, i3, i4, i5⟩ := intKs_spec hk hks hce
        have hsz : es'.size = es.length := by rw [← Array.length_toList]; exact i5
        have hmx : es'.size ≤ maxLen := by rw [hsz]; exact Nat.le_trans hlen (by decide)
        have hown : w.ownsMap P k R0 b es'.size (.map ((es'.toList.map (Go.WideElems.rg P k R0)).foldr DataW.insert [])) :=
          ⟨es', c, hb, ⟨hmx, ⟨fun x q => hbl _ (by rw [← i4]; exact List.mem_map_of_mem q), by rw [i4]; exact hbn, by
            rw [i1]
            refine List.pairwise_map.2 ((apart_nodup eqI_iff ks hap).imp fun hne q => hne (encZ_inj q))⟩, i2⟩, Nat.le_refl _, rfl⟩
        have hS0 : Maps.size (H := Unit) (.map ((es'.toList.map (Go.WideElems.rg P k R0)).foldr DataW.insert [])) = es'.size := by
          rw [Maps.size_eq, length_sorted]; simp
        refine (hS R0 B b _ _ w hB hcell hown (by rw [hS0]; exact hmx) (by rw [hS0, hsz]; omega)).mono ?_
        rintro ed w' ⟨u, ss, rfl, hperm, hrow, hnil, hbel⟩
        have hp : ss.Perm ks := by
          refine hperm.trans ?_
          rw [← i3]
          exact (Go.WideShapes.sorted_perm _).map _
        rw [sortZ_eq hp] at hrow
        have hl1 : ((sortO leZ ks).map (AV.int .i64)).length = ss.length := by
          rw [List.length_map, (sortO_perm leZ ks).length_eq, hp.length_eq]
        have hcv : ∀ l : List Int, concL σ (l.map (AV.int .i64)) = some (l.map encZ) := by
          intro l
          induction l with
          | nil => rfl
          | cons s l ih => exact concL_cons.2 ⟨_, _, rfl, ih, rfl⟩
        obtain ⟨σ', q1, q2, q3⟩ := rowO_sound r hbel hc (hcv _) (by rw [hl1]; exact hrow) (hnil.trans (by
          rw [← List.length_eq_zero_iff, ← hl1, List.length_eq_zero_iff]))
        exact ⟨σ', u, rfl, q1, q2, q3⟩
    · cases hc
  · cases hc

end Go.Ev
/- The evaluator's soundness: the numbers that a folder still has, answered out of a contract. -/
set_option linter.unusedSimpArgs false
set_option linter.unusedVariables false
namespace Go.Ev
open Go.RowKit Go.Maps Go.Sort Go.Proofs

def valZs : List (AV × AV × Nat) → Option (List Int)
  | [] => some []
  | (_, .int .i64 n, _) :: l => (match valZs l with
    | some r => cond (inR .i64 n) (some (n :: r)) none
    | none => none)
  | _ => none
/-- of cells of changes (five each): the numbers that come -/
def waitZs : Nat → List AV → Option (List Int)
  | 0, _ => some []
  | n + 1, .bool _ :: .str _ :: .bool p :: .str _ :: .int .i64 k :: l => (match waitZs n l with
    | some r => cond (inR .i64 k) (cond p (some (k :: r)) (some r)) none
    | none => none)
  | _, _ => none
def addO (x : Int) (l : List Int) : List Int := cond (noneOf eqI x l) (x :: l) l
def setO : List Int → List Int
  | [] => []
  | x :: l => addO x (setO l)
def waitsA (wa : Option (Nat × Nat)) (n : Nat) (h : H) : Option (List Int) :=
  match wa with
  | none => (match n with
    | 0 => some []
    | _ + 1 => none)
  | some (j, q) => (match h.t.get j with
    | some (.cells ws _ _ _) => waitZs n (dropN q ws)
    | _ => none)
def keptA (r : Nat) (h : H) : Option (List Int) :=
  match h.t.get r with
  | some (.map es c) => cond (apart Nat.beq (bornsOf es) && bornOk c (bornsOf es) && Nat.ble es.length 1000000) (match strKs es, valZs es with
    | some ks, some vs => cond (apart eqL ks) (some vs) none
    | _, _ => none) none
  | _ => none
/-- (*Folder).IDs -/
def idsA (e : TypeId) (args : List AV) (h : H) : Option (AV × H) :=
  match args with
  | [.ptr (some (i, o))] => (match h.t.get i with
    | some (.cells cs _ _ _) => (match sub o 4 cs with
      | some [.map (some r), .map _, .slice wa n _, .bool true] => cond (Nat.ble n 1000000) (match keptA r h, waitsA wa n h with
        | some vs, some us => rowO e h ((sortO leZ (setO (vs ++ us))).map (.int .i64))
        | _, _ => none) none
      | _ => none)
    | _ => none)
  | _ => none

/-! the contract -/
def IdsPost (e : TypeId) (D : DataW Unit) (pu : Nat → Bool) (id : Nat → Int) (wn : Nat) (w : World) (ed : Ending) (w' : World) : Prop :=
  ∃ (v : Value) (ss : List Int), ed = .returned v ∧ w'.ownsRow w.heap.size e 1 v ss.length ((ss.mergeSort leI).map encZ) ∧ (v = .slice none 0 0 ↔ ss = []) ∧ ss.Nodup ∧
    (∀ x, x ∈ ss ↔ (∃ kl, ∀ zd, D.atKey kl zd = .lit (.int .i64 x)) ∨ ∃ j, j < wn ∧ pu j = true ∧ id j = x) ∧ Below w.heap.size w w'
def IdsC (P : Program) (f : FuncId) (kS kI e : TypeId) : Prop :=
  ∀ (B o b nn wb wo wn wc : Nat) (wa : Option Addr) (D : DataW Unit) (dr pu : Nat → Bool) (go co : Nat → ByteArray) (id : Nat → Int) (w : World),
    w.cell? ⟨B, o, none⟩ = some (.map (some b)) → w.cell? ⟨B, o + 2, none⟩ = some (.slice wa wn wc) → w.cell? ⟨B, o + 3, none⟩ = some (.bool true) →
    w.ownsMap P kS (plainElem P kI) b nn D → nn ≤ 1000000 → wn ≤ 1000000 → B < w.heap.size → (0 < wn → wb < w.heap.size) → (0 < wn → wa = some ⟨wb, wo, none⟩) →
    (∀ k, k < wn → w.cell? ⟨wb, wo + k * 5, none⟩ = some (.bool (dr k)) ∧ w.cell? ⟨wb, wo + k * 5 + 1, none⟩ = some (.string (go k)) ∧ w.cell? ⟨wb, wo + k * 5 + 2, none⟩ = some (.bool (pu k)) ∧
      w.cell? ⟨wb, wo + k * 5 + 3, none⟩ = some (.string (co k)) ∧ w.cell? ⟨wb, wo + k * 5 + 4, none⟩ = some (.int .i64 (id k)) ∧ (Lit.int .i64 (id k)).wf = true) →
    Calls P f #[.pointer (some ⟨B, o, none⟩)] w (IdsPost e D pu id wn w)

/-! what the lists are -/
theorem noneOf_iff {α : Type} {eq : α → α → Bool} (he : ∀ a b, eq a b = true ↔ a = b) (x : α) : ∀ l : List α, noneOf eq x l = true ↔ x ∉ l
  | [] => by simp [noneOf]
  | y :: l => by
    have ih := noneOf_iff he x l
    simp only [noneOf]
    cases hxy : eq x y with
    | true => simp [(he x y).1 hxy]
    | false =>
      have hne : x ≠ y := fun q => by rw [(he x y).2 q] at hxy; cases hxy
      simp [ih, hne]
theorem mem_addO (x z : Int) (l : List Int) : z ∈ addO x l ↔ z = x ∨ z ∈ l := by
  unfold addO
  cases h : noneOf eqI x l with
  | true => simp
  | false =>
    simp only [cond_false]
    refine ⟨.inr, fun q => ?_⟩
    rcases q with rfl | q
    · exact Classical.byContradiction fun hn => by rw [(noneOf_iff eqI_iff z l).2 hn] at h; cases h
    · exact q
theorem mem_setO (z : Int) : ∀ l : List Int, z ∈ setO l ↔ z ∈ l
  | [] => .rfl
  | x :: l => by simp only [setO, mem_addO, mem_setO z l, List.mem_cons]
theorem nodup_setO : ∀ l : List Int, (setO l).Nodup
  | [] => List.nodup_nil
  | x :: l => by
    simp only [setO, addO]
    cases h : noneOf eqI x (setO l) with
    | true => exact List.nodup_cons.2 ⟨(noneOf_iff eqI_iff x _).1 h, nodup_setO l⟩
    | false => exact nodup_setO l

theorem inR_wf {n : Int} (hl : inR .i64 n = true) : (Lit.int .i64 n).wf = true := by
  cases n <;> simp only [inR] at hl <;> have := Nat.le_of_ble_eq_true hl <;> simp [Lit.wf, IntKind.min, IntKind.max, IntKind.bits, IntKind.signed] <;> omega

theorem waitZs_spec {σ : Sg} : ∀ (n : Nat) (l : List AV) (x : List Value) (us : List Int), waitZs n l = some us → concL σ l = some x →
    ∃ (dr pu : Nat → Bool) (go co : Nat → ByteArray) (id : Nat → Int), (∀ k, k < n → x[k * 5]? = some (.bool (dr k)) ∧ x[k * 5 + 1]? = some (.string (go k)) ∧ x[k * 5 + 2]? = some (.bool (pu k)) ∧
      x[k * 5 + 3]? = some (.string (co k)) ∧ x[k * 5 + 4]? = some (.int .i64 (id k)) ∧ (Lit.int .i64 (id k)).wf = true) ∧ ∀ z, z ∈ us ↔ ∃ j, j < n ∧ pu j = true ∧ id j = z
  | 0, l, x, us, h, _ => by
    simp only [waitZs] at h; cases h
    exact ⟨fun _ => false, fun _ => false, fun _ => .empty, fun _ => .empty, fun _ => 0, fun k hk => by omega, fun z => ⟨fun q => (by cases q), fun ⟨j, hj, _⟩ => by omega⟩⟩
  | n + 1, l, x, us, h, hx => by
    unfold waitZs at h
    split at h
    · cases ‹n + 1 = 0›
    · rename_i n' d g p c k l' e
      cases e
      obtain ⟨x0, r0, a0, b0, rfl⟩ := concL_cons.1 hx
      obtain ⟨x1, r1, a1, b1, rfl⟩ := concL_cons.1 b0
      obtain ⟨x2, r2, a2, b2, rfl⟩ := concL_cons.1 b1
      obtain ⟨x3, r3, a3, b3, rfl⟩ := concL_cons.1 b2
      obtain ⟨x4, r4, a4, b4, rfl⟩ := concL_cons.1 b3
      simp only [conc, Option.some.injEq] at a0 a1 a2 a3 a4
      subst a0 a1 a2 a3 a4
      cases hr : waitZs n l' with
      | none => rw [hr] at h; cases h
      | some r =>
        rw [hr] at h; simp only at h
        cases hk : inR .i64 k with
        | false => rw [hk] at h; cases h
        | true =>
          rw [hk] at h; simp only [cond_true] at h
          obtain ⟨dr, pu, go, co, id, f1, f2⟩ := waitZs_spec n l' r4 r hr b4
          refine ⟨fun | 0 => d | j + 1 => dr j, fun | 0 => p | j + 1 => pu j, fun | 0 => ⟨⟨g⟩⟩ | j + 1 => go j, fun | 0 => ⟨⟨c⟩⟩ | j + 1 => co j, fun | 0 => k | j + 1 => id j, fun j hj => ?_, fun z => ?_⟩
          · cases j with
            | zero => exact ⟨rfl, rfl, rfl, rfl, rfl, inR_wf hk⟩
            | succ j =>
              have e : (j + 1) * 5 = j * 5 + 5 := by omega
              rw [e]
              obtain ⟨q0, q1, q2, q3, q4, q5⟩ := f1 j (by omega)
              exact ⟨q0, q1, q2, q3, q4, q5⟩
          · have hin : z ∈ us ↔ (p = true ∧ k = z) ∨ z ∈ r := by
              cases p with
              | true => simp only [cond_true] at h; cases h; simp [eq_comm]
              | false => simp only [cond_false] at h; cases h; simp
            rw [hin, f2 z]
            constructor
            · rintro (⟨q1, q2⟩ | ⟨j, hj, q⟩)
              · exact ⟨0, by omega, q1, q2⟩
              · exact ⟨j + 1, by omega, q⟩
            · rintro ⟨j, hj, q1, q2⟩
              cases j with
              | zero => exact .inl ⟨q1, q2⟩
              | succ j => exact .inr ⟨j, by omega, q1, q2⟩
    · cases h

theorem valZs_spec {σ : Sg} {P : Program} {kS kI : TypeId} (hk : P.underlying kS = some .string) (hi : P.underlying kI = some (.int .i64)) : ∀ {es : List (AV × AV × Nat)} {ks : List (List UInt8)} {vs : List Int} {l : List MapEntry},
    strKs es = some ks → valZs es = some vs → concE σ es = some l →
    (∀ x ∈ l, ∃ (s : List UInt8) (n : Int), x.key = encStr s ∧ x.val = .int .i64 n ∧ Go.WideElems.rd (H := Unit) P kS (plainElem P kI) x = some (.string s, .lit (.int .i64 n))) ∧ l.map (·.val) = vs.map encZ
  | [], ks, vs, l, _, h, hc => by
    simp only [valZs] at h; cases h
    simp only [concE] at hc; cases hc
    exact ⟨(fun x q => by cases q), rfl⟩
  | (a, v, b) :: es, ks, vs, l, h1, h2, hc => by
    obtain ⟨key, val, l', c1, c2, c3, rfl⟩ := concE_cons.1 hc
    simp only at c1 c2
    cases a <;> simp only [strKs] at h1 <;> try (cases h1; done)
    rename_i s
    cases v <;> try (simp only [valZs] at h2; cases h2; done)
    rename_i q n
    cases q <;> try (simp only [valZs] at h2; cases h2; done)
    simp only [valZs] at h2
    cases hr : strKs es with
    | none => rw [hr] at h1; cases h1
    | some r =>
      rw [hr] at h1; simp only at h1
      cases hl : Nat.ble s.length 1000000 with
      | false => rw [hl] at h1; cases h1
      | true =>
        rw [hl] at h1; cases h1
        cases hv : valZs es with
        | none => rw [hv] at h2; cases h2
        | some vr =>
          rw [hv] at h2; simp only at h2
          cases hn : inR .i64 n with
          | false => rw [hn] at h2; cases h2
          | true =>
            rw [hn] at h2; cases h2
            simp only [conc, Option.some.injEq] at c1 c2
            subst c1 c2
            obtain ⟨i1, i2⟩ := valZs_spec hk hi hr hv c3
            have hlen : s.length ≤ maxLen := Nat.le_trans (Nat.le_of_ble_eq_true hl) (by decide)
            have hrd : Go.WideElems.rd (H := Unit) P kS (plainElem P kI) { key := .string ⟨⟨s⟩⟩, val := .int .i64 n, born := b } = some (.string s, .lit (.int .i64 n)) := by
              have : keyOf P kS (.string ⟨⟨s⟩⟩) = some (.string s) := by
                have hsz : (⟨⟨s⟩⟩ : ByteArray).size = s.length := rfl
                simp [keyOf, hk, mapKey, hsz, hlen]
              exact Go.WideElems.rd_mk this (plainElem_int hi (inR_wf hn))
            refine ⟨fun x q => ?_, by simp only [List.map_cons]; rw [i2]⟩
            rcases List.mem_cons.1 q with rfl | q
            · exact ⟨s, n, rfl, rfl, hrd⟩
            · exact i1 x q

/-- what a map of numbers holds -/
theorem atKey_vals {P : Program} {kS kI t : TypeId} {w : World} {b : Nat} {es : Array MapEntry} {c : Nat} (K : Keyed P kS) (ht : P.underlying t = some (.map kS kI)) {z : Value} (hz : (zeroValue kI).run P w = .ok z w) (hb : w.heap[b]? = some (.map es c))
    (F : Go.WideElems.Fit P kS (plainElem (H := Unit) P kI) es c) (hv : ∀ x ∈ es.toList, ∃ (s : List UInt8) (n : Int), x.key = encStr s ∧ x.val = .int .i64 n ∧ Go.WideElems.rd (H := Unit) P kS (plainElem P kI) x = some (.string s, .lit (.int .i64 n))) (n : Int) :
    (∃ kl, ∀ zd : DataW Unit, (DataW.map ((es.toList.map (Go.WideElems.rg P kS (plainElem P kI))).foldr DataW.insert [])).atKey kl zd = .lit (.int .i64 n)) ↔ Value.int .i64 n ∈ es.toList.map (·.val) := by
  have fwd : ∀ x ∈ es.toList, ∀ (s : List UInt8) (m : Int), x.key = encStr s → x.val = .int .i64 m → Go.WideElems.rd (H := Unit) P kS (plainElem P kI) x = some (.string s, .lit (.int .i64 m)) →
      ∀ zd : DataW Unit, (DataW.map ((es.toList.map (Go.WideElems.rg P kS (plainElem P kI))).foldr DataW.insert [])).atKey (.string s) zd = .lit (.int .i64 m) := by
    intro x hx s m hks hvs hrd zd
    have hkey : keyOf P kS x.key = some (.string s) := Go.WideElems.rd_key hrd
    rcases Maps.fit_look false K ht hz hb F hkey with ⟨_, hno, _⟩ | ⟨e0, y, he0, hek, _, hRv, hat, _⟩
    · exact absurd rfl (hno x hx)
    · have : e0 = x := by
        have hnd := F.stamped.2.2
        exact Go.entry_eq_of_key (List.pairwise_map.1 hnd) he0 hx hek
      subst this
      rw [hat zd]
      obtain ⟨z', hz', he⟩ := Go.WideElems.rd_val hrd
      rw [hRv] at hz'; cases hz'
      exact he.symm
  constructor
  · rintro ⟨kl, h⟩
    have hh := has_true_of_atKey h
    obtain ⟨p, hp, hpk⟩ := List.any_eq_true.1 hh
    obtain ⟨x, hx, rfl⟩ := List.mem_map.1 ((Go.WideShapes.sorted_perm _).mem_iff.1 hp)
    obtain ⟨s, m, h1, h2, h3⟩ := hv x hx
    rw [Go.WideElems.rg_of h3] at hpk
    have := WideAt.sameKey_eq hpk
    subst this
    have e := (h .nil).symm.trans (fwd x hx s m h1 h2 h3 .nil)
    simp at e
    subst e
    exact List.mem_map.2 ⟨x, hx, h2⟩
  · intro h
    obtain ⟨x, hx, hxv⟩ := List.mem_map.1 h
    obtain ⟨s, m, h1, h2, h3⟩ := hv x hx
    rw [h2] at hxv
    cases hxv
    exact ⟨.string s, fwd x hx s n h1 h2 h3⟩

theorem cell_ofL {w : World} {b : Nat} {cs : Array Value} {t : TypeId} {fz : Nat × Nat} (h : w.heap[b]? = some (.cells cs t fz)) {l rest : List Value} (hl : cs.toList = l ++ rest) {i : Nat} {v : Value} (hi : l[i]? = some v) : w.cell? ⟨b, i, none⟩ = some v := by
  have : cs[i]? = some v := by
    rw [← Array.getElem?_toList, hl, List.getElem?_append_left (List.getElem?_eq_some_iff.1 hi).1]; exact hi
  simp [World.cell?, h, this]

theorem orcIds {P : Program} {f : FuncId} {t kS kI e : TypeId} (hk : P.underlying kS = some .string) (hi : P.underlying kI = some (.int .i64)) (ht : P.underlying t = some (.map kS kI)) (hz : ∀ w, ∃ z, (zeroValue kI).run P w = .ok z w)
    (hC : IdsC P f kS kI e) : OrcOk P f (idsA e) := by
  intro σ args xs h w v h' hx r hc
  unfold idsA at hc
  split at hc
  · rename_i i o
    split at hc
    · rename_i cs et ext wr hgi
      split at hc
      · rename_i rr m2 wa n wcap hsub
        cases hn : Nat.ble n 1000000 with
        | false => rw [hn] at hc; cases hc
        | true =>
          rw [hn] at hc; simp only [cond_true] at hc
          split at hc
          · rename_i vs us hkept hwait
            -- the folder's cells
            obtain ⟨x, rfl, h1⟩ : ∃ x, xs = [x] ∧ conc σ (.ptr (some (i, o))) = some x := by
              obtain ⟨a, b, p1, p2, rfl⟩ := concL_cons.1 hx
              rw [concL_nil] at p2; subst p2
              exact ⟨a, rfl, p1⟩
            obtain ⟨B, cB, ob, s1, s2, s3⟩ := r.objs _ _ hgi
            simp only [conc, s1, Option.some.injEq] at h1
            subst h1
            cases ob <;> simp only [ORel] at s3
            rename_i cells' e' fz
            obtain ⟨l, l1, ⟨rest, l2⟩, _⟩ := s3
            have hq := concL_sub l1 hsub
            obtain ⟨y0, r0, a0, b0, q0⟩ := concL_cons.1 hq
            obtain ⟨y1, r1, a1, b1, rfl⟩ := concL_cons.1 b0
            obtain ⟨y2, r2, a2, b2, rfl⟩ := concL_cons.1 b1
            obtain ⟨y3, r3, a3, b3, rfl⟩ := concL_cons.1 b2
            have hat : ∀ (j : Nat) (u : Value), (y0 :: y1 :: y2 :: y3 :: r3)[j]? = some u → l[o + j]? = some u := fun j u hu => by
              rw [← q0, List.getElem?_take] at hu
              split at hu
              · rw [← hu, List.getElem?_drop]
              · cases hu
            simp only [conc, Option.some.injEq] at a3
            subst a3
            -- the map of what is kept
            unfold keptA at hkept
            split at hkept
            · rename_i es c hgr
              cases hok : apart Nat.beq (bornsOf es) && bornOk c (bornsOf es) && Nat.ble es.length 1000000 with
              | false => rw [hok] at hkept; cases hkept
              | true =>
                rw [hok] at hkept; simp only [cond_true] at hkept
                simp only [Bool.and_eq_true] at hok
                obtain ⟨⟨k1, k2⟩, k3⟩ := hok
                split at hkept
                · rename_i ks vs0 hks hvs
                  cases hap : apart eqL ks with
                  | false => rw [hap] at hkept; cases hkept
                  | true =>
                    rw [hap] at hkept; cases hkept
                    obtain ⟨b, cb, oB, t1, t2, t3⟩ := r.objs _ _ hgr
                    simp only [conc, t1, Option.some.injEq] at a0
                    subst a0
                    cases oB <;> simp only [ORel] at t3
                    rename_i es' c'
                    obtain ⟨rfl, t3⟩ := t3
                    obtain ⟨i1, i2, i3, i4, i5⟩ := strKs_spec hk hks t3
                    obtain ⟨j1, j2⟩ := valZs_spec hk hi hks hvs t3
                    have hsz : es'.size = es.length := by rw [← Array.length_toList]; exact i5
                    have hlen := Nat.le_of_ble_eq_true k3
                    have hmx : es'.size ≤ maxLen := by rw [hsz]; exact Nat.le_trans hlen (by decide)
                    have F : Go.WideElems.Fit P kS (plainElem (H := Unit) P kI) es' c' := ⟨hmx, ⟨fun x q => bornOk_lt _ k2 _ (by rw [← i4]; exact List.mem_map_of_mem q), by rw [i4]; exact apart_nodup (fun a b => beqN) _ k1, by
                      rw [i1]
                      exact List.pairwise_map.2 ((apart_nodup eqL_iff ks hap).imp fun hne q => hne (encStr_inj q))⟩, fun x q => by obtain ⟨s, m, _, _, h3⟩ := j1 x q; exact ⟨_, h3⟩⟩
                    have hown : w.ownsMap P kS (plainElem P kI) b es'.size (.map ((es'.toList.map (Go.WideElems.rg P kS (plainElem P kI))).foldr DataW.insert [])) := ⟨es', c', t2, F, Nat.le_refl _, rfl⟩
                    have hB : B < w.heap.size := (Array.getElem?_eq_some_iff.1 s2).1
                    have c0 : w.cell? ⟨B, o, none⟩ = some (.map (some b)) := cell_ofL s2 l2 (hat 0 _ rfl)
                    have c3 : w.cell? ⟨B, o + 3, none⟩ = some (.bool true) := cell_ofL s2 l2 (hat 3 _ rfl)
                    have hnn := Nat.le_of_ble_eq_true hn
                    obtain ⟨z, hzz⟩ := hz w
                    -- what waits
                    have hW : ∃ (wa' : Option Addr) (wc' wb wo : Nat) (dr pu : Nat → Bool) (go co : Nat → ByteArray) (id : Nat → Int), y2 = .slice wa' n wc' ∧ (0 < n → wb < w.heap.size) ∧ (0 < n → wa' = some ⟨wb, wo, none⟩) ∧
                        (∀ k, k < n → w.cell? ⟨wb, wo + k * 5, none⟩ = some (.bool (dr k)) ∧ w.cell? ⟨wb, wo + k * 5 + 1, none⟩ = some (.string (go k)) ∧ w.cell? ⟨wb, wo + k * 5 + 2, none⟩ = some (.bool (pu k)) ∧
                          w.cell? ⟨wb, wo + k * 5 + 3, none⟩ = some (.string (co k)) ∧ w.cell? ⟨wb, wo + k * 5 + 4, none⟩ = some (.int .i64 (id k)) ∧ (Lit.int .i64 (id k)).wf = true) ∧
                        ∀ z, z ∈ us ↔ ∃ j, j < n ∧ pu j = true ∧ id j = z := by
                      unfold waitsA at hwait
                      split at hwait
                      · split at hwait
                        · cases hwait
                          cases wcap with
                          | none => simp only [conc] at a2; cases a2
                          | some c2 =>
                            simp only [conc, Option.some.injEq] at a2
                            exact ⟨none, c2, 0, 0, fun _ => false, fun _ => false, fun _ => .empty, fun _ => .empty, fun _ => 0, a2.symm, fun q => by omega, fun q => by omega, fun k q => by omega, fun z => ⟨fun q => (by cases q), fun ⟨j, hj, _⟩ => by omega⟩⟩
                        · cases hwait
                      · rename_i j q
                        split at hwait
                        · rename_i ws wt wext wwr hgw
                          obtain ⟨wb, cw, oW, u1, u2, u3⟩ := r.objs _ _ hgw
                          cases oW <;> simp only [ORel] at u3
                          rename_i wcells we wfz
                          obtain ⟨lw, lw1, ⟨wrest, lw2⟩, _⟩ := u3
                          rw [dropN_eq] at hwait
                          obtain ⟨dr, pu, go, co, id, f1, f2⟩ := waitZs_spec n _ _ us hwait (concL_drop lw1)
                          obtain ⟨wc', ha2⟩ : ∃ wc', y2 = .slice (some ⟨wb, q, none⟩) n wc' := by
                            cases wcap with
                            | some c2 => simp only [conc, u1, Option.some.injEq] at a2; exact ⟨_, a2.symm⟩
                            | none =>
                              simp only [conc, u1] at a2
                              split at a2
                              · cases a2; exact ⟨_, rfl⟩
                              · cases a2
                          refine ⟨_, wc', wb, q, dr, pu, go, co, id, ha2, fun _ => (Array.getElem?_eq_some_iff.1 u2).1, fun _ => rfl, fun k hk => ?_, f2⟩
                          obtain ⟨g0, g1, g2, g3, g4, g5⟩ := f1 k hk
                          rw [List.getElem?_drop] at g0 g1 g2 g3 g4
                          exact ⟨cell_ofL u2 lw2 g0, cell_ofL u2 lw2 g1, cell_ofL u2 lw2 g2, cell_ofL u2 lw2 g3, cell_ofL u2 lw2 g4, g5⟩
                        · cases hwait
                    obtain ⟨wa', wc', wb, wo, dr, pu, go, co, id, rfl, w1, w2, w3, w4⟩ := hW
                    have c2 : w.cell? ⟨B, o + 2, none⟩ = some (.slice wa' n wc') := cell_ofL s2 l2 (hat 2 _ rfl)
                    refine (hC B o b es'.size wb wo n wc' wa' _ dr pu go co id w c0 c2 c3 hown (by rw [hsz]; exact hlen) hnn hB w1 w2 w3).mono ?_
                    rintro ed w' ⟨u, ss, rfl, hrow, hnil, hnd, hmem, hbel⟩
                    have hp : ss.Perm (setO (vs ++ us)) := by
                      refine (List.perm_ext_iff_of_nodup hnd (nodup_setO _)).2 fun x => ?_
                      rw [hmem x, mem_setO, List.mem_append, w4 x, atKey_vals (string_keyed hk) ht hzz t2 F j1 x, j2]
                      have : Value.int .i64 x ∈ vs.map encZ ↔ x ∈ vs := by
                        rw [List.mem_map]
                        exact ⟨fun ⟨y, hy, e⟩ => by rw [← encZ_inj e]; exact hy, fun q => ⟨x, q, rfl⟩⟩
                      rw [this]
                    rw [sortZ_eq hp] at hrow
                    have hl1 : ((sortO leZ (setO (vs ++ us))).map (AV.int .i64)).length = ss.length := by
                      rw [List.length_map, (sortO_perm leZ _).length_eq, hp.length_eq]
                    have hcv : ∀ l : List Int, concL σ (l.map (AV.int .i64)) = some (l.map encZ) := by
                      intro l
                      induction l with
                      | nil => rfl
                      | cons s l ih => exact concL_cons.2 ⟨_, _, rfl, ih, rfl⟩
                    obtain ⟨σ', q1, q2, q3⟩ := rowO_sound r hbel hc (hcv _) (by rw [hl1]; exact hrow) (hnil.trans (by
                      rw [← List.length_eq_zero_iff, ← hl1, List.length_eq_zero_iff]))
                    exact ⟨σ', u, rfl, q1, q2, q3⟩
                · cases hkept
            · cases hkept
          · cases hc
      · cases hc
    · cases hc
  · cases hc

end Go.Ev
/- The evaluator's soundness: calls at arguments that lead to no memory, answered out of runs of their own. -/
set_option linter.unusedSimpArgs false
set_option linter.unusedVariables false
namespace Go.Ev
open Go.RowKit

def memo : List (List AV × AV) → List AV → H → Option (AV × H)
  | [], _, _ => none
  | (a, v) :: l, args, h => cond (eqAV.eqAVs a args) (some (v, h)) (memo l args h)
def isV (v : AV) : Option (AV × H) → Bool
  | some (u, _) => eqAV v u
  | none => false
def isSm {α : Type} : Option α → Bool
  | some _ => true
  | none => false
/-- what is owed of an entry: the run answers so -/
noncomputable def memoRun (P : Program) (o : T (List AV → H → Option (AV × H))) (n f : Nat) (p : List AV × AV) : Bool :=
  isSm (concL (fun _ => none) p.1) && (isSm (conc (fun _ => none) p.2) && isV p.2 (callFF (envO P o) n f p.1 ⟨0, .nil⟩))
def MemoOk (P : Program) (f : FuncId) (p : List AV × AV) : Prop :=
  ∃ xs x, (∀ σ, concL σ p.1 = some xs) ∧ (∀ σ, conc σ p.2 = some x) ∧ ∀ w, Calls P f ⟨xs⟩ w fun e w' => e = .returned x ∧ Below w.heap.size w w'

theorem none_sub (σ : Sg) : Sub (fun _ => none) σ := fun _ _ h => by cases h
theorem memo_run {P : Program} (hm : P.follows .mixedOrders = true) (hn : namesOk P = true) {o : T (List AV → H → Option (AV × H))} (ho : ∀ f g, o.get f = some g → OrcOk P f g) {n f : Nat} {p : List AV × AV}
    (hr : memoRun P o n f p = true) : MemoOk P f p := by
  unfold memoRun at hr
  simp only [Bool.and_eq_true] at hr
  obtain ⟨h1, h2, h3⟩ := hr
  cases hx : concL (fun _ => none) p.1 with
  | none => rw [hx] at h1; cases h1
  | some xs =>
    cases hv : conc (fun _ => none) p.2 with
    | none => rw [hv] at h2; cases h2
    | some x =>
      refine ⟨xs, x, fun σ => concL_mono (none_sub σ) _ _ hx, fun σ => conc_mono (none_sub σ) _ _ hv, fun w => ?_⟩
      cases hc : callFF (envO P o) n f p.1 ⟨0, .nil⟩ with
      | none => rw [hc] at h3; cases h3
      | some q =>
        obtain ⟨u, h'⟩ := q
        rw [hc] at h3
        have hu := eqAV_eq _ _ h3
        have := callL_sound (env_okO hm hn ho) (callFF_eq hc) (σ := fun _ => none) (w := w) hx ⟨fun _ _ => rfl, fun i o hi => by simp [get_nil] at hi, fun i j o o' b c c' hi => by simp [get_nil] at hi⟩
        refine this.mono fun e w' he => ?_
        obtain ⟨σ', y, rfl, g1, g2, g3⟩ := he
        rw [← hu, conc_mono (none_sub σ') _ _ hv] at g1
        cases g1
        exact ⟨rfl, g3.below⟩

theorem memo_ok {P : Program} {f : FuncId} {l : List (List AV × AV)} (hl : ∀ p ∈ l, MemoOk P f p) : OrcOk P f (memo l) := by
  intro σ args xs h w v h' hx r hc
  induction l with
  | nil => cases hc
  | cons p l ih =>
    obtain ⟨a, u⟩ := p
    simp only [memo] at hc
    cases he : eqAV.eqAVs a args with
    | false => rw [he] at hc; exact ih (fun p hp => hl p (List.mem_cons_of_mem _ hp)) hc
    | true =>
      rw [he] at hc; simp only [cond_true] at hc
      cases hc
      have := eqAVs_eq _ _ he
      subst this
      obtain ⟨xs', x, q1, q2, q3⟩ := hl _ List.mem_cons_self
      rw [q1 σ] at hx; cases hx
      refine (q3 w).mono ?_
      rintro e w' ⟨rfl, hb⟩
      obtain ⟨g1, g2⟩ := below_same r hb
      exact ⟨σ, x, rfl, q2 σ, g1, g2⟩

theorem memo_nil {P : Program} {f : FuncId} : ∀ p ∈ ([] : List (List AV × AV)), MemoOk P f p := fun p hp => by cases hp
theorem memo_cons {P : Program} {f : FuncId} {q : List AV × AV} {l : List (List AV × AV)} (h : MemoOk P f q) (hl : ∀ p ∈ l, MemoOk P f p) : ∀ p ∈ q :: l, MemoOk P f p := fun p hp => by
  rcases List.mem_cons.1 hp with rfl | hp
  · exact h
  · exact hl p hp

/-! a table of such functions, one by one -/
def OrcsOk (P : Program) (o : T (List AV → H → Option (AV × H))) : Prop := ∀ f g, o.get f = some g → OrcOk P f g
theorem orcs_nil {P : Program} : OrcsOk P .nil := fun f g h => by simp [get_nil] at h
theorem orcs_set {P : Program} {o : T (List AV → H → Option (AV × H))} {f : FuncId} {g : List AV → H → Option (AV × H)} (h : OrcOk P f g) (ho : OrcsOk P o) : OrcsOk P (T.set (some g) o f) := fun f' g' hg => by
  rw [get_set] at hg
  split at hg
  · rename_i e; subst e; cases hg; exact h
  · exact ho f' g' hg

end Go.Ev
