/- The evaluator's soundness: operations that leave memory alone, of numbers and texts. -/
import Derived.Test.YtaodaeehndocgaaGreatEvC
import Derived.Laws.StructEq
set_option linter.unusedSimpArgs false
set_option linter.unusedVariables false
namespace Go.Ev

/-! numbers -/
theorem eqI_eq (a b : Int) : eqI a b = (a == b) := by
  cases a <;> cases b <;> simp only [eqI] <;> rw [Bool.eq_iff_iff] <;> simp
  exact Int.ofNat_inj.symm
theorem ltI_eq (a b : Int) : ltI a b = decide (a < b) := by
  cases a <;> cases b <;> simp only [ltI] <;> rw [Bool.eq_iff_iff] <;> simp [Nat.blt] <;> omega
theorem wrapA_eq (k : IntKind) (n : Int) : wrapA k n = k.wrap n := by
  unfold wrapA
  cases h : inR k n
  · rfl
  · simp only [cond_true]
    cases n with
    | ofNat m => cases k <;> simp [inR] at h <;> (unfold IntKind.wrap IntKind.bits IntKind.signed; simp; omega)
    | negSucc m => cases k <;> simp [inR] at h <;> (unfold IntKind.wrap IntKind.bits IntKind.signed; simp; omega)
theorem not_lt_dec (a b : Int) : (!decide (b < a)) = decide (a ≤ b) := by rw [← decide_not]; simp only [Int.not_lt]
theorem inR_lt {k : IntKind} {m : Nat} (h : inR k (.ofNat m) = true) : m < 2 ^ k.bits ∧ (k.signed = true → m < 2 ^ (k.bits - 1)) := by
  cases k <;> simp [inR] at h <;> simp [IntKind.bits, IntKind.signed] <;> omega
theorem wrap_small (k : IntKind) (r : Nat) (h1 : r < 2 ^ k.bits) (h2 : k.signed = true → r < 2 ^ (k.bits - 1)) : k.wrap (r : Int) = (r : Int) := by
  cases k <;> simp [IntKind.bits, IntKind.signed] at h1 h2 <;> (unfold IntKind.wrap IntKind.bits IntKind.signed; simp; omega)
theorem toNat_ofInt {k : IntKind} {m : Nat} (h : m < 2 ^ k.bits) : (BitVec.ofInt k.bits (Int.ofNat m)).toNat = m := by
  rw [BitVec.toNat_ofInt]
  have : (Int.ofNat m : Int) % ((2 ^ k.bits : Nat) : Int) = (m : Int) := by
    rw [show (Int.ofNat m : Int) = (m : Int) from rfl]
    exact Int.emod_eq_of_lt (by omega) (by exact_mod_cast h)
  rw [this]; simp

section
variable {P : Program} {w : World}

theorem arith_sound {op : BinOp} {k : IntKind} {a b : Int} {v : AV} (h : arithA op k a b = some v) (t : TypeId) (hs : op ≠ .shl ∧ op ≠ .shr ∧ op ≠ .and ∧ op ≠ .or ∧ op ≠ .xor) :
    ∃ x, (binOp op t (.int k a) (.int k b)).run P w = .ok x w ∧ ∀ σ, conc σ v = some x := by
  obtain ⟨h1, h2, h3, h4, h5⟩ := hs
  cases op <;> simp only [arithA, intV_eq, eqI_eq, ltI_eq, wrapA_eq] at h <;> try (exact absurd rfl ‹_›)
  case add => cases h; exact ⟨.int k (k.wrap (a + b)), by simp [binOp, Op.intArith], fun σ => by simp [conc]⟩
  case sub => cases h; exact ⟨.int k (k.wrap (a - b)), by simp [binOp, Op.intArith], fun σ => by simp [conc]⟩
  case mul => cases h; exact ⟨.int k (k.wrap (a * b)), by simp [binOp, Op.intArith], fun σ => by simp [conc]⟩
  case quo =>
    by_cases hb : b = 0
    · simp [hb] at h
    · have : (b == 0) = false := by simp [hb]
      rw [this] at h; simp at h; subst h
      exact ⟨.int k (k.wrap (a.tdiv b)), by simp [binOp, Op.intDiv, hb], fun σ => by simp [conc]⟩
  case rem =>
    by_cases hb : b = 0
    · simp [hb] at h
    · have : (b == 0) = false := by simp [hb]
      rw [this] at h; simp at h; subst h
      exact ⟨.int k (a.tmod b), by simp [binOp, Op.intDiv, hb], fun σ => by simp [conc]⟩
  case andNot => cases h
  case eql => cases h; exact ⟨.bool (a == b), by simp [binOp, Op.intCmp, bne], fun σ => by simp [conc]⟩
  case neq => cases h; exact ⟨.bool (!(a == b)), by simp [binOp, Op.intCmp, bne], fun σ => by simp [conc]⟩
  case lss => cases h; exact ⟨.bool (decide (a < b)), by simp [binOp, Op.intCmp, bne], fun σ => by simp [conc]⟩
  case leq => cases h; exact ⟨.bool (!decide (b < a)), by rw [not_lt_dec]; simp [binOp, Op.intCmp], fun σ => by simp [conc]⟩
  case gtr => cases h; exact ⟨.bool (decide (b < a)), by simp [binOp, Op.intCmp, bne], fun σ => by simp [conc]⟩
  case geq => cases h; exact ⟨.bool (!decide (a < b)), by rw [not_lt_dec]; simp [binOp, Op.intCmp], fun σ => by simp [conc]⟩

theorem bits_sound {op : BinOp} {k : IntKind} {m n : Nat} {v : AV} (h : bitsA op k m n = some v) (t : TypeId) :
    ∃ x, (binOp op t (.int k (Int.ofNat m)) (.int k (Int.ofNat n))).run P w = .ok x w ∧ ∀ σ, conc σ v = some x := by
  unfold bitsA at h
  cases hr : (inR k (.ofNat m) && inR k (.ofNat n)) with
  | false => rw [hr] at h; cases h
  | true =>
    rw [hr] at h; simp only [cond_true] at h
    simp only [Bool.and_eq_true] at hr
    obtain ⟨m1, m2⟩ := inR_lt hr.1
    obtain ⟨n1, n2⟩ := inR_lt hr.2
    cases op <;> simp only [intV_eq] at h <;> try (cases h; done)
    · cases h
      refine ⟨.int k (Int.ofNat (m &&& n)), ?_, fun σ => by simp [conc]⟩
      simp only [binOp, Op.intBits, ne_eq, not_true_eq_false, if_false, BitVec.toNat_and, toNat_ofInt m1, toNat_ofInt n1, Sem.run_pure]
      rw [wrap_small k (m &&& n) (Nat.lt_of_le_of_lt Nat.and_le_left m1) (fun s => Nat.lt_of_le_of_lt Nat.and_le_left (m2 s))]; rfl
    · cases h
      refine ⟨.int k (Int.ofNat (m ||| n)), ?_, fun σ => by simp [conc]⟩
      simp only [binOp, Op.intBits, ne_eq, not_true_eq_false, if_false, BitVec.toNat_or, toNat_ofInt m1, toNat_ofInt n1, Sem.run_pure]
      rw [wrap_small k (m ||| n) (Nat.or_lt_two_pow m1 n1) (fun s => Nat.or_lt_two_pow (m2 s) (n2 s))]; rfl
    · cases h
      refine ⟨.int k (Int.ofNat (m ^^^ n)), ?_, fun σ => by simp [conc]⟩
      simp only [binOp, Op.intBits, ne_eq, not_true_eq_false, if_false, BitVec.toNat_xor, toNat_ofInt m1, toNat_ofInt n1, Sem.run_pure]
      rw [wrap_small k (m ^^^ n) (Nat.xor_lt_two_pow m1 n1) (fun s => Nat.xor_lt_two_pow (m2 s) (n2 s))]; rfl

theorem shift_sound {op : BinOp} {k yk : IntKind} {a : Int} {n : Nat} {v : AV} (h : shiftA op k a n = some v) (t : TypeId) :
    ∃ x, (binOp op t (.int k a) (.int yk (Int.ofNat n))).run P w = .ok x w ∧ ∀ σ, conc σ v = some x := by
  have hn : ¬ ((n : Int) < 0) := by omega
  cases op <;> simp only [shiftA, intV_eq, wrapA_eq] at h <;> try (cases h; done)
  · cases h
    exact ⟨.int k (k.wrap (a * (2 ^ (min n k.bits) : Nat))), by simp [binOp, Op.shift]; intro h; omega, fun σ => by simp [conc]⟩
  · cases a with
    | negSucc m => cases h
    | ofNat m =>
      cases h
      refine ⟨.int k ((Int.ofNat m).fdiv (2 ^ (min n k.bits))), by simp [binOp, Op.shift]; intro h; omega, fun σ => ?_⟩
      simp only [conc]
      congr 2
      rw [show (2 : Int) ^ (min n k.bits) = ((2 ^ (min n k.bits) : Nat) : Int) by simp]
      rw [show (Int.ofNat m : Int) = (m : Int) from rfl, Int.fdiv_eq_ediv_of_nonneg _ (Int.natCast_nonneg _)]
      simp

/-! texts -/
theorem eqL_eq : ∀ a b : List UInt8, eqL a b = (a == b)
  | [], [] => rfl
  | [], _ :: _ => rfl
  | _ :: _, [] => rfl
  | a :: x, b :: y => by
    simp only [eqL, eqL_eq x y]
    rw [List.cons_beq_cons]
    cases h : Nat.beq a.toNat b.toNat
    · have : (a == b) = false := by
        rw [Bool.eq_false_iff]; intro e
        have : a = b := by simpa using e
        subst this; simp at h
      simp [this]
    · have : a = b := UInt8.toNat_inj.1 (Nat.eq_of_beq_eq_true h)
      subst this; simp
theorem ltL_eq : ∀ a b : List UInt8, ltL a b = Op.bytesLess a b
  | a, [] => by cases a <;> rfl
  | [], _ :: _ => rfl
  | a :: x, b :: y => by
    simp only [ltL, Op.bytesLess, ltL_eq x y]
    have h1 : Nat.blt a.toNat b.toNat = decide (a < b) := by
      rw [Bool.eq_iff_iff]; simp [Nat.blt, UInt8.lt_iff_toNat_lt]; omega
    have h2 : Nat.beq a.toNat b.toNat = (a == b) := by
      rw [Bool.eq_iff_iff]; simp [← UInt8.toNat_inj]
    rw [h1, h2]
    cases decide (a < b) <;> cases (a == b) <;> simp
theorem toList_mk (s : List UInt8) : (⟨⟨s⟩⟩ : ByteArray).toList = s := by rw [ByteArray.toList_eq]
theorem append_mk (a b : List UInt8) : (⟨⟨a⟩⟩ : ByteArray) ++ ⟨⟨b⟩⟩ = ⟨⟨a ++ b⟩⟩ := by
  have : ((⟨⟨a⟩⟩ : ByteArray) ++ ⟨⟨b⟩⟩).data = (⟨⟨a ++ b⟩⟩ : ByteArray).data := by rw [ByteArray.data_append]; simp
  cases h : ((⟨⟨a⟩⟩ : ByteArray) ++ ⟨⟨b⟩⟩); rw [h] at this; simpa using this
theorem size_mk (a : List UInt8) : (⟨⟨a⟩⟩ : ByteArray).size = a.length := rfl

theorem str_sound {op : BinOp} {a b : List UInt8} {v : AV} (h : strA op a b = some v) (t : TypeId) :
    ∃ x, (binOp op t (.string ⟨⟨a⟩⟩) (.string ⟨⟨b⟩⟩)).run P w = .ok x w ∧ ∀ σ, conc σ v = some x := by
  have e : ∀ op, binOp op t (.string ⟨⟨a⟩⟩) (.string ⟨⟨b⟩⟩) = Op.stringOp op ⟨⟨a⟩⟩ ⟨⟨b⟩⟩ := fun op => by cases op <;> rfl
  rw [e]
  cases op <;> simp only [strA, eqL_eq, ltL_eq, fL_eq] at h <;> try (cases h; done)
  case add =>
    cases hl : Nat.ble (a.length + b.length) 1000000 with
    | false => simp [hl] at h
    | true =>
      simp only [hl, cond_true] at h
      cases h
      have hl' := Nat.le_of_ble_eq_true hl
      refine ⟨.string ⟨⟨a ++ b⟩⟩, ?_, fun σ => by simp [conc]⟩
      unfold Op.stringOp
      simp only [size_mk, append_mk]
      rw [if_neg (by unfold IntKind.max IntKind.signed IntKind.bits; simp; omega)]
      rfl
  all_goals (cases h; exact ⟨.bool _, by simp only [Op.stringOp, toList_mk]; rfl, fun σ => by simp only [conc]⟩)

theorem un_sound {op : UnOp} {a : AV} {x : Value} {v : AV} {σ : Sg} (hx : conc σ a = some x) (h : unA op a = some v) :
    ∃ y, (Op.unary op x).run P w = .ok y w ∧ conc σ v = some y := by
  unfold unA at h
  split at h
  · simp only [conc] at hx; cases hx
    rw [intV_eq] at h; cases h
    exact ⟨_, rfl, by simp only [conc, wrapA_eq]⟩
  · simp only [conc] at hx; cases hx
    cases h
    exact ⟨_, rfl, by simp only [conc]⟩
  · cases h
end

end Go.Ev
