/- The quick evaluator is the evaluator. -/
import Derived.Test.YtpkohiiljpenmaaGreatEvZ
set_option linter.unusedSimpArgs false
set_option linter.unusedVariables false
namespace Go.Ev

theorem brec {α : Type} (a b : α) (c : Bool) : @Bool.rec (fun _ => α) b a c = cond c a b := by cases c <;> rfl
theorem getF_eq {α : Type} (t : T α) : T.getF t = T.get t := by
  induction t with
  | nil => rfl
  | node l v r ihl ihr =>
    funext k
    cases k with
    | zero => rfl
    | succ k =>
      have : T.getF (.node l v r) (k + 1) = cond (Nat.beq (k % 2) 0) (T.getF l (k / 2)) (T.getF r (k / 2)) := by
        exact brec (α := Option α) _ _ _
      rw [this, ihl, ihr]; rfl
theorem setF_eq {α : Type} (x : Option α) (d : Nat) : ∀ (t : T α) (k : Nat) (K : T α → R), T.setF x d t k K = T.setK x d t k K := by
  induction d with
  | zero => intro t k K; rfl
  | succ d ih =>
    intro t k K
    cases t with
    | nil =>
      cases k with
      | zero => rfl
      | succ k =>
        show (Bool.rec (motive := fun _ => R) (T.setF x d .nil (k / 2) _) (T.setF x d .nil (k / 2) _) (Nat.beq (k % 2) 0) : R) = _
        rw [brec, ih, ih]; rfl
    | node l v r =>
      cases k with
      | zero => rfl
      | succ k =>
        show (Bool.rec (motive := fun _ => R) (T.setF x d r (k / 2) _) (T.setF x d l (k / 2) _) (Nat.beq (k % 2) 0) : R) = _
        rw [brec, ih, ih]; rfl

theorem hgetF_eq (h : H) (i : Nat) (K : AObj → R) (S : R) : h.getF i K S = match h.t.get i with
    | some o => K o
    | none => S := by
  obtain ⟨n, t⟩ := h
  show @Option.rec AObj (fun _ => R) S K (T.getF t i) = _
  rw [getF_eq]
  cases t.get i <;> rfl
theorem newF_eq (h : H) (o : AObj) (K : Nat → H → R) : newF h o K = K h.next ⟨h.next + 1, T.set (some o) h.t h.next⟩ := by
  obtain ⟨n, t⟩ := h
  unfold newF
  dsimp only
  rw [setF_eq, setK_set]
  cases n <;> rfl
theorem putF_eq (h : H) (i : Nat) (o : Option AObj) (K : H → R) : putF h i o K = K ⟨h.next, T.set o h.t i⟩ := by
  obtain ⟨n, t⟩ := h
  unfold putF
  dsimp only
  rw [setF_eq, setK_set]
theorem appF_eq {α : Type} (m : List α) : ∀ (l : List α) (K : List α → R), appF l m K = K (l ++ m)
  | [], K => rfl
  | a :: l, K => appF_eq m l fun l => K (a :: l)
theorem nthF_eq {α : Type} (K : α → R) (S : R) : ∀ (l : List α) (n : Nat), nthF l n K S = match nth l n with
    | some a => K a
    | none => S
  | [], n => rfl
  | a :: l, 0 => rfl
  | a :: l, n + 1 => nthF_eq K S l n
theorem takeF_eq {α : Type} (S : R) : ∀ (n : Nat) (l : List α) (K : List α → R), takeF n l K S = match takeN n l with
    | some r => K r
    | none => S
  | 0, l, K => rfl
  | n + 1, [], K => rfl
  | n + 1, a :: l, K => by
    show takeF n l (fun r => K (a :: r)) S = _
    rw [takeF_eq S n l]
    simp only [takeN]
    cases takeN n l <;> rfl
theorem dropF_eq {α : Type} : ∀ (n : Nat) (l : List α), dropF n l = dropN n l
  | 0, l => by cases l <;> rfl
  | n + 1, [] => rfl
  | n + 1, a :: l => dropF_eq n l
theorem overF_eq {α : Type} (S : R) : ∀ (vs l : List α) (K : List α → R), overF vs l K S = match write 0 vs l with
    | some r => K r
    | none => S
  | [], l, K => by cases l <;> rfl
  | v :: vs, [], K => rfl
  | v :: vs, a :: l, K => by
    show overF vs l (fun r => K (v :: r)) S = _
    rw [overF_eq S vs l]
    simp only [write]
    cases write 0 vs l <;> rfl
theorem writeF_or {α : Type} (S : R) (vs : List α) : ∀ (n : Nat) (l : List α) (K : List α → R), (∃ r, write n vs l = some r ∧ writeF n vs l K S = K r) ∨ writeF n vs l K S = S
  | 0, l, K => by
    have h : writeF 0 vs l K S = overF vs l K S := rfl
    rw [h, overF_eq]
    cases hw : write 0 vs l with
    | none => exact .inr rfl
    | some r => exact .inl ⟨r, rfl, rfl⟩
  | n + 1, [], K => .inr rfl
  | n + 1, a :: l, K => by
    have h : writeF (n + 1) vs (a :: l) K S = writeF n vs l (fun r => K (a :: r)) S := rfl
    rw [h]
    rcases writeF_or S vs n l fun r => K (a :: r) with ⟨r, h1, h2⟩ | h2
    · refine .inl ⟨a :: r, ?_, h2⟩
      cases vs with
      | nil =>
        have e : write n ([] : List α) l = some l := by cases n <;> cases l <;> rfl
        rw [e] at h1; cases h1
        rfl
      | cons v vs => simp only [write, h1]
    · exact .inr h2
theorem lenF_eq {α : Type} : ∀ l : List α, lenF l = l.length
  | [] => rfl
  | a :: l => congrArg Nat.succ (lenF_eq l)
theorem fIF_eq (n : Int) (K : Int → R) : fIF n K = K n := by
  cases n with
  | ofNat m => cases m <;> rfl
  | negSucc m => cases m <;> rfl
theorem fNF_eq (m : Nat) (K : Nat → R) : fNF m K = K m := by cases m <;> rfl

theorem valF_eq (tm : T AV) (x : Operand) (K : AV → R) : valF tm x K = match aev tm x with
    | some v => K v
    | none => none := by
  cases x with
  | tmp t =>
    show @Option.rec AV (fun _ => R) (K undefA) K (T.getF tm t) = _
    rw [getF_eq]
    simp only [aev]
    cases tm.get t <;> rfl
  | const v =>
    show @Option.rec AV (fun _ => R) none K (ofV v) = _
    simp only [aev]
    cases ofV v <;> rfl
  | global g => rfl
  | func f => rfl
theorem valsF_eq (tm : T AV) : ∀ (l : List Operand) (K : List AV → R), valsF tm l K = match aevL tm l with
    | some vs => K vs
    | none => none
  | [], K => rfl
  | x :: l, K => by
    show valF tm x (fun v => valsF tm l fun vs => K (v :: vs)) = _
    rw [valF_eq]
    simp only [aevL]
    cases aev tm x with
    | none => rfl
    | some v =>
      simp only
      rw [valsF_eq tm l]
      cases aevL tm l <;> rfl

theorem selBool_is (b : Bool) (K : Bool → R) (S : R) : selBool (.bool b) K S = K b := rfl
theorem selInt_is (k : IntKind) (n : Int) (K : IntKind → Int → R) (S : R) : selInt (.int k n) K S = K k n := rfl
theorem selStr_is (s : List UInt8) (K : List UInt8 → R) (S : R) : selStr (.str s) K S = K s := rfl
theorem selAddr_is (i o : Nat) (K : Nat → Nat → R) (S : R) : selAddr (.ptr (some (i, o))) K S = K i o := rfl
theorem selSlice_is (a : Option (Nat × Nat)) (n : Nat) (c : Option Nat) (K : Option (Nat × Nat) → Nat → Option Nat → R) (S : R) : selSlice (.slice a n c) K S = K a n c := rfl
theorem selBase_is (i o : Nat) (K : Nat → Nat → R) (S : R) : selBase (some (i, o)) K S = K i o := rfl
theorem selFunc_is (f : FuncId) (a b : List AV) (K : FuncId → List AV → List AV → R) (S : R) : selFunc (.func f a b) K S = K f a b := rfl
theorem selAgg_is (l : List AV) (K : List AV → R) (S : R) : selAgg (.agg l) K S = K l := rfl
theorem selTuple_is (l : List AV) (K : List AV → R) (S : R) : selTuple (.tuple l) K S = K l := rfl
theorem selNat_is (k : IntKind) (n : Nat) (K : Nat → R) (S : R) : selNat (.int k (.ofNat n)) K S = K n := rfl

/-- what an operation does that is wanted -/
def semO (E : Env) (op : Op) (tm : T AV) (h : H) (K : AV → H → R) (D : AN → H → R) : R :=
  match aevL tm op.operands.toList with
  | none => none
  | some vs => cond (isComm op) (match commA E op vs h with
    | some (v, h) => K v h
    | none => none) (match lightA E op vs h with
    | some v => K v h
    | none => match effA E op vs h with
      | some (n, h) => D n h
      | none => none)

theorem partF_eq (y : TI) (cs : List AV) (off : Nat) (K : AV → R) (S : R) : partF y cs off K S = match partA y cs off with
    | some v => K v
    | none => S := by
  obtain ⟨d, size, b, agg, z⟩ := y
  show @Bool.rec (fun _ => R) (nthF cs off K S) (takeF size (dropF off cs) (fun l => K (.agg l)) S) agg = _
  cases agg with
  | false =>
    simp only [partA, cond_false]; rw [nthF_eq]
    cases nth cs off <;> rfl
  | true =>
    simp only [partA, cond_true, sub]
    rw [takeF_eq, dropF_eq]
    cases takeN size (dropN off cs) <;> rfl

section
variable {E : Env} {rc : RCT} {tm : T AV} {h : H} {K : AV → H → R} {D : AN → H → R}

theorem load_eq (t : TypeId) (a : Operand) : loadX t a E rc tm h K (semO E (.load t a) tm h K D) = semO E (.load t a) tm h K D := by
  unfold loadX
  rw [valF_eq]
  have hops : (Op.load t a).operands.toList = [a] := rfl
  cases ha : aev tm a with
  | none => simp only [semO, hops, aevL, ha]
  | some v =>
    simp only
    cases v <;> try rfl
    rename_i p
    cases p with
    | none => rfl
    | some p =>
      obtain ⟨i, o⟩ := p
      show tyF E t _ _ = _
      unfold tyF
      cases ht : T.get E.ts t with
      | none => rfl
      | some ti =>
        show H.getF h i _ _ = _
        rw [hgetF_eq]
        cases hg : h.t.get i with
        | none => rfl
        | some ob =>
          cases ob <;> try rfl
          rename_i cs e ext wr
          show partF ti cs o _ _ = _
          rw [partF_eq]
          cases hp : partA ti cs o with
          | none => rfl
          | some v =>
            have : loadA ti h i o = some v := by
              simp only [loadA, hg]
              simpa [partA] using hp
            simp only [semO, hops, aevL, ha, isComm, cond_false, lightA, ht, this]

theorem tyF_eq (t : TypeId) (K : TI → R) (S : R) : tyF E t K S = match E.ts.get t with
    | some ti => K ti
    | none => S := by
  unfold tyF
  cases E.ts.get t <;> rfl

theorem move_eq (x : Operand) : moveX x E rc tm h K (semO E (.move x) tm h K D) = semO E (.move x) tm h K D := by
  unfold moveX
  rw [valF_eq]
  have hops : (Op.move x).operands.toList = [x] := rfl
  cases ha : aev tm x with
  | none => simp only [semO, hops, aevL, ha]
  | some v => simp only [semO, hops, aevL, ha, isComm, cond_false, lightA]
theorem assign_eq (x : Operand) : moveX x E rc tm h K (semO E (.assign x) tm h K D) = semO E (.assign x) tm h K D := by
  unfold moveX
  rw [valF_eq]
  have hops : (Op.assign x).operands.toList = [x] := rfl
  cases ha : aev tm x with
  | none => simp only [semO, hops, aevL, ha]
  | some v => simp only [semO, hops, aevL, ha, isComm, cond_false, lightA]
theorem pick_eq (c a b : Operand) : pickX c a b E rc tm h K (semO E (.pick c a b) tm h K D) = semO E (.pick c a b) tm h K D := by
  unfold pickX
  rw [valF_eq]
  have hops : (Op.pick c a b).operands.toList = [c, a, b] := rfl
  cases hc : aev tm c with
  | none => simp only [semO, hops, aevL, hc]
  | some c =>
    cases c <;> try rfl
    rename_i c
    simp only
    rw [selBool_is, valF_eq]
    cases ha : aev tm a with
    | none => simp only [semO, hops, aevL, hc, ha]
    | some a =>
      show valF tm b _ = _
      rw [valF_eq]
      cases hb : aev tm b with
      | none => simp only [semO, hops, aevL, hc, ha, hb]
      | some b =>
        simp only [semO, hops, aevL, hc, ha, hb, isComm, cond_false, lightA]
        cases c <;> rfl

theorem store_eq (hv : ∀ v h, D (.val v) h = K v h) (t : TypeId) (a v' : Operand) : storeX t a v' E rc tm h K (semO E (.store t a v') tm h K D) = semO E (.store t a v') tm h K D := by
  unfold storeX
  rw [valF_eq]
  have hops : (Op.store t a v').operands.toList = [a, v'] := rfl
  cases ha : aev tm a with
  | none => simp only [semO, hops, aevL, ha]
  | some x =>
    simp only
    rw [valF_eq]
    cases hb : aev tm v' with
    | none => simp only [semO, hops, aevL, ha, hb]
    | some v =>
      cases x <;> try rfl
      rename_i p
      cases p with
      | none => rfl
      | some p =>
        obtain ⟨i, o⟩ := p
        show tyF E t _ _ = _
        rw [tyF_eq]
        cases ht : E.ts.get t with
        | none => rfl
        | some ti =>
          show H.getF h i _ _ = _
          rw [hgetF_eq]
          cases hg : h.t.get i with
          | none => rfl
          | some ob =>
            cases ob <;> try rfl
            rename_i cs e ext wr
            cases wr with
            | false => rfl
            | true =>
              show @Bool.rec (fun _ => R) _ (@Bool.rec (fun _ => R) _ _ (allOne v.cells)) (Nat.beq (lenF v.cells) ti.size) = _
              rw [brec, brec, lenF_eq]
              cases h1 : Nat.beq v.cells.length ti.size with
              | false => rfl
              | true =>
                cases h2 : allOne v.cells with
                | false => rfl
                | true =>
                  simp only [cond_true]
                  rcases writeF_or (semO E (.store t a v') tm h K D) v.cells o cs (fun cs => putF h i (some (.cells cs e ext true)) fun h => K undefA h) with ⟨cs', hw, hq⟩ | hq
                  · rw [hq, putF_eq]
                    simp only [semO, hops, aevL, ha, hb, isComm, cond_false, lightA, effA, ht, storeA, hg, h1, h2, Bool.and_self, cond_true, hw, putO_eq, nv, hv]
                  · exact hq

theorem alloc_eq (hv : ∀ v h, D (.val v) h = K v h) (t : TypeId) : allocX t E rc tm h K (semO E (.alloc t) tm h K D) = semO E (.alloc t) tm h K D := by
  unfold allocX
  rw [tyF_eq]
  have hops : (Op.alloc t).operands.toList = [] := rfl
  cases ht : E.ts.get t with
  | none => rfl
  | some ti =>
    simp only
    rw [newF_eq]
    simp only [semO, hops, aevL, isComm, cond_false, lightA, effA, allocA, ht, newO_eq, hv]
theorem box_eq (hv : ∀ v h, D (.val v) h = K v h) (t : TypeId) (x : Operand) : boxX t x E rc tm h K (semO E (.box t x) tm h K D) = semO E (.box t x) tm h K D := by
  unfold boxX
  rw [valF_eq]
  have hops : (Op.box t x).operands.toList = [x] := rfl
  cases ha : aev tm x with
  | none => simp only [semO, hops, aevL, ha]
  | some v =>
    simp only
    rw [newF_eq]
    simp only [semO, hops, aevL, ha, isComm, cond_false, lightA, effA, allocA, newO_eq, hv]

theorem placeF_eq (s : TypeId) (f : Nat) (K : Nat → TI → R) (S : R) : placeF E s f K S = match structF E s f with
    | some (o, y) => K o y
    | none => S := by
  unfold placeF
  cases structF E s f <;> rfl
theorem structF_some {s : TypeId} {f off : Nat} {y : TI} (hs : structF E s f = some (off, y)) :
    ∃ ti fs fd, E.ts.get s = some ti ∧ ti.desc = .struct fs ∧ nth fs.toList f = some fd ∧ E.ts.get fd.type = some y ∧ fd.offset = off := by
  unfold structF at hs
  split at hs
  · cases hs
  · rename_i t ht
    split at hs
    · rename_i fs hd
      split at hs
      · cases hs
      · rename_i fd hf
        split at hs
        · rename_i y' hy
          cases hs
          exact ⟨t, fs, fd, ht, hd, hf, hy, rfl⟩
        · cases hs
    · cases hs
theorem fieldAddr_eq (s : TypeId) (x : Operand) (f : Nat) : fieldAddrX s x f E rc tm h K (semO E (.fieldAddr s x f) tm h K D) = semO E (.fieldAddr s x f) tm h K D := by
  unfold fieldAddrX
  rw [valF_eq]
  have hops : (Op.fieldAddr s x f).operands.toList = [x] := rfl
  cases ha : aev tm x with
  | none => simp only [semO, hops, aevL, ha]
  | some v =>
    simp only
    cases v <;> try rfl
    rename_i p
    cases p with
    | none => rfl
    | some p =>
      obtain ⟨i, o⟩ := p
      rw [selAddr_is, placeF_eq]
      cases hs : structF E s f with
      | none => rfl
      | some q =>
        obtain ⟨off, y⟩ := q
        obtain ⟨ti, fs, fd, e1, e2, e3, e4, e5⟩ := structF_some hs
        simp only
        rw [brec]
        cases hz : Nat.beq y.size 0 with
        | true => rfl
        | false =>
          rw [cond_false, fNF_eq]
          have : fieldAddrA E s (.ptr (some (i, o))) f = some (.ptr (some (i, o + off))) := by
            simp only [fieldAddrA, e1, e2, e3, e4, hz, cond_false, fN_eq, e5]
          simp only [semO, hops, aevL, ha, isComm, cond_false, lightA, this]
          rfl
theorem field_eq (s : TypeId) (x : Operand) (f : Nat) : fieldX s x f E rc tm h K (semO E (.field s x f) tm h K D) = semO E (.field s x f) tm h K D := by
  unfold fieldX
  rw [valF_eq]
  have hops : (Op.field s x f).operands.toList = [x] := rfl
  cases ha : aev tm x with
  | none => simp only [semO, hops, aevL, ha]
  | some v =>
    simp only
    cases v <;> try rfl
    rename_i cs
    rw [selAgg_is, placeF_eq]
    cases hs : structF E s f with
    | none => rfl
    | some q =>
      obtain ⟨off, y⟩ := q
      obtain ⟨ti, fs, fd, e1, e2, e3, e4, e5⟩ := structF_some hs
      simp only
      rw [partF_eq]
      cases hp : partA y cs off with
      | none => rfl
      | some v =>
        have : fieldA E s (.agg cs) f = some v := by
          simp only [fieldA, e1, e2, e3, e4, e5, hp]
        simp only [semO, hops, aevL, ha, isComm, cond_false, lightA, this]

theorem seqA_arr {t : TypeId} {n : Nat} {y : TI} (hs : seqA E t = .arr n y) : ∃ ti e, E.ts.get t = some ti ∧ ti.desc = .array n e ∧ E.ts.get e = some y := by
  unfold seqA at hs
  split at hs
  · cases hs
  · rename_i ti ht
    split at hs
    · rename_i n' e hd
      split at hs
      · rename_i y' hy; cases hs; exact ⟨ti, e, ht, hd, hy⟩
      · cases hs
    · split at hs <;> cases hs
    · cases hs
    · cases hs
theorem seqA_slc {t : TypeId} {y : TI} (hs : seqA E t = .slc y) : ∃ ti e, E.ts.get t = some ti ∧ ti.desc = .slice e ∧ E.ts.get e = some y := by
  unfold seqA at hs
  split at hs
  · cases hs
  · rename_i ti ht
    split at hs
    · split at hs <;> cases hs
    · rename_i e hd
      split at hs
      · rename_i y' hy; cases hs; exact ⟨ti, e, ht, hd, hy⟩
      · cases hs
    · cases hs
    · cases hs
theorem seqA_str {t : TypeId} (hs : seqA E t = .str) : ∃ ti, E.ts.get t = some ti ∧ ti.desc = .string := by
  unfold seqA at hs
  split at hs
  · cases hs
  · rename_i ti ht
    split at hs
    · split at hs <;> cases hs
    · split at hs <;> cases hs
    · rename_i hd; exact ⟨ti, ht, hd⟩
    · cases hs
theorem addrF_eq (b o i size n : Nat) (S : R) : addrF b o i size n h K S = cond (Nat.blt i n) (K (.ptr (some (b, o + i * size))) h) S := by
  unfold addrF
  rw [brec, fNF_eq]; rfl
theorem indexAddr_eq (t : TypeId) (x ix : Operand) : indexAddrX t x ix E rc tm h K (semO E (.indexAddr t x ix) tm h K D) = semO E (.indexAddr t x ix) tm h K D := by
  unfold indexAddrX
  rw [valF_eq]
  have hops : (Op.indexAddr t x ix).operands.toList = [x, ix] := rfl
  cases ha : aev tm x with
  | none => simp only [semO, hops, aevL, ha]
  | some v =>
    simp only
    rw [valF_eq]
    cases hb : aev tm ix with
    | none => simp only [semO, hops, aevL, ha, hb]
    | some j =>
      simp only
      cases j <;> try rfl
      rename_i k n
      cases n with
      | negSucc _ => rfl
      | ofNat i =>
        rw [selNat_is]
        have sem : ∀ u, indexAddrA E t v (.int k (.ofNat i)) = some u → semO E (.indexAddr t x ix) tm h K D = K u h := fun u hu => by
          simp only [semO, hops, aevL, ha, hb, isComm, cond_false, lightA, hu]
        cases hs : seqA E t with
        | no => rfl
        | str => rfl
        | arr n y =>
          obtain ⟨ti, e, e1, e2, e3⟩ := seqA_arr hs
          cases v <;> try rfl
          rename_i p
          cases p with
          | none => rfl
          | some p =>
            obtain ⟨b, o⟩ := p
            show addrF b o i y.size n h K _ = _
            rw [addrF_eq]
            cases hlt : Nat.blt i n with
            | false => rfl
            | true => exact (sem (.ptr (some (b, o + i * y.size))) (by simp only [indexAddrA, e1, natOf, e2, e3, hlt, cond_true, fN_eq])).symm
        | slc y =>
          obtain ⟨ti, e, e1, e2, e3⟩ := seqA_slc hs
          cases v <;> try rfl
          rename_i p n c
          cases p with
          | none => rfl
          | some p =>
            obtain ⟨b, o⟩ := p
            show addrF b o i y.size n h K _ = _
            rw [addrF_eq]
            cases hlt : Nat.blt i n with
            | false => rfl
            | true => exact (sem (.ptr (some (b, o + i * y.size))) (by simp only [indexAddrA, e1, natOf, e2, e3, hlt, cond_true, fN_eq])).symm
theorem index_eq (t : TypeId) (x ix : Operand) : indexX t x ix E rc tm h K (semO E (.index t x ix) tm h K D) = semO E (.index t x ix) tm h K D := by
  unfold indexX
  rw [valF_eq]
  have hops : (Op.index t x ix).operands.toList = [x, ix] := rfl
  cases ha : aev tm x with
  | none => simp only [semO, hops, aevL, ha]
  | some v =>
    simp only
    rw [valF_eq]
    cases hb : aev tm ix with
    | none => simp only [semO, hops, aevL, ha, hb]
    | some j =>
      simp only
      cases j <;> try rfl
      rename_i k n
      cases n with
      | negSucc _ => rfl
      | ofNat i =>
        rw [selNat_is]
        have sem : ∀ u, indexA E t v (.int k (.ofNat i)) = some u → semO E (.index t x ix) tm h K D = K u h := fun u hu => by
          simp only [semO, hops, aevL, ha, hb, isComm, cond_false, lightA, hu]
        cases hs : seqA E t with
        | no => rfl
        | slc y => rfl
        | arr n y =>
          obtain ⟨ti, e, e1, e2, e3⟩ := seqA_arr hs
          cases v <;> try rfl
          rename_i cs
          show @Bool.rec (fun _ => R) _ (partF y cs (Nat.mul i y.size) (fun v => K v h) _) (Nat.blt i n) = _
          rw [brec]
          cases hlt : Nat.blt i n with
          | false => rfl
          | true =>
            rw [cond_true, partF_eq]
            cases hp : partA y cs (Nat.mul i y.size) with
            | none => rfl
            | some u =>
              refine (sem u ?_).symm
              simp only [indexA, e1, natOf, e2, e3, hlt, cond_true]
              exact hp
        | str =>
          obtain ⟨ti, e1, e2⟩ := seqA_str hs
          cases v <;> try rfl
          rename_i s
          show nthF s i _ _ = _
          rw [nthF_eq]
          cases hn : nth s i with
          | none => rfl
          | some b =>
            simp only
            rw [fNF_eq]
            exact (sem (.int .u8 (.ofNat b.toNat)) (by simp only [indexA, e1, natOf, e2, hn, fN_eq])).symm
theorem extract_eq (x : Operand) (ix : Nat) : extractX x ix E rc tm h K (semO E (.extract x ix) tm h K D) = semO E (.extract x ix) tm h K D := by
  unfold extractX
  rw [valF_eq]
  have hops : (Op.extract x ix).operands.toList = [x] := rfl
  cases ha : aev tm x with
  | none => simp only [semO, hops, aevL, ha]
  | some v =>
    simp only
    cases v <;> try rfl
    rename_i l
    rw [selTuple_is, nthF_eq]
    cases hn : nth l ix with
    | none => rfl
    | some u => simp only [semO, hops, aevL, ha, isComm, cond_false, lightA, hn]
theorem not_eq (op : UnOp) (xt : TypeId) (x : Operand) : unSel op x E rc tm h K (semO E (.unOp op xt x) tm h K D) = semO E (.unOp op xt x) tm h K D := by
  cases op <;> try rfl
  show notX x E rc tm h K _ = _
  unfold notX
  rw [valF_eq]
  have hops : (Op.unOp .not xt x).operands.toList = [x] := rfl
  cases ha : aev tm x with
  | none => simp only [semO, hops, aevL, ha]
  | some v =>
    simp only
    cases v <;> try rfl
    simp only [semO, hops, aevL, ha, isComm, cond_false, lightA, unA]
    rfl

theorem kEq_eq {a b : IntKind} (hk : kEq a b = true) : a = b := by
  cases a <;> cases b <;> first | rfl | cases hk
theorem wrapF_eq (k : IntKind) (n : Int) (K : AV → R) : wrapF k n K = K (.int k (wrapA k n)) := by
  unfold wrapF wrapA
  rw [brec]
  cases inR k n with
  | true => rw [cond_true, cond_true, fIF_eq]
  | false => rw [cond_false, cond_false, fIF_eq]
theorem minF_eq (a b : Nat) : minF a b = min a b := by
  unfold minF
  rw [brec]
  cases hb : Nat.ble a b with
  | true => have := Nat.le_of_ble_eq_true hb; rw [cond_true, Nat.min_eq_left this]
  | false =>
    have : ¬ a ≤ b := fun q => by rw [Nat.ble_eq_true_of_le q] at hb; cases hb
    rw [cond_false, Nat.min_eq_right (by omega)]

/-- a number's operation comes to the same, or is left -/
theorem binB_or (op : BinOp) (t : TypeId) (k k' : IntKind) (a b : Int) (K : AV → R) (S : R) :
    binB op k k' a b K S = S ∨ ∃ v, binA E op t (.int k a) (.int k' b) = some v ∧ binB op k k' a b K S = K v := by
  have num : ∀ (f : IntKind → Int → Int → (AV → R) → R → R), (k = k' → f k a b K S = S ∨ ∃ v, binA E op t (.int k a) (.int k' b) = some v ∧ f k a b K S = K v) →
      numB f k k' a b K S = S ∨ ∃ v, binA E op t (.int k a) (.int k' b) = some v ∧ numB f k k' a b K S = K v := fun f hf => by
    unfold numB
    rw [brec]
    cases hk : kEq k k' with
    | false => exact .inl rfl
    | true => rw [cond_true]; exact hf (kEq_eq hk)
  have nats : ∀ (f : Nat → Nat → Nat), (∀ m n, k = k' → a = .ofNat m → b = .ofNat n → inR k (.ofNat m) = true → inR k (.ofNat n) = true → binA E op t (.int k a) (.int k' b) = some (.int k (.ofNat (f m n)))) →
      natsB f k k' a b K S = S ∨ ∃ v, binA E op t (.int k a) (.int k' b) = some v ∧ natsB f k k' a b K S = K v := fun f hf => by
    refine num _ fun hk => ?_
    cases a with
    | negSucc _ => exact .inl rfl
    | ofNat m =>
      cases b with
      | negSucc _ => exact .inl rfl
      | ofNat n =>
        show (@Bool.rec (fun _ => R) S (@Bool.rec (fun _ => R) S _ (inR k (.ofNat n))) (inR k (.ofNat m))) = S ∨ _
        rw [brec, brec]
        cases h1 : inR k (.ofNat m) with
        | false => exact .inl rfl
        | true =>
          cases h2 : inR k (.ofNat n) with
          | false => exact .inl rfl
          | true =>
            rw [cond_true, cond_true, fNF_eq]
            refine .inr ⟨_, hf m n hk rfl rfl h1 h2, ?_⟩
            show (@Bool.rec (fun _ => R) S (@Bool.rec (fun _ => R) S _ (inR k (.ofNat n))) (inR k (.ofNat m))) = _
            rw [brec, brec, h1, h2, cond_true, cond_true, fNF_eq]
  cases op
  case add => exact num (fun k a b K _ => wrapF k (Int.add a b) K) fun hk => by subst hk; exact .inr ⟨.int k (wrapA k (a + b)), by simp [binA, arithA, intV_eq], wrapF_eq _ _ _⟩
  case sub => exact num (fun k a b K _ => wrapF k (Int.sub a b) K) fun hk => by subst hk; exact .inr ⟨.int k (wrapA k (a - b)), by simp [binA, arithA, intV_eq], wrapF_eq _ _ _⟩
  case mul => exact num (fun k a b K _ => wrapF k (Int.mul a b) K) fun hk => by subst hk; exact .inr ⟨.int k (wrapA k (a * b)), by simp [binA, arithA, intV_eq], wrapF_eq _ _ _⟩
  case eql => exact num (fun _ a b K _ => K (.bool (eqI a b))) fun hk => by subst hk; exact .inr ⟨.bool (eqI a b), by simp [binA, arithA], rfl⟩
  case neq => exact num (fun _ a b K _ => K (.bool (!eqI a b))) fun hk => by subst hk; exact .inr ⟨.bool (!eqI a b), by simp [binA, arithA], rfl⟩
  case lss => exact num (fun _ a b K _ => K (.bool (ltI a b))) fun hk => by subst hk; exact .inr ⟨.bool (ltI a b), by simp [binA, arithA], rfl⟩
  case leq => exact num (fun _ a b K _ => K (.bool (!ltI b a))) fun hk => by subst hk; exact .inr ⟨.bool (!ltI b a), by simp [binA, arithA], rfl⟩
  case gtr => exact num (fun _ a b K _ => K (.bool (ltI b a))) fun hk => by subst hk; exact .inr ⟨.bool (ltI b a), by simp [binA, arithA], rfl⟩
  case geq => exact num (fun _ a b K _ => K (.bool (!ltI a b))) fun hk => by subst hk; exact .inr ⟨.bool (!ltI a b), by simp [binA, arithA], rfl⟩
  case and =>
    refine nats Nat.land fun m n hk ha hb h1 h2 => ?_
    subst hk ha hb
    have e : bitsA .and k m n = some (.int k (.ofNat (Nat.land m n))) := by
      unfold bitsA; rw [h1, h2]; exact intV_eq _ _
    rw [← e]
    simp only [binA, if_true]
  case or =>
    refine nats Nat.lor fun m n hk ha hb h1 h2 => ?_
    subst hk ha hb
    have e : bitsA .or k m n = some (.int k (.ofNat (Nat.lor m n))) := by
      unfold bitsA; rw [h1, h2]; exact intV_eq _ _
    rw [← e]
    simp only [binA, if_true]
  case xor =>
    refine nats Nat.xor fun m n hk ha hb h1 h2 => ?_
    subst hk ha hb
    have e : bitsA .xor k m n = some (.int k (.ofNat (Nat.xor m n))) := by
      unfold bitsA; rw [h1, h2]; exact intV_eq _ _
    rw [← e]
    simp only [binA, if_true]
  case shl =>
    cases b with
    | negSucc _ => exact .inl rfl
    | ofNat n =>
      refine .inr ⟨.int k (wrapA k (a * (2 ^ (min n k.bits) : Nat))), by simp [binA, shiftA, intV_eq], ?_⟩
      show wrapF k (Int.mul a (.ofNat (Nat.pow 2 (minF n k.bits)))) K = _
      rw [wrapF_eq, minF_eq]; rfl
  case shr =>
    cases b with
    | negSucc _ => exact .inl rfl
    | ofNat n =>
      cases a with
      | negSucc _ => exact .inl rfl
      | ofNat m =>
        refine .inr ⟨.int k (.ofNat (m / 2 ^ (min n k.bits))), by simp [binA, shiftA, intV_eq], ?_⟩
        show fNF (Nat.div m (Nat.pow 2 (minF n k.bits))) (fun n => K (.int k (.ofNat n))) = _
        rw [fNF_eq, minF_eq]; rfl
  all_goals exact .inl rfl

theorem bin_eq (op : BinOp) (xt : TypeId) (x y : Operand) (yt : TypeId) : binX op x y E rc tm h K (semO E (.binOp op xt x y yt) tm h K D) = semO E (.binOp op xt x y yt) tm h K D := by
  unfold binX
  rw [valF_eq]
  have hops : (Op.binOp op xt x y yt).operands.toList = [x, y] := rfl
  cases ha : aev tm x with
  | none => simp only [semO, hops, aevL, ha]
  | some v =>
    simp only
    rw [valF_eq]
    cases hb : aev tm y with
    | none => simp only [semO, hops, aevL, ha, hb]
    | some u =>
      simp only
      cases v <;> try rfl
      cases u <;> try rfl
      rename_i k a k' b
      rw [selInt_is, selInt_is]
      rcases binB_or (E := E) op xt k k' a b (fun v => K v h) (semO E (.binOp op xt x y yt) tm h K D) with q | ⟨r, q1, q2⟩
      · exact q
      · rw [q2]
        simp only [semO, hops, aevL, ha, hb, isComm, cond_false, lightA, q1]

theorem initF_eq : ∀ (vs : List AV) (i : Nat) (t : T AV) (K : T AV → R), initF vs i t K = initTm i vs t K
  | [], i, t, K => rfl
  | v :: vs, i, t, K => by
    show T.setF (some v) (i + 1) t i (fun t => initF vs (i + 1) t K) = _
    rw [setF_eq]
    simp only [initTm]
    congr 1
    funext t
    exact initF_eq vs (i + 1) t K
theorem bodyOf_some {f : FuncId} {c : Code} {nt : Nat} (hb : bodyOf E f = some (c, nt)) : E.orc.get f = none ∧ ∃ fn, E.fs.get f = some fn ∧ fn.body = some c ∧ fn.ntmps = nt := by
  unfold bodyOf at hb
  split at hb
  · cases hb
  · rename_i ho
    split at hb
    · cases hb
    · rename_i fn hf
      split at hb
      · cases hb
      · rename_i c' hc
        cases hb
        exact ⟨ho, fn, hf, hc, rfl⟩
/-- a call is made, or left -/
theorem callF2_or (f : FuncId) (args : List AV) (S : R) : callF2 E rc f args h K S = S ∨ ∃ c nt, bodyOf E f = some (c, nt) ∧ callF2 E rc f args h K S = match enterA E f args false (fun cf => rc cf h) with
    | some (v, h) => K v h
    | none => none := by
  cases hb : bodyOf E f with
  | none =>
    left
    unfold callF2
    rw [hb]
  | some q =>
    obtain ⟨c, nt⟩ := q
    obtain ⟨_, fn, e1, e2, e3⟩ := bodyOf_some hb
    have key : callF2 E rc f args h K S = cond (Nat.ble args.length nt) (initF args 0 .nil fun tm => @Option.rec (AV × H) (fun _ => R) none (fun p => @Prod.rec AV H (fun _ => R) K p) (rc ⟨f, nt, tm, [.code c], [], none, false, false⟩ h)) S := by
      unfold callF2
      rw [hb]
      dsimp only
      rw [brec, lenF_eq]
    rw [key]
    cases hl : Nat.ble args.length nt with
    | false => exact .inl rfl
    | true =>
      right
      refine ⟨c, nt, rfl, ?_⟩
      rw [cond_true, initF_eq]
      have he : enterA E f args false (fun cf => rc cf h) = initTm 0 args .nil fun tm => rc ⟨f, nt, tm, [.code c], [], none, false, false⟩ h := by
        simp only [enterA, e1, e2, e3, hl, cond_true]
      rw [he]
      obtain ⟨t, g1, _⟩ := initTm_rel (K := fun tm => rc ⟨f, nt, tm, [.code c], [], none, false, false⟩ h) args 0 .nil
      have g2 : ∀ {β : Type} (vs : List AV) (i : Nat) (t : T AV), ∃ t', ∀ (K : T AV → β), initTm i vs t K = K t' := by
        intro β vs
        induction vs with
        | nil => exact fun i t => ⟨t, fun K => rfl⟩
        | cons v vs ih =>
          intro i t
          obtain ⟨t', h'⟩ := ih (i + 1) (T.set (some v) t i)
          exact ⟨t', fun K => by simp only [initTm, setK_set]; exact h' K⟩
      obtain ⟨t', g3⟩ := g2 (β := R) args 0 .nil
      rw [g3, g3]
      cases rc ⟨f, nt, t', [.code c], [], none, false, false⟩ h <;> rfl

theorem call_eq (hn : ∀ f args h, E.orc.get f = none → D (.enter f args) h = match enterA E f args false (fun cf => rc cf h) with
    | some (v, h) => K v h
    | none => none) (c : Call) : callSel c E rc tm h K (semO E (.call c) tm h K D) = semO E (.call c) tm h K D := by
  obtain ⟨callee, ⟨l⟩, ats⟩ := c
  cases callee with
  | invoke r m => rfl
  | builtin b => rfl
  | value f =>
    show callX f l E rc tm h K _ = _
    unfold callX
    rw [valF_eq]
    have hops : (Op.call ⟨.value f, ⟨l⟩, ats⟩).operands.toList = f :: l := by simp [Op.operands, Call.operands]
    cases ha : aev tm f with
    | none => simp only [semO, hops, aevL, ha]
    | some v =>
      simp only
      cases v <;> try rfl
      rename_i g first cap
      rw [selFunc_is, valsF_eq]
      cases hl : aevL tm l with
      | none => simp only [semO, hops, aevL, ha, hl]
      | some args =>
        simp only
        rw [appF_eq, appF_eq]
        rcases callF2_or (E := E) (rc := rc) (h := h) (K := K) g (first ++ (args ++ cap)) (semO E (.call ⟨.value f, ⟨l⟩, ats⟩) tm h K D) with q | ⟨c, nt, q1, q2⟩
        · exact q
        · rw [q2]
          obtain ⟨ho, fn, e1, e2, e3⟩ := bodyOf_some q1
          have : effA E (.call ⟨.value f, ⟨l⟩, ats⟩) (.func g first cap :: args) h = some (.enter g (first ++ (args ++ cap)), h) := by
            simp only [effA, opCall, valueCallA, fL_eq, callA, e1, e2, List.append_assoc]
          simp only [semO, hops, aevL, ha, hl, isComm, cond_false, lightA, this, hn _ _ _ ho]

theorem exSel_eq (hv : ∀ v h, D (.val v) h = K v h) (hn : ∀ f args h, E.orc.get f = none → D (.enter f args) h = match enterA E f args false (fun cf => rc cf h) with
    | some (v, h) => K v h
    | none => none) (o : Op) : exSel o E rc tm h K (semO E o tm h K D) = semO E o tm h K D := by
  cases o
  case move x => exact move_eq (rc := rc) x
  case assign x => exact assign_eq (rc := rc) x
  case pick c a b => exact pick_eq (rc := rc) c a b
  case alloc t => exact alloc_eq (rc := rc) hv t
  case box t x => exact box_eq (rc := rc) hv t x
  case load t a => exact load_eq (rc := rc) t a
  case store t a v => exact store_eq (rc := rc) hv t a v
  case binOp op xt x y yt => exact bin_eq (rc := rc) op xt x y yt
  case unOp op xt x => exact not_eq (rc := rc) op xt x
  case fieldAddr s x f => exact fieldAddr_eq (rc := rc) s x f
  case field s x f => exact field_eq (rc := rc) s x f
  case indexAddr t x i => exact indexAddr_eq (rc := rc) t x i
  case index t x i => exact index_eq (rc := rc) t x i
  case extract x i => exact extract_eq (rc := rc) x i
  case call c => exact call_eq hn c
  all_goals rfl

theorem putTF_eq (nt : Nat) (dst : Option Tmp) (v : AV) (tm : T AV) (G : T AV → R) : putTF nt dst v tm G = putDst nt dst v tm G := by
  cases dst with
  | none => rfl
  | some t =>
    show @Bool.rec (fun _ => R) none (T.setF (some v) (t + 1) tm t G) (Nat.blt t nt) = _
    rw [brec, setF_eq]; rfl

/-- opsA2, said by semO -/
theorem ops2_sem (rcN : RCT) (fr : AF) (ops : Array Oper) (o : Oper) (rest : List Oper) (k : List AItem) : opsA2 E rc rcN fr h ops o rest k =
    cond (wantedA ops fr.tm o) (semO E o.op fr.tm h (fun v h => putDst fr.nt o.dst v fr.tm fun tm => rcN { fr with tm := tm, todo := .ops ops rest :: k } h)
      (fun n h => match n with
        | .defer f args => (match fr.roundOf with
          | some _ => none
          | none => putDst fr.nt o.dst undefA fr.tm fun tm => rcN { fr with tm := tm, todo := .ops ops rest :: k, defers := .call f args :: fr.defers } h)
        | .recover => cond fr.deferred (match fr.roundOf with
          | some _ => none
          | none => putDst fr.nt o.dst .nilIface fr.tm fun tm => rcN { fr with tm := tm, todo := .ops ops rest :: k } h) none
        | n => match stepA E rc (some (n, h)) with
          | some (v, h) => putDst fr.nt o.dst v fr.tm fun tm => rcN { fr with tm := tm, todo := .ops ops rest :: k } h
          | none => none))
      (putDst fr.nt o.dst undefA fr.tm fun tm => rcN { fr with tm := tm, todo := .ops ops rest :: k } h) := by
  unfold opsA2 semO
  cases wantedA ops fr.tm o with
  | false => rfl
  | true =>
    simp only [cond_true]
    cases aevL fr.tm o.op.operands.toList with
    | none => rfl
    | some vs =>
      simp only
      cases isComm o.op with
      | true => rfl
      | false =>
        simp only [cond_false]
        cases lightA E o.op vs h with
        | some v => rfl
        | none =>
          simp only
          cases effA E o.op vs h with
          | none => rfl
          | some p =>
            obtain ⟨n, h⟩ := p
            cases n <;> rfl

theorem oper_eq (ops : Array Oper) (k : List AItem) (o : Oper) (rest : List Oper) (ih : AF → T AV → H → R) (rcN : RCT)
    (hih : ∀ fr x tm h, ih fr tm h = rcN { fr with tm := tm, todo := x } h) (fr : AF) (x : List AItem) :
    operF E rc ops k o rest ih fr tm h = opsA2 E rc rcN { fr with tm := tm, todo := x } h ops o rest k := by
  obtain ⟨dst, op, ty, pos, after, guard⟩ := o
  obtain ⟨fn, nt, tm0, td, df, ro, d, ret⟩ := fr
  have hrc : (fun (fr : AF) (h : H) => ih fr fr.tm h) = rcN := by
    funext fr h
    rw [hih fr fr.todo]
  have hslow : ∀ o, slowOp E rc ops k o rest ih ⟨fn, nt, tm0, td, df, ro, d, ret⟩ tm h = opsA2 E rc rcN ⟨fn, nt, tm, x, df, ro, d, ret⟩ h ops o rest k := fun o => by
    unfold slowOp
    rw [hrc, ops2_sem, ops2_sem]
    rfl
  have hK : (fun (v : AV) (h : H) => putTF nt dst v tm fun tm => ih ⟨fn, nt, tm0, td, df, ro, d, ret⟩ tm h) = fun v h => putDst nt dst v tm fun tm => rcN ⟨fn, nt, tm, .ops ops rest :: k, df, ro, d, ret⟩ h := by
    funext v h
    rw [putTF_eq]
    congr 1
    funext tm
    exact hih _ _ _ _
  have hex : ∀ guard, wantedA ops tm ⟨dst, op, ty, pos, after, guard⟩ = true → exSel op E rc tm h (fun v h => putTF nt dst v tm fun tm => ih ⟨fn, nt, tm0, td, df, ro, d, ret⟩ tm h)
      (slowOp E rc ops k ⟨dst, op, ty, pos, after, guard⟩ rest ih ⟨fn, nt, tm0, td, df, ro, d, ret⟩ tm h) = opsA2 E rc rcN ⟨fn, nt, tm, x, df, ro, d, ret⟩ h ops ⟨dst, op, ty, pos, after, guard⟩ rest k := fun guard hw => by
    rw [hslow, hK, ops2_sem]
    simp only [hw, cond_true]
    refine exSel_eq (fun v h => by simp only [stepA]) (fun f args h ho => by simp only [stepA, orcR, ho]) op
  have hskip : ∀ guard, wantedA ops tm ⟨dst, op, ty, pos, after, guard⟩ = false → (putTF nt dst undefA tm fun tm => ih ⟨fn, nt, tm0, td, df, ro, d, ret⟩ tm h) = opsA2 E rc rcN ⟨fn, nt, tm, x, df, ro, d, ret⟩ h ops ⟨dst, op, ty, pos, after, guard⟩ rest k := fun guard hw => by
    rw [ops2_sem]
    simp only [hw, cond_false]
    exact congrFun (congrFun hK undefA) h
  cases guard with
  | none => exact hex none rfl
  | some g =>
    unfold operF
    dsimp only
    rw [brec]
    cases hw : wantedA ops tm ⟨dst, op, ty, pos, after, some g⟩ with
    | true => exact hex (some g) hw
    | false => exact hskip (some g) hw

theorem loop_eq (ops : Array Oper) (k : List AItem) : ∀ (l : List Oper) (fr : AF) (x : List AItem) (tm : T AV) (h : H), loopF E rc ops k l fr tm h = loopA E rc ops k l { fr with tm := tm, todo := x } h
  | [], fr, x, tm, h => rfl
  | o :: rest, fr, x, tm, h => oper_eq ops k o rest (loopF E rc ops k rest) (loopA E rc ops k rest) (fun fr x tm h => loop_eq ops k rest fr x tm h) fr x

theorem code_eq : ∀ (c : Code) (k : List AItem) (fr : AF) (h : H), codeF c E rc k fr h = codeL E rc c k { fr with todo := .code c :: k } h
  | .skip, k, fr, h => rfl
  | .label _, k, fr, h => rfl
  | .seq a b, k, fr, h => code_eq a (.code b :: k) fr h
  | .cond c a b, k, fr, h => by
    show valF fr.tm c (fun v => selBool v (fun t => @Bool.rec (fun _ => R) (codeF b E rc k fr h) (codeF a E rc k fr h) t) none) = _
    rw [valF_eq]
    simp only [codeL]
    cases aev fr.tm c with
    | none => rfl
    | some v =>
      cases v <;> try rfl
      rename_i t
      cases t with
      | true => exact code_eq a k fr h
      | false => exact code_eq b k fr h
  | .block id c, k, fr, h => code_eq c (.inBlock id :: k) fr h
  | .loop c, k, fr, h => code_eq c (.inLoop c :: k) fr h
  | .scope c, k, fr, h => code_eq c (.inScope c :: k) fr h
  | .region id ops draw, k, fr, h => by
    cases draw with
    | true => rfl
    | false => exact loop_eq ops k ops.toList fr _ fr.tm h
  | .ret, k, fr, h => rfl
  | .exit id, k, fr, h => rfl
  | .goto l, k, fr, h => rfl
  | .rangeFunc f p a b, k, fr, h => rfl
  | .refuse _, _, _, _ => rfl

theorem body_eq (fr : AF) (h : H) : bodyF E rc fr h = bodyL E rc fr h := by
  obtain ⟨fn, nt, tm, td, df, ro, d, ret⟩ := fr
  unfold bodyF bodyL
  dsimp only
  rw [brec]
  cases ret with
  | true => rfl
  | false =>
    rw [cond_false, cond_false]
    cases td with
    | nil => rfl
    | cons it k =>
      cases it with
      | code c => exact code_eq c k ⟨fn, nt, tm, .code c :: k, df, ro, d, false⟩ h
      | inLoop c => exact code_eq c (.inLoop c :: k) ⟨fn, nt, tm, .inLoop c :: k, df, ro, d, false⟩ h
      | _ => rfl
theorem run_eq : ∀ n, runF E n = runL E n
  | 0 => rfl
  | n + 1 => by
    funext fr h
    show bodyF E (runF E n) fr h = bodyL E (runL E n) fr h
    rw [run_eq n, body_eq]
theorem callFF_eq {n : Nat} {f : FuncId} {args : List AV} {r : AV × H} (hc : callFF E n f args h = some r) : callL E n f args h = some r := by
  unfold callFF at hc
  rcases callF2_or (E := E) (rc := runF E n) (h := h) (K := fun v h => some (v, h)) f args none with q | ⟨c, nt, q1, q2⟩
  · rw [q] at hc; cases hc
  · rw [q2, run_eq] at hc
    unfold callL
    cases he : enterA E f args false (fun cf => runL E n cf h) with
    | none => rw [he] at hc; cases hc
    | some p => rw [he] at hc; exact hc
end

def isTrue : Option (AV × H) → Bool
  | some (.bool true, _) => true
  | _ => false
/-- a function without arguments that the kernel runs: it answers true -/
theorem lives_of {P : Program} (hm : P.follows .mixedOrders = true) (hn : namesOk P = true) {n f : Nat} (hr : isTrue (callFF (envOf P) n f [] ⟨0, .nil⟩) = true) (w : World) :
    Calls P f #[] w fun e w' => e = .returned (.bool true) ∧ Go.RowKit.Below w.heap.size w w' := by
  cases hc : callFF (envOf P) n f [] ⟨0, .nil⟩ with
  | none => rw [hc] at hr; cases hr
  | some p =>
    obtain ⟨v, h'⟩ := p
    rw [hc] at hr
    cases v <;> try (cases hr; done)
    rename_i b
    cases b with
    | false => cases hr
    | true => exact callL_plain (env_ok hm hn) (callFF_eq hc) w
/-- a function with arguments that lead to no memory, run by the kernel: it answers true -/
theorem run_of {P : Program} (hm : P.follows .mixedOrders = true) (hn : namesOk P = true) {n f : Nat} {args : List AV} {xs : List Value} (hx : concL (fun _ => none) args = some xs)
    (hr : isTrue (callFF (envOf P) n f args ⟨0, .nil⟩) = true) (w : World) : Calls P f ⟨xs⟩ w fun e w' => e = .returned (.bool true) ∧ Go.RowKit.Below w.heap.size w w' := by
  cases hc : callFF (envOf P) n f args ⟨0, .nil⟩ with
  | none => rw [hc] at hr; cases hr
  | some p =>
    obtain ⟨v, h'⟩ := p
    rw [hc] at hr
    cases v <;> try (cases hr; done)
    rename_i b
    cases b with
    | false => cases hr
    | true =>
      have := callL_sound (env_ok hm hn) (callFF_eq hc) (σ := fun _ => none) (w := w) hx ⟨fun _ _ => rfl, fun i o hi => by simp [get_nil] at hi, fun i j o o' b c c' hi => by simp [get_nil] at hi⟩
      refine this.mono fun e w' he => ?_
      obtain ⟨σ', x, rfl, h1, h2, h3⟩ := he
      simp only [conc, Option.some.injEq] at h1
      subst h1
      exact ⟨rfl, h3.below⟩
/-! .. with functions that are answered out of contracts -/
/-- a function without arguments that the kernel runs: it answers true -/
theorem lives_ofO {P : Program} (hm : P.follows .mixedOrders = true) (hn : namesOk P = true) {o : T (List AV → H → Option (AV × H))} (ho : ∀ f g, o.get f = some g → OrcOk P f g) {n f : Nat} (hr : isTrue (callFF (envO P o) n f [] ⟨0, .nil⟩) = true) (w : World) :
    Calls P f #[] w fun e w' => e = .returned (.bool true) ∧ Go.RowKit.Below w.heap.size w w' := by
  cases hc : callFF (envO P o) n f [] ⟨0, .nil⟩ with
  | none => rw [hc] at hr; cases hr
  | some p =>
    obtain ⟨v, h'⟩ := p
    rw [hc] at hr
    cases v <;> try (cases hr; done)
    rename_i b
    cases b with
    | false => cases hr
    | true => exact callL_plain (env_okO hm hn ho) (callFF_eq hc) w
/-- a function with arguments that lead to no memory, run by the kernel: it answers true -/
theorem run_ofO {P : Program} (hm : P.follows .mixedOrders = true) (hn : namesOk P = true) {o : T (List AV → H → Option (AV × H))} (ho : ∀ f g, o.get f = some g → OrcOk P f g) {n f : Nat} {args : List AV} {xs : List Value} (hx : concL (fun _ => none) args = some xs)
    (hr : isTrue (callFF (envO P o) n f args ⟨0, .nil⟩) = true) (w : World) : Calls P f ⟨xs⟩ w fun e w' => e = .returned (.bool true) ∧ Go.RowKit.Below w.heap.size w w' := by
  cases hc : callFF (envO P o) n f args ⟨0, .nil⟩ with
  | none => rw [hc] at hr; cases hr
  | some p =>
    obtain ⟨v, h'⟩ := p
    rw [hc] at hr
    cases v <;> try (cases hr; done)
    rename_i b
    cases b with
    | false => cases hr
    | true =>
      have := callL_sound (env_okO hm hn ho) (callFF_eq hc) (σ := fun _ => none) (w := w) hx ⟨fun _ _ => rfl, fun i o hi => by simp [get_nil] at hi, fun i j o o' b c c' hi => by simp [get_nil] at hi⟩
      refine this.mono fun e w' he => ?_
      obtain ⟨σ', x, rfl, h1, h2, h3⟩ := he
      simp only [conc, Option.some.injEq] at h1
      subst h1
      exact ⟨rfl, h3.below⟩
end Go.Ev
