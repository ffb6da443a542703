/- The evaluator's soundness: operations that make a block. -/
import Derived.Test.YtaodaeehndocgaaGreatEvI
set_option linter.unusedSimpArgs false
set_option linter.unusedVariables false
namespace Go.Ev

section
variable {P : Program} {E : Env} {σ : Sg} {w : World}

theorem rep_range (z : Array Value) : ∀ n, (List.range (n * z.size)).map (fun i => z[i % z.size]!) = rep n z.toList
  | 0 => by simp [rep]
  | n + 1 => by
    rw [show (n + 1) * z.size = z.size + n * z.size by rw [Nat.add_mul]; omega, List.range_add, List.map_append, rep]
    congr 1
    · apply List.ext_getElem
      · simp
      · intro i h1 h2
        simp at h1 h2
        simp [Nat.mod_eq_of_lt h1, h1]
    · rw [List.map_map, ← rep_range z n]
      congr 1
      funext i
      simp

theorem rep_zero {n s : Nat} (z : Array Value) (hz : z.size = s) : ((Array.range (n * s)).map (fun i => (if n * s = 0 then #[] else z)[i % (if n * s = 0 then #[] else z).size]!)).toList = rep n z.toList := by
  subst hz
  by_cases h : n * z.size = 0
  · rw [h]
    simp
    rcases Nat.mul_eq_zero.1 h with h | h
    · subst h; rfl
    · have : z = #[] := Array.size_eq_zero_iff.1 h
      subst this
      clear h
      induction n with
      | zero => rfl
      | succ n ih => simp [rep]; simpa using ih
  · simp only [h, if_false]
    rw [← rep_range]; simp [Array.toList_map, Array.toList_range]

/-- what a new block owes -/
def Alloc (P : Program) (σ : Sg) (w : World) (s : Sem Next) (ob : AObj) (mk : Nat → AV) : Prop :=
  ∃ x w' obj c, s.run P w = .ok (.value x) w' ∧ w'.os = w.os ∧ w'.tape = w.tape ∧ w'.output = w.output ∧ w'.heap = w.heap.push obj ∧
    ∀ σ' j, Sub σ σ' → σ' j = some (w.heap.size, c) → ORel σ' c ob obj ∧ conc σ' (mk j) = some x

theorem cells_orel {σ : Sg} {cs : List AV} {l : List Value} (h : concL σ cs = some l) (e : TypeId) (c : Nat) : ORel σ c (.cells cs e none true) (.cells ⟨l⟩ e (0, 0)) := by
  refine ⟨l, h, ⟨[], by simp⟩, rfl, ?_, fun _ o _ => by simp⟩
  simp [extOk, concL_length h]

theorem alloc_row {s : Sem Next} {cs : List AV} {l : List Value} {e : TypeId} {mk : Nat → AV} {x : Value}
    (hl : concL σ cs = some l) (hr : s.run P w = .ok (.value x) { w with heap := w.heap.push (.cells ⟨l⟩ e (0, 0)) })
    (hm : ∀ σ' j c, Sub σ σ' → σ' j = some (w.heap.size, c) → conc σ' (mk j) = some x) : Alloc P σ w s (.cells cs e none true) mk :=
  ⟨x, _, _, 0, hr, rfl, rfl, rfl, rfl, fun σ' j hs hj => ⟨cells_orel (concL_mono hs _ _ hl) e 0, hm σ' j 0 hs hj⟩⟩

theorem p48 : (2 : Int) ^ 48 = 281474976710656 := by decide
theorem imax : IntKind.i64.max = 9223372036854775807 := by decide
theorem wrap_nat {n : Nat} (h : n ≤ 1000000) : IntKind.i64.wrap (n : Int) = n := by
  unfold IntKind.wrap IntKind.bits IntKind.signed; simp; omega

theorem concL_cellsOfBytes (σ : Sg) : ∀ s : List UInt8, concL σ (cellsOfBytes s) = some (s.map fun b => .int .u8 (Int.ofNat b.toNat))
  | [] => by simp [cellsOfBytes, concL]
  | b :: s => by simp [cellsOfBytes, concL, conc, concL_cellsOfBytes σ s]
theorem length_cellsOfBytes : ∀ s : List UInt8, (cellsOfBytes s).length = s.length
  | [] => rfl
  | b :: s => by simp [cellsOfBytes, length_cellsOfBytes s]

theorem cut_cap (n : Nat) (e : TypeId) (t : Nat) : n ≤ (Question.appendCap n 0 e).cut t := by simp [Question.cut]

theorem modify_push (a : Array Obj) (x : Obj) (f : Obj → Obj) : (a.push x).modify a.size f = a.push (f x) := by
  apply Array.ext_getElem?
  intro i
  rw [Array.getElem?_modify, Array.getElem?_push, Array.getElem?_push]
  by_cases h : i = a.size
  · subst h; simp
  · rw [if_neg (by omega), if_neg h, if_neg h]

theorem alloc_sound (hE : EnvOk P E) {o : Oper} {ρ : Operand → Value} {vs : List AV} (hv : concL σ vs = some (o.op.operands.toList.map ρ)) {ob : AObj} {mk : Nat → AV} (h : allocA E o.op vs = some (ob, mk)) :
    Alloc P σ w (execOp ρ o) ob mk := by
  obtain ⟨dst, op, type, pos, after, guard⟩ := o
  simp only at hv h
  cases op
  case alloc t =>
    have := inv0 (by simpa [Op.operands] using hv); subst this
    simp only [allocA] at h
    cases hg : E.ts.get t with
    | none => simp [hg] at h
    | some x =>
      simp [hg] at h
      obtain ⟨rfl, rfl⟩ := h
      obtain ⟨z, hz1, hz2⟩ := zero_cells (hE.ts _ _ hg)
      refine alloc_row (hz2 σ) (x := .pointer (some ⟨w.heap.size, 0, none⟩)) ?_ (fun σ' j c hs hj => by simp [conc, hj])
      simp [execOp, Instr.alloc, hz1, newVar, newRow]
  case box t x =>
    obtain ⟨a, rfl, ha⟩ := inv1 (by simpa [Op.operands] using hv)
    simp only [allocA] at h
    cases h
    refine alloc_row (conc_cells ha) (x := .pointer (some ⟨w.heap.size, 0, none⟩)) ?_ (fun σ' j c hs hj => by simp [conc, hj])
    simp [execOp, Instr.box, newVar, newRow]
  case buildSlice t n ps =>
    have hv' : concL σ vs = some ((ps.toList.map (·.2)).map ρ) := by simpa [Op.operands] using hv
    simp only [allocA, buildSliceA] at h
    cases hg : E.ts.get t with
    | none => simp [hg] at h
    | some x =>
      have ht := hE.ts _ _ hg
      simp only [hg] at h
      split at h
      · rename_i e hd
        cases he : E.ts.get e with
        | none => simp [he] at h
        | some y =>
          have hty := hE.ts _ _ he
          obtain ⟨z, hz1, hz2⟩ := zero_cells hty
          simp only [he] at h
          cases hb : Nat.ble (n * y.size) 100000 with
          | false => simp [hb] at h
          | true =>
            simp only [hb, cond_true] at h
            have hle := Nat.le_of_ble_eq_true hb
            cases hf : fillA (fun i => some (i * y.size, y.size)) (ps.toList.map (·.1)) vs (rep n y.zero.cells) with
            | none => simp [hf] at h
            | some cs =>
              simp [hf, fL_eq] at h
              obtain ⟨rfl, rfl⟩ := h
              have hzs : z.cells.size = y.size := by
                have := concL_length (hz2 σ); rw [hty.zlen] at this; simpa using this
              obtain ⟨rl, e1, e2⟩ := fill_sound (σ := σ) (place' := fun i => some (i * y.size, y.size)) (fun i p hp => hp) hv' (concL_rep (hz2 σ) n) hf
              refine alloc_row e2 (x := .slice (some ⟨w.heap.size, 0, none⟩) n n) ?_ (fun σ' j c hs hj => by simp [conc, hj])
              have m1 : (ps.map fun (p : Nat × Operand) => (p.1, ρ p.2)).toList = (ps.toList.map (·.1)).zip ((ps.toList.map (·.2)).map ρ) := by
                simp
                induction ps.toList with
                | nil => rfl
                | cons p l ih => simp [ih]
              have e1' : Instr.fill (fun i => some (i * y.size, y.size)) ((Array.range (n * y.size)).map (fun i => (if n * y.size = 0 then #[] else z.cells)[i % (if n * y.size = 0 then #[] else z.cells).size]!)) (ps.map fun (p : Nat × Operand) => (p.1, ρ p.2)).toList = some ⟨rl⟩ := by
                rw [m1, ← e1]; congr 1
                rw [← Array.toList_inj]; exact rep_zero _ hzs
              have hnot : ¬ (n * y.size > 2 ^ 24) := by omega
              simp only [execOp, Instr.buildSlice, Sem.run_bind, ht.run, hd, Result.andThen_ok, hty.size, hnot, if_false, Sem.run_pure]
              by_cases h0 : n * y.size = 0
              · simp only [if_pos h0] at e1' ⊢
                simp only [Sem.run_bind, Sem.run_pure, Result.andThen_ok, e1']
                rfl
              · simp only [if_neg h0] at e1' ⊢
                simp only [Sem.run_bind, Sem.run_pure, hz1, Result.andThen_ok, e1']
                rfl
      · cases h
  case convert s d x =>
    obtain ⟨a, rfl, ha⟩ := inv1 (by simpa [Op.operands] using hv)
    simp only [allocA, convN] at h
    split at h
    · rename_i si ti st hgs hg
      have ht := hE.ts _ _ hg
      have hts := hE.ts _ _ hgs
      have ex := conc_str ha
      split at h
      · rename_i e hd
        cases he : E.ts.get e with
        | none => simp [he] at h
        | some y =>
          have hty := hE.ts _ _ he
          simp only [he] at h
          split at h
          · rename_i hyd
            cases hb : Nat.ble st.length 1000000 with
            | false => simp [hb] at h
            | true =>
              simp [hb, fN_eq] at h
              obtain ⟨rfl, rfl⟩ := h
              have hcv : ∀ s', (convert s d (.string s')).run P w = (Conv.stringToBytes e s').run P w := by
                intro s'
                unfold convert
                simp only [Sem.run_bind, hts.run, ht.run, Result.andThen_ok, hd]
                cases si.desc <;> simp [hty.run, hyd]
              let cap := (Question.appendCap st.length 0 e).cut (w.tape w.drawn (.appendCap st.length 0 e))
              have hcap : st.length ≤ cap := cut_cap _ _ _
              let row : Array Value := (⟨⟨st⟩⟩ : ByteArray).data.map (fun b => Value.int .u8 b.toNat) ++ Array.replicate (cap - st.length) (.int .u8 0)
              have hrow : row.size = cap := by simp [row]; omega
              refine ⟨.slice (some ⟨w.heap.size, 0, none⟩) st.length cap, { w with drawn := w.drawn + 1, heap := w.heap.push (.cells row e (cap, cap + 1)) }, .cells row e (cap, cap + 1), cap, ?_, rfl, rfl, rfl, rfl, fun σ' j hs hj => ⟨?_, ?_⟩⟩
              · simp only [execOp, ex, Sem.run_bind, hcv, Conv.stringToBytes, run_choose, Question.forced, size_mk, newRow, markStringish]
                simp only [Bool.false_eq_true, if_false, Result.andThen_ok, Sem.run_bind]
                show Result.andThen _ _ = _
                have hsh : ({ w with drawn := w.drawn + 1, heap := w.heap.push (.cells row e) } : World).shape? w.heap.size = some (e, cap) := by
                  simp [World.shape?, hrow]
                simp only [newObj, Sem.run, Sem.run_pure, Result.andThen_ok, run_shape]
                simp only [row, cap] at hsh
                simp only [hsh]
                simp only [run_freeze, Result.andThen_ok, World.freeze]
                simp [modify_push, row, cap]
              · refine ⟨st.map fun b => .int .u8 (Int.ofNat b.toNat), concL_cellsOfBytes σ' st, ⟨List.replicate (cap - st.length) (.int .u8 0), by simp [row]⟩, rfl, by simp [extOk, hrow], fun _ o ho => by rw [hrow] at ho; simp; omega⟩
              · simp [conc, hj, hcap]
          · cases h
      · cases h
    · cases h
  case makeMap t rr =>
    cases rr with
    | some x => obtain ⟨a, rfl, ha⟩ := inv1 (by simpa [Op.operands] using hv); simp only [allocA] at h; cases h
    | none =>
      have := inv0 (by simpa [Op.operands] using hv); subst this
      simp only [allocA] at h; cases h
      exact ⟨.map (some w.heap.size), w.alloc (.map #[] 0), .map #[] 0, 0, by simp [execOp, Instr.makeMap], rfl, rfl, rfl, rfl, fun σ' j hs hj => ⟨⟨rfl, by simp [concE]⟩, by simp [conc, hj]⟩⟩
  case makeChan t x =>
    obtain ⟨a, rfl, ha⟩ := inv1 (by simpa [Op.operands] using hv)
    simp only [allocA] at h
    split at h
    · rename_i ti n hg hn
      have ht := hE.ts _ _ hg
      obtain ⟨k, ex⟩ := natOf_sound ha hn
      split at h
      · rename_i dir e hd
        cases he : E.ts.get e with
        | none => simp [he] at h
        | some y =>
          have hty := hE.ts _ _ he
          simp only [he] at h
          cases hb : (Nat.ble n 1000000 && Nat.ble (y.bytes * n) 1000000) with
          | false => rw [hb] at h; cases h
          | true =>
            rw [hb] at h; simp only [cond_true] at h; cases h
            simp only [Bool.and_eq_true] at hb
            have b1 := Nat.le_of_ble_eq_true hb.1
            have b2 := Nat.le_of_ble_eq_true hb.2
            obtain ⟨i, hi1, hi2⟩ := hty.bytes
            refine ⟨.chan (some w.heap.size), w.alloc (.chan n #[] false 0 0 false), .chan n #[] false 0 0 false, 0, ?_, rfl, rfl, rfl, rfl, fun σ' j hs hj => ⟨⟨rfl, by simp [concL], rfl, rfl⟩, by simp [conc, hj]⟩⟩
            have hcond : ¬ ((n : Int) < 0 ∨ (n : Int) > IntKind.i64.max ∨ (i.bytes : Int) * (n : Int) > 2 ^ 48 - 112) := by
              rw [hi2]
              have := Int.ofNat_le.2 b2
              rw [Int.natCast_mul] at this
              rw [p48, imax]
              generalize (y.bytes : Int) * (n : Int) = q at this
              omega
            simp only [execOp, ex, Instr.makeChan, asInt, asIntOf, Sem.run_bind, Sem.run_pure, Result.andThen_ok, ht.run, hd, hi1, Int.ofNat_eq_natCast]
            simp only [hcond, if_false]
            simp
      · cases h
    · cases h
  case makeSlice t lx cx =>
    obtain ⟨a, b, rfl, ha, hb⟩ := inv2 (by simpa [Op.operands] using hv)
    simp only [allocA] at h
    split at h
    · rename_i ti l c hg hl hc
      have ht := hE.ts _ _ hg
      obtain ⟨k1, e1⟩ := natOf_sound ha hl
      obtain ⟨k2, e2⟩ := natOf_sound hb hc
      split at h
      · rename_i e hd
        cases he : E.ts.get e with
        | none => simp [he] at h
        | some y =>
          have hty := hE.ts _ _ he
          obtain ⟨z, hz1, hz2⟩ := zero_cells hty
          simp only [he] at h
          cases hbb : (Nat.ble l c && Nat.ble c 1000000 && Nat.ble (y.bytes * c) 1000000) with
          | false => rw [hbb] at h; cases h
          | true =>
            rw [hbb] at h; simp only [cond_true, fL_eq] at h; cases h
            simp only [Bool.and_eq_true] at hbb
            have b1 := Nat.le_of_ble_eq_true hbb.1.1
            have b2 := Nat.le_of_ble_eq_true hbb.1.2
            have b3 := Nat.le_of_ble_eq_true hbb.2
            obtain ⟨i, hi1, hi2⟩ := hty.bytes
            have hzs : z.cells.size = y.size := by
              have := concL_length (hz2 σ); rw [hty.zlen] at this; simpa using this
            refine alloc_row (concL_rep (hz2 σ) c) (x := .slice (some ⟨w.heap.size, 0, none⟩) l c) ?_ (fun σ' j c hs hj => by simp [conc, hj])
            have w1 := wrap_nat (n := l) (by omega)
            have w2 := wrap_nat (n := c) b2
            have hb3 := Int.ofNat_le.2 b3
            rw [Int.natCast_mul] at hb3
            have hcond : ((((c : Int) < 0 || (i.bytes : Int) * (c : Int) > 2 ^ 48) || (l : Int) < 0) || (l : Int) > (c : Int)) = false := by
              rw [hi2, p48]
              generalize (y.bytes : Int) * (c : Int) = q at hb3
              simp only [Bool.or_eq_false_iff, decide_eq_false_iff_not]
              omega
            have hrow := rep_zero (n := c) z.cells hzs
            simp only [execOp, e1, e2, Instr.makeSlice, asInt, asIntOf, Sem.run_bind, Sem.run_pure, Result.andThen_ok, ht.run, hd, hi1, Int.ofNat_eq_natCast, w1, w2]
            have hcond2 : (decide ((c : Int) < 0) || decide ((i.bytes : Int) * (c : Int) > 2 ^ 48) || decide ((l : Int) < 0) || decide ((l : Int) > (c : Int))) = false := by simpa using hcond
            have hrow' : (Array.range (c * y.size)).map (fun i => (if c * y.size = 0 then #[] else z.cells)[i % (if c * y.size = 0 then #[] else z.cells).size]!) = ⟨rep c z.cells.toList⟩ := by
              rw [← Array.toList_inj]; exact hrow
            simp only [hcond2, Bool.false_eq_true, if_false, run_askRoom, Sem.run_bind, Result.andThen_ok, hty.size, Int.toNat_natCast]
            by_cases h0 : c * y.size = 0
            · simp only [if_pos h0] at hrow' ⊢
              simp only [Sem.run_bind, Sem.run_pure, Result.andThen_ok, hrow']
              rfl
            · simp only [if_neg h0] at hrow' ⊢
              simp only [Sem.run_bind, Sem.run_pure, hz1, Result.andThen_ok, hrow']
              rfl
      · cases h
    · cases h
  all_goals (simp only [allocA] at h; cases h)

end
end Go.Ev
