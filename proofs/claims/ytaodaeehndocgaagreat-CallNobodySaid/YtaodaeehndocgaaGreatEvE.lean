/- The evaluator's soundness: what it is told of a program; operations that leave memory alone. -/
import Derived.Test.YtaodaeehndocgaaGreatEvD
set_option linter.unusedSimpArgs false
set_option linter.unusedVariables false
namespace Go.Ev

def aggD : TypeDesc → Bool
  | .struct _ => true
  | .array _ _ => true
  | _ => false

/-- what a row of the table of types says -/
structure TOk (P : Program) (t : TypeId) (x : TI) : Prop where
  und : P.underlying t = some x.desc
  agg : x.agg = aggD x.desc
  zlen : x.zero.cells.length = x.size
  flds : (match x.desc with
    | .struct fs => fs.toList.all fun f => (P.info? f.type).isSome
    | _ => true) = true
  info : ∃ i z, P.info? t = some i ∧ i.size = x.size ∧ i.bytes = x.bytes ∧ i.zero = some z ∧ ofV z = some x.zero

structure EnvOk (P : Program) (E : Env) : Prop where
  mixed : P.follows .mixedOrders = true
  fs : ∀ f fn, E.fs.get f = some fn → P.funcs[f]? = some fn
  enter : ∀ f fn c, E.fs.get f = some fn → fn.body = some c → ∀ args w, (callFunc f args).run P w = .ok (.enter f args) w
  noEscape : ∀ f fn, E.fs.get f = some fn → fn.body = none → fn.name = "internal/abi.NoEscape" → ∀ x w, (callFunc f #[x]).run P w = .ok (.value x) w
  clone : ∀ f fn, E.fs.get f = some fn → fn.body = none → fn.name = "maps.clone" → ∀ t r w es c, w.heap[r]? = some (.map es c) →
    (callFunc f #[.iface t (.map (some r))]).run P w = .ok (.value (.iface t (.map (some w.heap.size)))) { w with heap := w.heap.push (.map es c) }
  ts : ∀ t x, E.ts.get t = some x → TOk P t x
  ms : ∀ t name f, E.ms t name = some f → ∀ v args w, (callMethod (.iface t v) name args).run P w = (callFunc f (#[v] ++ args)).run P w
  be : ∀ t, E.be t = true → P.eqGuardType P.depth t = false ∧ P.stoodInHeld t = false
  bx : ∀ t e, E.bx t e = true → (∃ i, P.info? t = some i ∧ i.size ≠ 0) ∧ P.cellsOf e ≠ 0 ∧ liesAt P P.depth e 1 0 t 1 = true
  bs : ∀ t e, E.bs t e = true → P.cellsOf e = 1 ∧ ∃ u, P.underlying t = some (.pointer u) ∧ sameLayout P P.depth e u = true

section
variable {P : Program} {t : TypeId} {x : TI}
theorem TOk.run (h : TOk P t x) (w : World) : (underlying t).run P w = .ok x.desc w := by simp [underlying, h.und]
theorem TOk.size (h : TOk P t x) (w : World) : (sizeOf t).run P w = .ok x.size w := by
  obtain ⟨i, z, h1, h2, _⟩ := h.info
  simp [sizeOf, typeInfo, h1, h2]
theorem TOk.bytes (h : TOk P t x) : ∃ i, (∀ w, (typeInfo t).run P w = .ok i w) ∧ i.bytes = x.bytes := by
  obtain ⟨i, z, h1, _, h3, _⟩ := h.info
  exact ⟨i, fun w => by simp [typeInfo, h1], h3⟩
theorem TOk.isAgg (h : TOk P t x) (w : World) : (isAgg t).run P w = .ok x.agg w := by
  rw [h.agg]
  simp only [Go.isAgg, Sem.run_bind, h.run, Result.andThen_ok]
  cases x.desc <;> simp [aggD]
theorem TOk.zero (h : TOk P t x) : ∃ z, (∀ w, (zeroValue t).run P w = .ok z w) ∧ ∀ σ, conc σ x.zero = some z := by
  obtain ⟨i, z, h1, _, _, h4, h5⟩ := h.info
  exact ⟨z, fun w => by simp [zeroValue, typeInfo, h1, h4], fun σ => conc_ofV h5⟩
end

theorem concL_one {σ : Sg} {a : AV} {x : Value} : concL σ [a] = some [x] ↔ conc σ a = some x := by
  rw [concL_cons]
  constructor
  · rintro ⟨y, l, h1, h2, h3⟩; cases h3; exact h1
  · intro h; exact ⟨x, [], h, by simp [concL], rfl⟩
theorem concL_two {σ : Sg} {a b : AV} {x y : Value} : concL σ [a, b] = some [x, y] ↔ conc σ a = some x ∧ conc σ b = some y := by
  rw [concL_cons]
  constructor
  · rintro ⟨u, l, h1, h2, h3⟩; cases h3; exact ⟨h1, concL_one.1 h2⟩
  · rintro ⟨h1, h2⟩; exact ⟨x, [y], h1, concL_one.2 h2, rfl⟩
theorem concL_three {σ : Sg} {a b c : AV} {x y z : Value} : concL σ [a, b, c] = some [x, y, z] ↔ conc σ a = some x ∧ conc σ b = some y ∧ conc σ c = some z := by
  rw [concL_cons]
  constructor
  · rintro ⟨u, l, h1, h2, h3⟩; cases h3; exact ⟨h1, concL_two.1 h2⟩
  · rintro ⟨h1, h2⟩; exact ⟨x, [y, z], h1, concL_two.2 h2, rfl⟩

theorem conc_ptr {σ : Sg} {i o : Nat} {x : Value} (h : conc σ (.ptr (some (i, o))) = some x) : ∃ b c, σ i = some (b, c) ∧ x = .pointer (some ⟨b, o, none⟩) := by
  simp only [conc] at h
  cases hs : σ i with
  | none => simp [hs] at h
  | some p => simp [hs] at h; exact ⟨p.1, p.2, rfl, h.symm⟩
theorem conc_agg {σ : Sg} {cs : List AV} {x : Value} (h : conc σ (.agg cs) = some x) : ∃ l, concL σ cs = some l ∧ x = .agg ⟨l⟩ := by
  simp only [conc] at h
  cases hs : concL σ cs with
  | none => simp [hs] at h
  | some p => simp [hs] at h; exact ⟨p, rfl, h.symm⟩
theorem conc_tuple {σ : Sg} {cs : List AV} {x : Value} (h : conc σ (.tuple cs) = some x) : ∃ l, concL σ cs = some l ∧ x = .tuple ⟨l⟩ := by
  simp only [conc] at h
  cases hs : concL σ cs with
  | none => simp [hs] at h
  | some p => simp [hs] at h; exact ⟨p, rfl, h.symm⟩
theorem conc_int {σ : Sg} {k : IntKind} {n : Int} {x : Value} (h : conc σ (.int k n) = some x) : x = .int k n := by simp [conc] at h; exact h.symm
theorem conc_bool {σ : Sg} {b : Bool} {x : Value} (h : conc σ (.bool b) = some x) : x = .bool b := by simp [conc] at h; exact h.symm
theorem conc_str {σ : Sg} {s : List UInt8} {x : Value} (h : conc σ (.str s) = some x) : x = .string ⟨⟨s⟩⟩ := by simp [conc] at h; exact h.symm
theorem conc_iface {σ : Sg} {t : TypeId} {v : AV} {x : Value} (h : conc σ (.iface t v) = some x) : ∃ y, conc σ v = some y ∧ x = .iface t y := by
  simp only [conc] at h
  cases hs : conc σ v with
  | none => simp [hs] at h
  | some p => simp [hs] at h; exact ⟨p, rfl, h.symm⟩
theorem conc_slice' {σ : Sg} {i o n : Nat} {c : Option Nat} {x : Value} (h : conc σ (.slice (some (i, o)) n c) = some x) : ∃ b c', σ i = some (b, c') ∧ x = .slice (some ⟨b, o, none⟩) n (c.getD c') ∧ (c = none → n ≤ c') := by
  cases c <;> simp only [conc] at h
  · cases hs : σ i with
    | none => simp [hs] at h
    | some p => simp [hs] at h; exact ⟨p.1, p.2, rfl, h.2.symm, fun _ => h.1⟩
  · cases hs : σ i with
    | none => simp [hs] at h
    | some p => simp [hs] at h; exact ⟨p.1, p.2, rfl, h.symm, fun e => by cases e⟩
theorem conc_slice {σ : Sg} {i o n : Nat} {c : Option Nat} {x : Value} (h : conc σ (.slice (some (i, o)) n c) = some x) : ∃ b c', σ i = some (b, c') ∧ x = .slice (some ⟨b, o, none⟩) n (c.getD c') := by
  obtain ⟨b, c', h1, h2, _⟩ := conc_slice' h; exact ⟨b, c', h1, h2⟩
theorem conc_sliceNil {σ : Sg} {n : Nat} {c : Option Nat} {x : Value} (h : conc σ (.slice none n c) = some x) : ∃ k, c = some k ∧ x = .slice none n k := by
  cases c <;> simp [conc] at h
  exact ⟨_, rfl, h.symm⟩
theorem conc_map {σ : Sg} {i : Nat} {x : Value} (h : conc σ (.map (some i)) = some x) : ∃ b c, σ i = some (b, c) ∧ x = .map (some b) := by
  simp only [conc] at h
  cases hs : σ i with
  | none => simp [hs] at h
  | some p => simp [hs] at h; exact ⟨p.1, p.2, rfl, h.symm⟩
theorem conc_mapNil {σ : Sg} {x : Value} (h : conc σ (.map none) = some x) : x = .map none := by simp [conc] at h; exact h.symm
theorem conc_chan {σ : Sg} {i : Nat} {x : Value} (h : conc σ (.chan (some i)) = some x) : ∃ b c, σ i = some (b, c) ∧ x = .chan (some b) := by
  simp only [conc] at h
  cases hs : σ i with
  | none => simp [hs] at h
  | some p => simp [hs] at h; exact ⟨p.1, p.2, rfl, h.symm⟩
theorem conc_func {σ : Sg} {f : FuncId} {a b : List AV} {x : Value} (h : conc σ (.func f a b) = some x) : ∃ y z, concL σ a = some y ∧ concL σ b = some z ∧ x = .func (.func f) ⟨y⟩ ⟨z⟩ := by
  simp only [conc] at h
  cases ha : concL σ a with
  | none => simp [ha] at h
  | some y =>
    cases hb : concL σ b with
    | none => simp [ha, hb] at h
    | some z => simp [ha, hb] at h; exact ⟨y, z, rfl, rfl, h.symm⟩
theorem conc_yield {σ : Sg} {l : Nat} {x : Value} (h : conc σ (.yield l) = some x) : ∃ b c, σ l = some (b, c) ∧ x = .func (.yield b) #[] #[] := by
  simp only [conc] at h
  cases hs : σ l with
  | none => simp [hs] at h
  | some p => simp [hs] at h; exact ⟨p.1, p.2, rfl, h.symm⟩

theorem natOf_sound {σ : Sg} {a : AV} {n : Nat} {x : Value} (hx : conc σ a = some x) (h : natOf a = some n) : ∃ k, x = .int k (Int.ofNat n) := by
  unfold natOf at h
  split at h
  · cases h; exact ⟨_, conc_int hx⟩
  · cases h

/-! reading memory -/
theorem ORel.inv_cells {σ : Sg} {c : Nat} {cs : List AV} {e : TypeId} {ext : Option Nat} {wr : Bool} {x : Obj} (h : ORel σ c (.cells cs e ext wr) x) :
    ∃ cs' fz l r, x = .cells cs' e fz ∧ concL σ cs = some l ∧ cs'.toList = l ++ r ∧ extOk ext cs'.size c cs.length ∧ (wr = true → ∀ o, o < cs'.size → ¬ (fz.1 ≤ o ∧ o < fz.2)) := by
  cases x <;> simp only [ORel] at h
  rename_i cs' e' fz
  obtain ⟨l, h1, ⟨r, h2⟩, h3, h4, h5⟩ := h
  subst h3
  exact ⟨cs', fz, l, r, rfl, h1, h2, h4, h5⟩

theorem cell_of {w : World} {b o : Nat} {cs : Array Value} {e : TypeId} {fz : Nat × Nat} (h : w.heap[b]? = some (.cells cs e fz)) : w.cell? ⟨b, o, none⟩ = cs[o]? := by
  simp [World.cell?, h]
theorem add_addr (b o n : Nat) : (⟨b, o, none⟩ : Addr).add n = ⟨b, o + n, none⟩ := by
  unfold Addr.add; split
  · subst_vars; simp
  · rfl

theorem run_cells {P : Program} {w : World} {b o : Nat} {cs : Array Value} {e : TypeId} {fz : Nat × Nat} (h : w.heap[b]? = some (.cells cs e fz)) :
    ∀ (n i : Nat) (acc : Array Value) (m : List Value), (cs.toList.drop (o + i)).take n = m → m.length = n →
      (loadCellsFrom ⟨b, o, none⟩ i n acc).run P w = .ok (acc ++ m.toArray) w
  | 0, i, acc, m, hm, hl => by
    have : m = [] := List.length_eq_zero_iff.1 hl
    subst this; simp [loadCellsFrom]
  | n + 1, i, acc, m, hm, hl => by
    cases m with
    | nil => simp at hl
    | cons a m =>
      have hne : (cs.toList.drop (o + i)) ≠ [] := by intro e'; rw [e'] at hm; simp at hm
      obtain ⟨y, ys, hy⟩ : ∃ y ys, cs.toList.drop (o + i) = y :: ys := List.exists_cons_of_ne_nil hne
      rw [hy] at hm
      simp at hm
      obtain ⟨rfl, hm⟩ := hm
      have hc : cs[o + i]? = some y := by
        have : (cs.toList.drop (o + i))[0]? = some y := by rw [hy]; rfl
        simpa using this
      have hd : cs.toList.drop (o + (i + 1)) = ys := by
        have : (cs.toList.drop (o + i)).drop 1 = ys := by rw [hy]; rfl
        rw [List.drop_drop] at this; rw [← this]; congr 1
      simp only [loadCellsFrom, Sem.run_bind, run_load, add_addr, cell_of h, hc, Result.andThen_ok]
      rw [run_cells h n (i + 1) (acc.push y) m (by rw [hd]; exact hm) (by simpa using hl)]
      simp

theorem load_sound {P : Program} {σ : Sg} {hp : H} {w : World} {t : TypeId} {x : TI} (ht : TOk P t x) (r : HRel σ hp w.heap) {i o : Nat} {v : AV} (h : loadA x hp i o = some v) {b c : Nat} (hs : σ i = some (b, c)) :
    ∃ y, (loadVar t ⟨b, o, none⟩).run P w = .ok y w ∧ conc σ v = some y := by
  unfold loadA at h
  cases hg : hp.t.get i with
  | none => simp [hg] at h
  | some ob =>
    obtain ⟨b', c', x', h1, h2, h3⟩ := r.objs i ob hg
    rw [hs] at h1; cases h1
    cases ob <;> simp only [hg] at h <;> try (cases h; done)
    rename_i cs e ext wr
    obtain ⟨cs', fz, l, rr, rfl, hl, hcs, _, _⟩ := h3.inv_cells
    unfold loadVar
    simp only [Sem.run_bind, ht.isAgg, Result.andThen_ok]
    cases ha : x.agg with
    | false =>
      simp only [ha, cond_false] at h
      obtain ⟨y, h5, h6⟩ := concL_nth hl h
      refine ⟨y, ?_, h6⟩
      have : cs'[o]? = some y := by
        rw [← Array.getElem?_toList, hcs, List.getElem?_append_left (by rw [List.getElem?_eq_some_iff] at h5; exact h5.1)]; exact h5
      simp [cell_of h2, this]
    | true =>
      simp only [ha, cond_true] at h
      cases hsb : sub o x.size cs with
      | none => simp [hsb] at h
      | some m =>
        simp [hsb] at h; subst h
        obtain ⟨e1, e2⟩ := sub_eq hsb
        have hm := concL_sub hl hsb
        have hlen := concL_length hl
        refine ⟨.agg ⟨(l.drop o).take x.size⟩, ?_, by simp [conc, hm]⟩
        simp only [if_true, Sem.run_bind, ht.size, Result.andThen_ok, loadCells]
        rw [run_cells h2 x.size 0 #[] ((l.drop o).take x.size)]
        · simp
        · rw [hcs]; simp only [Nat.add_zero]
          rcases e2 with e2 | e2
          · rw [List.drop_append_of_le_length (by omega), List.take_append_of_le_length (by simp; omega)]
          · rw [e2]; simp
        · rcases e2 with e2 | e2
          · simp; omega
          · simp [e2]

end Go.Ev
