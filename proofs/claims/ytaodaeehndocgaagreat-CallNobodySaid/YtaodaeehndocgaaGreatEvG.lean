/- The evaluator's soundness: parts, build, slices, maps that are read. -/
import Derived.Test.YtaodaeehndocgaaGreatEvF
set_option linter.unusedSimpArgs false
set_option linter.unusedVariables false
namespace Go.Ev

section
variable {P : Program} {E : Env} {σ : Sg} {w : World}

theorem part_sound {t : TypeId} {y : TI} (ht : TOk P t y) {cs : List AV} {l : List Value} (hl : concL σ cs = some l) {off : Nat} {v : AV} (h : partA y cs off = some v) :
    ∃ x, (part t ⟨l⟩ off).run P w = .ok x w ∧ conc σ v = some x := by
  unfold partA at h
  unfold part
  simp only [Sem.run_bind, ht.isAgg, Result.andThen_ok]
  cases ha : y.agg with
  | false =>
    simp only [ha, cond_false] at h
    obtain ⟨x, h1, h2⟩ := concL_nth hl h
    exact ⟨x, by simp [h1], h2⟩
  | true =>
    simp only [ha, cond_true] at h
    cases hs : sub off y.size cs with
    | none => simp [hs] at h
    | some m =>
      simp [hs] at h; subst h
      have hm := concL_sub hl hs
      refine ⟨.agg ⟨(l.drop off).take y.size⟩, ?_, by simp [conc, hm]⟩
      simp [ht.size]

theorem write_conc {vs z r : List AV} {vl zl : List Value} {off : Nat} (hv : concL σ vs = some vl) (hz : concL σ z = some zl) (h : write off vs z = some r) (hle : off + vs.length ≤ z.length) :
    concL σ r = some (zl.take off ++ vl ++ zl.drop (off + vl.length)) := by
  have hl := concL_length hv
  rcases write_eq h with ⟨rfl, rfl⟩ | ⟨_, rfl⟩
  · rw [concL_nil] at hv; subst hv; simpa using hz
  · rw [hl]; exact concL_append (concL_append (concL_take hz) hv) (concL_drop hz)

theorem foldl_set (off : Nat) : ∀ (vs : List Value) (j : Nat) (cells : Array Value), off + j + vs.length ≤ cells.size →
    ((vs.zipIdx j).foldl (fun (cs : Array Value) (p : Value × Nat) => cs.setIfInBounds (off + p.2) p.1) cells).toList = cells.toList.take (off + j) ++ vs ++ cells.toList.drop (off + j + vs.length)
  | [], j, cells, h => by simp
  | v :: vs, j, cells, h => by
    rw [List.zipIdx_cons, List.foldl_cons, foldl_set off vs (j + 1) _ (by simp at h ⊢; omega)]
    have hlt : off + j < cells.toList.length := by simp at h ⊢; omega
    simp only [Array.toList_setIfInBounds, List.length_cons]
    have e1 : (cells.toList.set (off + j) v).take (off + (j + 1)) = cells.toList.take (off + j) ++ [v] := by
      rw [show off + (j + 1) = (off + j) + 1 by omega, List.take_succ_eq_append_getElem (by simpa using hlt)]
      simp only [List.getElem_set_self]
      rw [List.take_set, List.set_eq_of_length_le (by simp; omega)]
    have e2 : (cells.toList.set (off + j) v).drop (off + (j + 1) + vs.length) = cells.toList.drop (off + (j + 1) + vs.length) := by
      rw [List.drop_set_of_lt (by omega)]
    rw [e1, e2]
    simp [show off + (j + 1) + vs.length = off + j + (vs.length + 1) by omega]

theorem fill_sound {place : Nat → Option (Nat × Nat)} {place' : Nat → Option (Nat × Nat)} (hp : ∀ i p, place i = some p → place' i = some p) :
    ∀ {is : List Nat} {vs z r : List AV} {xs zl : List Value}, concL σ vs = some xs → concL σ z = some zl → fillA place is vs z = some r →
      ∃ rl, Instr.fill place' ⟨zl⟩ (is.zip xs) = some ⟨rl⟩ ∧ concL σ r = some rl
  | [], [], z, r, xs, zl, hv, hz, h => by
    simp [fillA] at h; subst h
    rw [concL_nil] at hv; subst hv
    exact ⟨zl, rfl, hz⟩
  | [], _ :: _, z, r, xs, zl, hv, hz, h => by simp [fillA] at h
  | _ :: _, [], z, r, xs, zl, hv, hz, h => by simp [fillA] at h
  | i :: is, v :: vs, z, r, xs, zl, hv, hz, h => by
    obtain ⟨x, xs, hx, hxs, rfl⟩ := concL_cons.1 hv
    simp only [fillA] at h
    cases hpl : place i with
    | none => simp [hpl] at h
    | some p =>
      obtain ⟨off, size⟩ := p
      simp only [hpl] at h
      cases hc : (Nat.beq v.cells.length size && Nat.ble (off + size) z.length) with
      | false => rw [hc] at h; cases h
      | true =>
        rw [hc] at h; simp only [cond_true] at h
        simp only [Bool.and_eq_true] at hc
        have h1 := Nat.eq_of_beq_eq_true hc.1
        have h2 := Nat.le_of_ble_eq_true hc.2
        cases hw : write off v.cells z with
        | none => simp [hw] at h
        | some z' =>
          simp only [hw] at h
          have hcl := conc_cells hx
          have hlen := concL_length hcl
          have hzl := concL_length hz
          have hz' := write_conc hcl hz hw (by omega)
          obtain ⟨rl, e1, e2⟩ := fill_sound hp hxs hz' h
          refine ⟨rl, ?_, e2⟩
          rw [List.zip_cons_cons]
          unfold Instr.fill
          simp only [hp i _ hpl]
          have hs : x.cells.size = size := by simp at hlen; omega
          rw [if_neg (by simp [hs, hzl]; omega)]
          rw [← e1]
          congr 1
          rw [← Array.toList_inj]
          have := foldl_set off x.cells.toList 0 ⟨zl⟩ (by simp at hlen ⊢; omega)
          rw [← Array.foldl_toList]
          simp only [Array.toList_zipIdx]
          simpa using this

theorem run_mapM {α β : Type} (f : α → Sem β) (g : α → β) : ∀ (l : List α), (∀ a ∈ l, (f a).run P w = .ok (g a) w) → (l.mapM f).run P w = .ok (l.map g) w
  | [], _ => by simp
  | a :: l, h => by
    simp [h a (by simp), run_mapM f g l (fun b hb => h b (by simp [hb]))]

theorem zero_cells {t : TypeId} {x : TI} (ht : TOk P t x) : ∃ z, (∀ w, (zeroValue t).run P w = .ok z w) ∧ ∀ σ, concL σ x.zero.cells = some z.cells.toList := by
  obtain ⟨z, h1, h2⟩ := ht.zero
  exact ⟨z, h1, fun σ => conc_cells (h2 σ)⟩

theorem build_sound (hE : EnvOk P E) {t : TypeId} {is : List Nat} {vs : List AV} {xs : List Value} (hv : concL σ vs = some xs) {v : AV} (h : buildA E t is vs = some v) :
    ∃ x, (Instr.build t (is.zip xs).toArray).run P w = .ok x w ∧ conc σ v = some x := by
  unfold buildA at h
  cases hg : E.ts.get t with
  | none => simp [hg] at h
  | some x =>
    have ht := hE.ts _ _ hg
    obtain ⟨z, hz1, hz2⟩ := zero_cells ht
    simp only [hg] at h
    unfold Instr.build
    split at h
    · rename_i fs hd
      cases hf : fillA (fieldPlaceA E fs) is vs x.zero.cells with
      | none => simp [hf] at h
      | some cs =>
        simp [hf, fL_eq] at h; subst h
        have hfl := ht.flds
        simp only [hd] at hfl
        let g : Field → Nat × Nat := fun f => (f.offset, P.cellsOf f.type)
        have hm : (fs.mapM (m := Sem) fun f => do pure (f.offset, ← sizeOf f.type)).run P w = .ok (fs.toList.map g).toArray w := by
          rw [Array.mapM_eq_mapM_toList]
          simp only [Sem.run_map]
          rw [run_mapM _ g]
          · rfl
          · intro f hf
            have := List.all_eq_true.1 hfl f hf
            cases hi : P.info? f.type with
            | none => simp [hi] at this
            | some i => simp [sizeOf, typeInfo, hi, g, Program.cellsOf]
        have hp : ∀ i p, fieldPlaceA E fs i = some p → ((fs.toList.map g).toArray)[i]? = some p := by
          intro i p hip
          unfold fieldPlaceA at hip
          cases hn : nth fs.toList i with
          | none => simp [hn] at hip
          | some f =>
            simp only [hn] at hip
            cases hy : E.ts.get f.type with
            | none => simp [hy] at hip
            | some y =>
              simp [hy] at hip; subst hip
              have hty := hE.ts _ _ hy
              obtain ⟨j, _, hj1, hj2, _⟩ := hty.info
              have : fs.toList[i]? = some f := by
                clear hfl hm hf hd
                generalize fs.toList = l at hn
                induction l generalizing i with
                | nil => simp [nth] at hn
                | cons a l ih => cases i with
                  | zero => simpa [nth] using hn
                  | succ i => simp [nth] at hn; simpa using ih i hn
              simp [this, g, Program.cellsOf, hj1, hj2]
        obtain ⟨rl, e1, e2⟩ := fill_sound (σ := σ) hp hv (hz2 σ) hf
        refine ⟨.agg ⟨rl⟩, ?_, by simp [conc, e2]⟩
        simp only [Sem.run_bind, hz1, Result.andThen_ok, ht.run, hd, hm, bind_pure_comp]
        simp only [bind_pure_comp] at hm
        simp only [hm, Result.andThen_ok]
        have e1' : Instr.fill (fun x => Option.map g fs[x]?) z.cells (is.zip xs) = some ⟨rl⟩ := by
          rw [← e1]; congr 1; funext i; simp
        simp [e1']
    · rename_i n e hd
      cases he : E.ts.get e with
      | none => simp [he] at h
      | some y =>
        have hty := hE.ts _ _ he
        simp only [he] at h
        cases hf : fillA (fun i => some (i * y.size, y.size)) is vs x.zero.cells with
        | none => simp [hf] at h
        | some cs =>
          simp [hf, fL_eq] at h; subst h
          obtain ⟨rl, e1, e2⟩ := fill_sound (σ := σ) (place' := fun i => some (i * y.size, y.size)) (fun i p hp => hp) hv (hz2 σ) hf
          refine ⟨.agg ⟨rl⟩, ?_, by simp [conc, e2]⟩
          simp only [Sem.run_bind, hz1, Result.andThen_ok, ht.run, hd, hty.size]
          have e1' : Instr.fill (fun i => some (i * y.size, y.size)) z.cells (is.zip xs) = some ⟨rl⟩ := e1
          simp [e1']
    · cases h

/-! slices -/
def bnd (d : Nat) (v : Option Value) (n : Nat) : Prop :=
  match v with
  | none => n = d
  | some x => ∃ k, x = .int k (Int.ofNat n)
theorem run_bound {k : IntKind} {n y : Nat} {code : BoundsCode} (h : n ≤ y) : (Instr.sliceBound (.int k (Int.ofNat n)) y code).run P w = .ok n w := by
  simp [Instr.sliceBound, asIntOf, h]
theorem run_bounds (b : Bool) {len cap : Nat} {lo hi mx : Option Value} {l h m : Nat} (h1 : bnd 0 lo l) (h2 : bnd len hi h) (h3 : bnd cap mx m) (a : l ≤ h) (c : h ≤ m) (d : m ≤ cap) (e : mx.isSome = true → hi.isSome = true) :
    (Instr.sliceBounds b len cap lo hi mx).run P w = .ok (l, h, m) w := by
  unfold Instr.sliceBounds
  cases mx with
  | none =>
    simp only [bnd] at h3; subst h3
    cases hi with
    | none =>
      simp only [bnd] at h2; subst h2
      cases lo with
      | none => simp only [bnd] at h1; subst h1; simp
      | some x => obtain ⟨k, rfl⟩ := h1; simp [run_bound a, -Int.ofNat_eq_natCast]
    | some y =>
      obtain ⟨k, rfl⟩ := h2
      cases lo with
      | none => simp only [bnd] at h1; subst h1; simp [run_bound c, -Int.ofNat_eq_natCast]
      | some x => obtain ⟨k', rfl⟩ := h1; simp [run_bound a, run_bound c, -Int.ofNat_eq_natCast]
  | some z =>
    obtain ⟨k3, rfl⟩ := h3
    cases hi with
    | none => simp at e
    | some y =>
      obtain ⟨k, rfl⟩ := h2
      cases lo with
      | none => simp only [bnd] at h1; subst h1; simp [run_bound c, run_bound d, -Int.ofNat_eq_natCast]
      | some x => obtain ⟨k', rfl⟩ := h1; simp [run_bound a, run_bound c, run_bound d, -Int.ofNat_eq_natCast]

/-- an optional value and what it stands for -/
def concO (σ : Sg) (a : Option AV) (x : Option Value) : Prop :=
  match a, x with
  | none, none => True
  | some v, some y => conc σ v = some y
  | _, _ => False
theorem bound_sound {d : Nat} {a : Option AV} {x : Option Value} {n : Nat} (hx : concO σ a x) (h : boundA d a = some n) : bnd d x n ∧ x.isSome = a.isSome := by
  cases a with
  | none => cases x <;> simp [concO] at hx; simp [boundA] at h; exact ⟨h.symm, rfl⟩
  | some v =>
    cases x with
    | none => simp [concO] at hx
    | some y =>
      simp only [concO] at hx
      simp only [boundA] at h
      obtain ⟨k, rfl⟩ := natOf_sound hx h
      exact ⟨⟨k, rfl⟩, rfl⟩

theorem extract_mk (s : List UInt8) (l h : Nat) : (⟨⟨s⟩⟩ : ByteArray).extract l h = ⟨⟨(s.drop l).take (h - l)⟩⟩ := by
  have : ((⟨⟨s⟩⟩ : ByteArray).extract l h).data = ⟨(s.drop l).take (h - l)⟩ := by
    rw [ByteArray.data_extract]; simp [List.drop_take]
  cases hh : (⟨⟨s⟩⟩ : ByteArray).extract l h; rw [hh] at this; simpa using this

def adr (σ : Sg) (a : Option (Nat × Nat)) (k : Nat) : Option Addr :=
  match a with
  | none => none
  | some (i, o) => (match σ i with
    | some (b, _) => some ⟨b, o + k, none⟩
    | none => none)

theorem sliceB_sound (hE : EnvOk P E) {t : TypeId} {a : AV} {x : Value} (hx : conc σ a = some x) {lo hi mx : Option AV} {lo' hi' mx' : Option Value} (hlo : concO σ lo lo') (hhi : concO σ hi hi') (hmx : concO σ mx mx') {v : AV} (h : sliceB E t a lo hi mx = some v) :
    ∃ y, (Instr.sliceAt t x lo' hi' mx').run P w = .ok y w ∧ conc σ v = some y := by
  unfold sliceB at h
  cases hg : E.ts.get t with
  | none => simp [hg] at h
  | some ti =>
    have ht := hE.ts _ _ hg
    simp only [hg] at h
    unfold Instr.sliceAt
    simp only [Sem.run_bind, ht.run, Result.andThen_ok]
    split at h
    · rename_i s hd
      have e := conc_str hx; subst e
      simp only [hd]
      cases h1 : boundA 0 lo with
      | none => simp [h1] at h
      | some l =>
        cases h2 : boundA s.length hi with
        | none => simp [h1, h2] at h
        | some hh =>
          cases mx with
          | some m => simp [h1, h2] at h
          | none =>
            simp only [h1, h2] at h
            cases hc : (Nat.ble l hh && Nat.ble hh s.length) with
            | false => rw [hc] at h; cases h
            | true =>
              rw [hc] at h; simp only [cond_true] at h
              simp only [Bool.and_eq_true] at hc
              have c1 := Nat.le_of_ble_eq_true hc.1
              have c2 := Nat.le_of_ble_eq_true hc.2
              cases hs : sub l (hh - l) s with
              | none => simp [hs] at h
              | some r =>
                simp [hs] at h; subst h
                obtain ⟨e, _⟩ := sub_eq hs
                have hm0 : mx' = none := by cases mx' <;> simp [concO] at hmx; rfl
                subst hm0
                refine ⟨.string ⟨⟨r⟩⟩, ?_, by simp [conc]⟩
                unfold Instr.slice
                simp only [Sem.run_bind, ht.run, hd, Result.andThen_ok, Option.isSome_none, Bool.false_eq_true, if_false]
                have hb := run_bounds (P := P) (w := w) false (len := s.length) (cap := s.length) (bound_sound hlo h1).1 (bound_sound hhi h2).1 (mx := none) (m := s.length) rfl c1 c2 (Nat.le_refl _) (by simp)
                simp [size_mk, hb, extract_mk, e]
    · rename_i e a len cap hd
      simp only [hd]
      have key : ∀ (l hh m : Nat) (c : Nat) (y : TI), TOk P e y → x = .slice (adr σ a 0) len c → bnd 0 lo' l → bnd len hi' hh → bnd c mx' m → l ≤ hh → hh ≤ m → m ≤ c → (mx'.isSome = true → hi'.isSome = true) →
          (Instr.slice t x lo' hi' mx').run P w = .ok (.slice (if m = l then (adr σ a 0) else (adr σ a (l * y.size))) (hh - l) (m - l)) w := by
        intro l hh m c y hy hx' b1 b2 b3 a1 a2 a3 a4
        subst hx'
        unfold Instr.slice
        simp only [Sem.run_bind, ht.run, hd, Result.andThen_ok]
        rw [run_bounds true b1 b2 b3 a1 a2 a3 a4]
        simp only [Result.andThen_ok, hy.size]
        congr 2
        split
        · rfl
        · rcases a with _ | ⟨i, o⟩
          · rfl
          · simp only [adr]
            cases σ i with
            | none => rfl
            | some p => simp [add_addr]
      have hxa : ∀ c', (∃ k, cap = some k ∧ c' = k) ∨ (cap = none ∧ ∃ i o b, a = some (i, o) ∧ σ i = some (b, c')) → x = .slice (adr σ a 0) len c' := by
        intro c' hc
        rcases a with _ | ⟨i, o⟩
        · obtain ⟨k, rfl, rfl⟩ := conc_sliceNil hx
          rcases hc with ⟨k', e1, rfl⟩ | ⟨e1, _⟩
          · cases e1; rfl
          · cases e1
        · obtain ⟨b, c₁, s1, rfl⟩ := conc_slice hx
          rcases hc with ⟨k', rfl, rfl⟩ | ⟨rfl, i', o', b', e2, s2⟩
          · simp [s1, adr]
          · cases e2; rw [s1] at s2; cases s2; simp [s1, adr]
      have fin : ∀ (l hh m : Nat) (y : TI) (c2 : Option Nat), (∀ i o, a = some (i, o) → ∃ p, σ i = some p) → c2 = some (m - l) →
          conc σ (.slice (cond (Nat.beq m l) a (moveA a (l * y.size))) (hh - l) c2) = some (.slice (if m = l then (adr σ a 0) else (adr σ a (l * y.size))) (hh - l) (m - l)) := by
        intro l hh m y c2 hdef hc2
        subst hc2
        have hbq : Nat.beq m l = decide (m = l) := by rw [Bool.eq_iff_iff]; simp
        rw [hbq]
        by_cases hml : m = l
        · simp only [hml, decide_true, cond_true, if_true]
          rcases a with _ | ⟨i, o⟩
          · simp [conc, adr]
          · obtain ⟨p, hp⟩ := hdef i o rfl; simp [conc, hp, adr]
        · simp only [hml, decide_false, cond_false, if_false]
          rcases a with _ | ⟨i, o⟩
          · simp [conc, moveA, adr]
          · obtain ⟨p, hp⟩ := hdef i o rfl; simp [conc, moveA, fN_eq, hp, adr]
      have hdef : ∀ i o, a = some (i, o) → ∃ p, σ i = some p := by
        rintro i o rfl
        obtain ⟨b, c₁, s1, _⟩ := conc_slice hx
        exact ⟨_, s1⟩
      cases he : E.ts.get e with
      | none => simp [he] at h
      | some y =>
        have hty := hE.ts _ _ he
        cases h1 : boundA 0 lo with
        | none => simp [he, h1] at h
        | some l =>
          cases h2 : boundA len hi with
          | none => simp [he, h1, h2] at h
          | some hh =>
            obtain ⟨b1, _⟩ := bound_sound hlo h1
            obtain ⟨b2, i2⟩ := bound_sound hhi h2
            cases mx with
            | none =>
              have hm0 : mx' = none := by cases mx' <;> simp [concO] at hmx; rfl
              subst hm0
              cases cap with
              | some c =>
                simp only [he, h1, h2] at h
                cases hc : (Nat.ble l hh && Nat.ble hh len && Nat.ble len c) with
                | false => rw [hc] at h; cases h
                | true =>
                  rw [hc] at h; simp only [cond_true] at h
                  simp only [Bool.and_eq_true] at hc
                  have c1 := Nat.le_of_ble_eq_true hc.1.1
                  have c2 := Nat.le_of_ble_eq_true hc.1.2
                  have c3 := Nat.le_of_ble_eq_true hc.2
                  cases h
                  exact ⟨_, key l hh c c y hty (hxa c (.inl ⟨c, rfl, rfl⟩)) b1 b2 rfl c1 (by omega) (Nat.le_refl _) (by simp), fin l hh c y _ hdef rfl⟩
              | none =>
                cases l with
                | succ l => simp [he, h1, h2] at h
                | zero =>
                  simp only [he, h1, h2] at h
                  cases hc : Nat.ble hh len with
                  | false => simp [hc] at h
                  | true =>
                    simp [hc] at h; subst h
                    have c1 := Nat.le_of_ble_eq_true hc
                    rcases a with _ | ⟨i, o⟩
                    · obtain ⟨k, e1, _⟩ := conc_sliceNil hx; cases e1
                    · obtain ⟨b, c', s1, _, hle⟩ := conc_slice' hx
                      have hle := hle rfl
                      refine ⟨_, key 0 hh c' c' y hty (hxa c' (.inr ⟨rfl, i, o, b, rfl, s1⟩)) b1 b2 rfl (Nat.zero_le _) (by omega) (Nat.le_refl _) (by simp), ?_⟩
                      have hle2 : hh ≤ c' := by omega
                      simp [conc, s1, hle2, adr]
            | some m =>
              cases mx' with
              | none => simp [concO] at hmx
              | some mv =>
                cases hn : natOf m with
                | none => cases cap <;> simp [he, h1, h2, hn] at h
                | some mm =>
                  obtain ⟨k, rfl⟩ := natOf_sound hmx hn
                  cases cap with
                  | some c =>
                    simp only [he, h1, h2, hn] at h
                    cases hc : (hi.isSome && Nat.ble l hh && Nat.ble hh mm && Nat.ble mm c) with
                    | false => rw [hc] at h; cases h
                    | true =>
                      rw [hc] at h; simp only [cond_true] at h
                      simp only [Bool.and_eq_true] at hc
                      have c1 := Nat.le_of_ble_eq_true hc.1.1.2
                      have c2 := Nat.le_of_ble_eq_true hc.1.2
                      have c3 := Nat.le_of_ble_eq_true hc.2
                      cases h
                      exact ⟨_, key l hh mm c y hty (hxa c (.inl ⟨c, rfl, rfl⟩)) b1 b2 ⟨k, rfl⟩ c1 c2 c3 (fun _ => i2.trans hc.1.1.1), fin l hh mm y _ hdef rfl⟩
                  | none =>
                    simp only [he, h1, h2, hn] at h
                    cases hc : (hi.isSome && Nat.ble l hh && Nat.ble hh mm && Nat.ble mm len) with
                    | false => rw [hc] at h; cases h
                    | true =>
                      rw [hc] at h; simp only [cond_true] at h
                      simp only [Bool.and_eq_true] at hc
                      have c1 := Nat.le_of_ble_eq_true hc.1.1.2
                      have c2 := Nat.le_of_ble_eq_true hc.1.2
                      have c3 := Nat.le_of_ble_eq_true hc.2
                      cases h
                      rcases a with _ | ⟨i, o⟩
                      · obtain ⟨k, e1, _⟩ := conc_sliceNil hx; cases e1
                      · obtain ⟨b, c', s1, _, hle⟩ := conc_slice' hx
                        have hle := hle rfl
                        exact ⟨_, key l hh mm c' y hty (hxa c' (.inr ⟨rfl, i, o, b, rfl, s1⟩)) b1 b2 ⟨k, rfl⟩ c1 c2 (by omega) (fun _ => i2.trans hc.1.1.1), fin l hh mm y _ hdef rfl⟩
    · rename_i n e a hd
      obtain ⟨i, o⟩ := a
      obtain ⟨b, c', s1, rfl⟩ := conc_ptr hx
      simp only [hd]
      cases he : E.ts.get e with
      | none => simp [he] at h
      | some y =>
        have hty := hE.ts _ _ he
        cases h1 : boundA 0 lo with
        | none => simp [he, h1] at h
        | some l =>
          cases h2 : boundA n hi with
          | none => simp [he, h1, h2] at h
          | some hh =>
            cases mx with
            | some m => simp [he, h1, h2] at h
            | none =>
              have hm0 : mx' = none := by cases mx' <;> simp [concO] at hmx; rfl
              subst hm0
              simp only [he, h1, h2] at h
              cases hc : (Nat.ble l hh && Nat.ble hh n) with
              | false => rw [hc] at h; cases h
              | true =>
                rw [hc] at h; simp only [cond_true] at h
                simp only [Bool.and_eq_true] at hc
                have c1 := Nat.le_of_ble_eq_true hc.1
                have c2 := Nat.le_of_ble_eq_true hc.2
                cases h
                have hb := run_bounds (P := P) (w := w) false (len := n) (cap := n) (bound_sound hlo h1).1 (bound_sound hhi h2).1 (mx := none) (m := n) rfl c1 c2 (Nat.le_refl _) (by simp)
                simp only [Sem.run_bind, Instr.sureAddr, Sem.run_pure, Result.andThen_ok, hb, hty.size]
                have hbq : Nat.beq n l = decide (n = l) := by rw [Bool.eq_iff_iff]; simp
                refine ⟨_, rfl, ?_⟩
                rw [hbq]
                by_cases hnl : n = l
                · simp [hnl, conc, s1]
                · simp [hnl, conc, s1, moveA, fN_eq, add_addr]
    · cases h

end
end Go.Ev
