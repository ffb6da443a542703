/- The evaluator's soundness: all operations that leave memory alone, put together. -/
import Derived.Test.YtaodaeehndocgaaGreatEvH
set_option linter.unusedSimpArgs false
set_option linter.unusedVariables false
namespace Go.Ev

theorem inv0 {σ : Sg} {vs : List AV} (h : concL σ vs = some []) : vs = [] := by
  have := concL_length h; exact List.length_eq_zero_iff.1 (by simpa using this.symm)
theorem inv1 {σ : Sg} {vs : List AV} {x : Value} (h : concL σ vs = some [x]) : ∃ a, vs = [a] ∧ conc σ a = some x := by
  have hl := concL_length h
  match vs, h, hl with
  | [a], h, _ => exact ⟨a, rfl, concL_one.1 h⟩
theorem inv2 {σ : Sg} {vs : List AV} {x y : Value} (h : concL σ vs = some [x, y]) : ∃ a b, vs = [a, b] ∧ conc σ a = some x ∧ conc σ b = some y := by
  have hl := concL_length h
  match vs, h, hl with
  | [a, b], h, _ => exact ⟨a, b, rfl, concL_two.1 h⟩
theorem inv3 {σ : Sg} {vs : List AV} {x y z : Value} (h : concL σ vs = some [x, y, z]) : ∃ a b c, vs = [a, b, c] ∧ conc σ a = some x ∧ conc σ b = some y ∧ conc σ c = some z := by
  have hl := concL_length h
  match vs, h, hl with
  | [a, b, c], h, _ => exact ⟨a, b, c, rfl, concL_three.1 h⟩
theorem invC {σ : Sg} {vs : List AV} {x : Value} {l : List Value} (h : concL σ vs = some (x :: l)) : ∃ a m, vs = a :: m ∧ conc σ a = some x ∧ concL σ m = some l := by
  have hl := concL_length h
  match vs, h, hl with
  | a :: m, h, _ =>
    obtain ⟨p, q, h1, h2, h3⟩ := concL_cons.1 h
    cases h3; exact ⟨a, m, rfl, h1, h2⟩

section
variable {P : Program} {E : Env} {σ : Sg} {w : World}

theorem nth_get {α : Type} : ∀ {l : List α} {n : Nat} {a : α}, nth l n = some a → l[n]? = some a
  | [], n, a, h => by simp [nth] at h
  | b :: l, 0, a, h => by simpa [nth] using h
  | b :: l, n + 1, a, h => by simp [nth] at h; simpa using nth_get h

theorem fieldAddr_sound (hE : EnvOk P E) {s : TypeId} {a : AV} {x : Value} (hx : conc σ a = some x) {f : Nat} {v : AV} (h : fieldAddrA E s a f = some v) :
    ∃ y, (Instr.fieldAt s x f).run P w = .ok y w ∧ conc σ v = some y := by
  unfold fieldAddrA at h
  split at h
  · rename_i t i o hg
    have ht := hE.ts _ _ hg
    obtain ⟨b, c, s1, rfl⟩ := conc_ptr hx
    split at h
    · rename_i fs hd
      split at h
      · rename_i fd hn
        split at h
        · rename_i y hy
          have hty := hE.ts _ _ hy
          cases hz : Nat.beq y.size 0 with
          | true => simp [hz] at h
          | false =>
            simp [hz, fN_eq] at h; subst h
            have hne : y.size ≠ 0 := fun e => by simp [e] at hz
            have hf : fs[f]? = some fd := by simpa using nth_get hn
            refine ⟨.pointer (some ⟨b, o + fd.offset, none⟩), ?_, by simp [conc, s1]⟩
            simp [Instr.fieldAt, ht.run, hd, hf, Instr.sureAddr, fieldPlace, hty.size, hne, add_addr]
        · cases h
      · cases h
    · cases h
  · cases h

theorem field_sound (hE : EnvOk P E) {t : TypeId} {a : AV} {x : Value} (hx : conc σ a = some x) {f : Nat} {v : AV} (h : fieldA E t a f = some v) :
    ∃ y, (Instr.field t x f).run P w = .ok y w ∧ conc σ v = some y := by
  unfold fieldA at h
  split at h
  · rename_i ti cs hg
    have ht := hE.ts _ _ hg
    obtain ⟨l, hl, rfl⟩ := conc_agg hx
    split at h
    · rename_i fs hd
      split at h
      · rename_i fd hn
        split at h
        · rename_i y hy
          obtain ⟨y', e1, e2⟩ := part_sound (w := w) (hE.ts _ _ hy) hl h
          have hf : fs[f]? = some fd := by simpa using nth_get hn
          exact ⟨y', by simp [Instr.field, ht.run, hd, hf, asAgg, e1], e2⟩
        · cases h
      · cases h
    · cases h
  · cases h

theorem indexAddr_sound (hE : EnvOk P E) {t : TypeId} {a ix : AV} {x ixx : Value} (hx : conc σ a = some x) (hi : conc σ ix = some ixx) {v : AV} (h : indexAddrA E t a ix = some v) :
    ∃ y, (Instr.indexAt t x ixx).run P w = .ok y w ∧ conc σ v = some y := by
  unfold indexAddrA at h
  split at h
  · rename_i ti i hg hn
    have ht := hE.ts _ _ hg
    obtain ⟨k, rfl⟩ := natOf_sound hi hn
    split at h
    · rename_i n e b o hd
      obtain ⟨bb, c, s1, rfl⟩ := conc_ptr hx
      split at h
      · rename_i y hy
        have hty := hE.ts _ _ hy
        cases hlt : Nat.blt i n with
        | false => simp [hlt] at h
        | true =>
          simp [hlt, fN_eq] at h; subst h
          have hlt : i < n := by simp [Nat.blt] at hlt; omega
          refine ⟨.pointer (some ⟨bb, o + i * y.size, none⟩), ?_, by simp [conc, s1]⟩
          simp [Instr.indexAt, asIntOf, ht.run, hd, Instr.sureAddr, hty.size, add_addr, hlt]
      · cases h
    · rename_i e b o n c hd
      obtain ⟨bb, c', s1, rfl⟩ := conc_slice hx
      split at h
      · rename_i y hy
        have hty := hE.ts _ _ hy
        cases hlt : Nat.blt i n with
        | false => simp [hlt] at h
        | true =>
          simp [hlt, fN_eq] at h; subst h
          have hlt : i < n := by simp [Nat.blt] at hlt; omega
          refine ⟨.pointer (some ⟨bb, o + i * y.size, none⟩), ?_, by simp [conc, s1]⟩
          simp [Instr.indexAt, asIntOf, ht.run, hd, hty.size, add_addr, hlt]
      · cases h
    · cases h
  · cases h

theorem index_sound (hE : EnvOk P E) {t : TypeId} {a ix : AV} {x ixx : Value} (hx : conc σ a = some x) (hi : conc σ ix = some ixx) {v : AV} (h : indexA E t a ix = some v) :
    ∃ y, (Instr.index t x ixx).run P w = .ok y w ∧ conc σ v = some y := by
  unfold indexA at h
  split at h
  · rename_i ti i hg hn
    have ht := hE.ts _ _ hg
    obtain ⟨k, rfl⟩ := natOf_sound hi hn
    split at h
    · rename_i n e cs hd
      obtain ⟨l, hl, rfl⟩ := conc_agg hx
      split at h
      · rename_i y hy
        have hty := hE.ts _ _ hy
        cases hlt : Nat.blt i n with
        | false => simp [hlt] at h
        | true =>
          simp only [hlt, cond_true] at h
          have hlt : i < n := by simp [Nat.blt] at hlt; omega
          obtain ⟨y', e1, e2⟩ := part_sound (w := w) hty hl h
          refine ⟨y', ?_, e2⟩
          simp [Instr.index, asIntOf, ht.run, hd, hty.size, hlt, e1]
      · cases h
    · rename_i s hd
      have e := conc_str hx; subst e
      split at h
      · rename_i b hb
        simp [fN_eq] at h; subst h
        have := nth_get hb
        refine ⟨.int .u8 b.toNat, ?_, by simp [conc]⟩
        have hg : (⟨⟨s⟩⟩ : ByteArray)[i]? = some b := by
          have hlt : i < s.length := (List.getElem?_eq_some_iff.1 this).1
          rw [getElem?_pos (⟨⟨s⟩⟩ : ByteArray) i (by simpa [size_mk] using hlt)]
          have := (List.getElem?_eq_some_iff.1 this).2
          simpa [ByteArray.getElem_eq_getElem_data] using this
        simp [Instr.index, asIntOf, ht.run, hd, hg]
      · cases h
    · cases h
  · cases h

theorem entry_sound {hp : H} (r : HRel σ hp w.heap) {it : AV} {x : Value} (hx : conc σ it = some x) {v : AV} (h : entryA it hp = some v) :
    ∃ y, (Instr.entry x).run P w = .ok y w ∧ conc σ v = some y := by
  unfold entryA at h
  split at h
  · rename_i rr
    obtain ⟨b, c, s1, rfl⟩ := conc_ptr hx
    split at h
    · rename_i m since bn st hg
      obtain ⟨b', c', x', h1, h2, h3⟩ := r.objs _ _ hg
      rw [s1] at h1; cases h1
      split at h
      · rename_i k vv b2 cl hg2
        obtain ⟨b3, c3, x3, g1, g2, g3⟩ := r.objs _ _ hg2
        cases hc : (Nat.beq bn b2 && Nat.beq cl st) with
        | false => rw [hc] at h; cases h
        | true =>
          rw [hc] at h; simp only [cond_true] at h
          simp only [Bool.and_eq_true] at hc
          have e1 := Nat.eq_of_beq_eq_true hc.1; have e2 := Nat.eq_of_beq_eq_true hc.2
          subst e1 e2
          cases h
          cases x' <;> simp only [ORel] at h3
          rename_i m' since' seen' last'
          obtain ⟨hm, rfl, hseen, rfl⟩ := h3
          obtain ⟨bm, cm, sm, em⟩ := conc_map hm
          cases em
          rw [g1] at sm; cases sm
          obtain ⟨es', rfl, hes⟩ := g3.inv_map
          obtain ⟨kx, vx, l, k1, k2, k3, k4⟩ := concE_cons.1 hes
          simp [concE] at k3; subst k3
          have o1 := run_getObj (P := P) h2 (by intro _ _ _ e; cases e)
          have o2 := run_getObj (P := P) g2 (by intro _ _ _ e; cases e)
          have hback : seen'.back? = some bn := by
            have : seen' = #[bn] := by rw [← Array.toList_inj, hseen]
            rw [this]; rfl
          have hes2 : es' = #[{ key := kx, val := vx, born := bn }] := by rw [← Array.toList_inj, k4]
          refine ⟨.tuple #[kx, vx], ?_, by simp [conc, concL, k1, k2]⟩
          simp [Instr.entry, o1, o2, hback, hes2]
      · cases h
    · cases h
  · cases h

theorem typeAssert_sound (hE : EnvOk P E) {xT t : TypeId} {ok : Bool} {a : AV} {x : Value} (hx : conc σ a = some x) {v : AV} (h : typeAssertA E t ok a = some v) :
    ∃ y, (Instr.typeAssert x xT t ok).run P w = .ok y w ∧ conc σ v = some y := by
  unfold typeAssertA at h
  cases hg : E.ts.get t with
  | none => simp [hg] at h
  | some ti =>
    have ht := hE.ts _ _ hg
    obtain ⟨z, hz1, hz2⟩ := ht.zero
    simp only [hg] at h
    cases hni : isIfc ti.desc with
    | true => rw [hni] at h; cases h
    | false =>
      rw [hni] at h; simp only [cond_false] at h
      unfold Instr.typeAssert
      simp only [Sem.run_bind, ht.run, Result.andThen_ok]
      split at h
      · rename_i u y
        obtain ⟨yx, hy, rfl⟩ := conc_iface hx
        by_cases hu : u = t
        · subst hu
          simp only [if_true] at h
          refine ⟨if ok then .tuple #[yx, .bool true] else yx, ?_, ?_⟩
          · cases hd : ti.desc <;> first | (rw [hd] at hni; cases hni; done) | simp
          · cases ok <;> simp at h <;> subst h <;> simp [conc, concL, hy]
        · simp only [hu, if_false] at h
          cases ok with
          | false => simp at h
          | true =>
            simp at h; subst h
            refine ⟨.tuple #[z, .bool false], ?_, by simp [conc, concL, hz2]⟩
            cases hd : ti.desc <;> first | (rw [hd] at hni; cases hni; done) | simp [hu, hz1]
      · have : x = .nilIface := by simp [conc] at hx; exact hx.symm
        subst this
        cases ok with
        | false => simp at h
        | true =>
          simp at h; subst h
          refine ⟨.tuple #[z, .bool false], ?_, by simp [conc, concL, hz2]⟩
          cases hd : ti.desc <;> first | (rw [hd] at hni; cases hni; done) | simp [hz1]
      · cases h

theorem len_sound (hE : EnvOk P E) {hp : H} (r : HRel σ hp w.heap) {t : TypeId} {a : AV} {x : Value} (hx : conc σ a = some x) {v : AV} (h : lenA E t a hp = some v) (ts : List TypeId) (u : TypeId) :
    ∃ y, (Builtin.len_ ⟨t :: ts⟩ u #[x]).run P w = .ok y w ∧ conc σ v = some y := by
  unfold lenA at h
  cases hg : E.ts.get t with
  | none => simp [hg] at h
  | some ti =>
    have ht := hE.ts _ _ hg
    simp only [hg] at h
    split at h
    · rename_i s hd
      have e := conc_str hx; subst e
      simp [fN_eq] at h; subst h
      exact ⟨_, by simp [Builtin.len_, ht.run, hd]; rfl, by simp [conc, size_mk]; rfl⟩
    · rename_i e s n c hd
      cases h
      rcases s with _ | ⟨i, o⟩
      · obtain ⟨_, _, rfl⟩ := conc_sliceNil hx
        exact ⟨_, by simp [Builtin.len_, ht.run, hd]; rfl, by simp [conc]; rfl⟩
      · obtain ⟨_, _, _, rfl⟩ := conc_slice hx
        exact ⟨_, by simp [Builtin.len_, ht.run, hd]; rfl, by simp [conc]; rfl⟩
    · rename_i hd
      cases h
      have := conc_mapNil hx; subst this
      exact ⟨_, by simp [Builtin.len_, ht.run, hd]; rfl, by simp [conc]; rfl⟩
    · rename_i k e rr hd
      obtain ⟨b, c, s1, rfl⟩ := conc_map hx
      split at h
      · rename_i es cl hgr
        obtain ⟨b', c', x', h1, h2, h3⟩ := r.objs _ _ hgr
        rw [s1] at h1; cases h1
        obtain ⟨es', rfl, hes⟩ := h3.inv_map
        simp [fN_eq] at h; subst h
        have o1 := run_getObj (P := P) h2 (by intro _ _ _ e; cases e)
        have hl : es'.size = es.length := by
          have : ∀ {es : List (AV × AV × Nat)} {l : List MapEntry}, concE σ es = some l → l.length = es.length := by
            intro es
            induction es with
            | nil => intro l hl; simp [concE] at hl; subst hl; rfl
            | cons e es ih => intro l hl; obtain ⟨_, _, l', _, _, h3, rfl⟩ := concE_cons.1 hl; simp [ih h3]
          simpa using this hes
        exact ⟨_, by simp [Builtin.len_, ht.run, hd, o1]; rfl, by simp [conc, hl]; rfl⟩
      · cases h
    · rename_i k e rr hd
      obtain ⟨b, c, s1, rfl⟩ := conc_chan hx
      split at h
      · rename_i n bf cl hgr
        obtain ⟨b', c', x', h1, h2, h3⟩ := r.objs _ _ hgr
        rw [s1] at h1; cases h1
        obtain ⟨buf', s, rr', rfl, hbuf⟩ := h3.inv_chan
        simp [fN_eq] at h; subst h
        have o1 := run_getObj (P := P) h2 (by intro _ _ _ e; cases e)
        have hl : buf'.size = bf.length := by simpa using concL_length hbuf
        exact ⟨_, by simp [Builtin.len_, ht.run, hd, o1]; rfl, by simp [conc, hl]; rfl⟩
      · cases h
    · rename_i n e hd
      cases h
      exact ⟨_, by simp [Builtin.len_, ht.run, hd]; rfl, by simp [conc]; rfl⟩
    · cases h

theorem cap_sound (hE : EnvOk P E) {hp : H} (r : HRel σ hp w.heap) {t : TypeId} {a : AV} {x : Value} (hx : conc σ a = some x) {v : AV} (h : capA E t a hp = some v) (ts : List TypeId) (u : TypeId) :
    ∃ y, (Builtin.cap_ ⟨t :: ts⟩ u #[x]).run P w = .ok y w ∧ conc σ v = some y := by
  unfold capA at h
  cases hg : E.ts.get t with
  | none => simp [hg] at h
  | some ti =>
    have ht := hE.ts _ _ hg
    simp only [hg] at h
    split at h
    · rename_i e s n c hd
      cases h
      rcases s with _ | ⟨i, o⟩
      · obtain ⟨_, e1, rfl⟩ := conc_sliceNil hx
        cases e1
        exact ⟨_, by simp [Builtin.cap_, ht.run, hd]; rfl, by simp [conc]; rfl⟩
      · obtain ⟨_, _, _, rfl⟩ := conc_slice hx
        exact ⟨_, by simp [Builtin.cap_, ht.run, hd]; rfl, by simp [conc]; rfl⟩
    · rename_i k e rr hd
      obtain ⟨b, c, s1, rfl⟩ := conc_chan hx
      split at h
      · rename_i n bf cl hgr
        obtain ⟨b', c', x', h1, h2, h3⟩ := r.objs _ _ hgr
        rw [s1] at h1; cases h1
        obtain ⟨buf', s, rr', rfl, hbuf⟩ := h3.inv_chan
        cases h
        have o1 := run_getObj (P := P) h2 (by intro _ _ _ e; cases e)
        exact ⟨_, by simp [Builtin.cap_, ht.run, hd, o1]; rfl, by simp [conc]; rfl⟩
      · cases h
    · cases h

theorem builtinL_sound (hE : EnvOk P E) {hp : H} (r : HRel σ hp w.heap) {b : Builtin} {ats : Array TypeId} {vs : List AV} {xs : List Value} (hv : concL σ vs = some xs) {v : AV} (h : builtinL E b ats vs hp = some v) (u : TypeId) (cs : Array Bool) :
    ∃ y, (builtin b ats u cs ⟨xs⟩).run P w = .ok (.value y) w ∧ conc σ v = some y := by
  obtain ⟨ats⟩ := ats
  unfold builtinL at h
  split at h
  · rename_i t ts x heq
    simp only at heq; subst heq
    have hl := concL_length hv
    match xs, hl, hv with
    | [x'], _, hv =>
      obtain ⟨y, h1, h2⟩ := len_sound hE r (concL_one.1 hv) h ts u
      exact ⟨y, by simp [builtin, h1], h2⟩
  · rename_i t ts x heq
    simp only at heq; subst heq
    have hl := concL_length hv
    match xs, hl, hv with
    | [x'], _, hv =>
      obtain ⟨y, h1, h2⟩ := cap_sound hE r (concL_one.1 hv) h ts u
      exact ⟨y, by simp [builtin, h1], h2⟩
  · rename_i k a k' b'
    have hl := concL_length hv
    match xs, hl, hv with
    | [x', y'], _, hv =>
      obtain ⟨e1, e2⟩ := concL_two.1 hv
      have e1 := conc_int e1; have e2 := conc_int e2; subst e1 e2
      cases h
      refine ⟨.int k (if b' > a then b' else a), by simp [builtin, Builtin.max_, Builtin.max2], ?_⟩
      rw [ltI_eq]
      by_cases hlt : a < b' <;> simp [hlt, conc]
  · rename_i k a k' b'
    have hl := concL_length hv
    match xs, hl, hv with
    | [x', y'], _, hv =>
      obtain ⟨e1, e2⟩ := concL_two.1 hv
      have e1 := conc_int e1; have e2 := conc_int e2; subst e1 e2
      cases h
      refine ⟨.int k (if b' < a then b' else a), by simp [builtin, Builtin.min_, Builtin.min2], ?_⟩
      rw [ltI_eq]
      by_cases hlt : b' < a <;> simp [hlt, conc]
  · have hl := concL_length hv
    match xs, hl, hv with
    | [x'], _, hv =>
      obtain ⟨_, _, rfl⟩ := conc_sliceNil (concL_one.1 hv)
      cases h
      exact ⟨.pointer none, rfl, by simp [conc]⟩
  · rename_i a n
    obtain ⟨i, o⟩ := a
    have hl := concL_length hv
    match xs, hl, hv with
    | [x'], _, hv =>
      obtain ⟨bb, c', s1, rfl, hle⟩ := conc_slice' (concL_one.1 hv)
      have hle := hle rfl
      cases hn : Nat.beq n 0 with
      | true => simp [hn] at h
      | false =>
        simp [hn] at h; subst h
        have hn0 : n ≠ 0 := fun e => by simp [e] at hn
        have hc : c' ≠ 0 := by omega
        refine ⟨.pointer (some ⟨bb, o, none⟩), ?_, by simp [conc, s1]⟩
        have e : ∀ ats', Builtin.unsafeSliceData_ ats' u #[.slice (some ⟨bb, o, none⟩) n c'] = pure (.pointer (some ⟨bb, o, none⟩)) := fun ats' => if_pos hc
        simp [builtin, e]
  · cases h

theorem splitN_eq {α : Type} : ∀ {n : Nat} {l a b : List α}, splitN n l = some (a, b) → l = a ++ b ∧ a.length = n
  | 0, l, a, b, h => by simp [splitN] at h; obtain ⟨rfl, rfl⟩ := h; simp
  | n + 1, [], a, b, h => by simp [splitN] at h
  | n + 1, x :: l, a, b, h => by
    simp only [splitN] at h
    cases hs : splitN n l with
    | none => simp [hs] at h
    | some p =>
      obtain ⟨c, d⟩ := p
      simp [hs] at h
      obtain ⟨rfl, rfl⟩ := h
      obtain ⟨e1, e2⟩ := splitN_eq hs
      exact ⟨by simp [e1], by simp [e2]⟩

theorem concL_split {σ : Sg} : ∀ {a b : List AV} {x : List Value}, concL σ (a ++ b) = some x → concL σ a = some (x.take a.length) ∧ concL σ b = some (x.drop a.length)
  | [], b, x, h => ⟨by simp [concL], by simpa using h⟩
  | v :: a, b, x, h => by
    obtain ⟨p, q, h1, h2, rfl⟩ := concL_cons.1 (by simpa using h)
    obtain ⟨e1, e2⟩ := concL_split h2
    exact ⟨concL_cons.2 ⟨p, _, h1, e1, rfl⟩, by simpa using e2⟩

theorem optV_sound {o : Option Operand} {ρ : Operand → Value} {vs : List AV} {rest : List Value} (hv : concL σ vs = some ((o.toArray.toList.map ρ) ++ rest)) {a : Option AV} {vs' : List AV} (h : optV o vs = some (a, vs')) :
    concO σ a (o.map ρ) ∧ concL σ vs' = some rest := by
  cases o with
  | none => simp [optV] at h; obtain ⟨rfl, rfl⟩ := h; exact ⟨trivial, by simpa using hv⟩
  | some x =>
    obtain ⟨a', m, rfl, h1, h2⟩ := invC (by simpa using hv)
    simp [optV] at h; obtain ⟨rfl, rfl⟩ := h
    exact ⟨h1, h2⟩

def noNum : Value → Prop
  | .int _ _ => False
  | .float _ _ => False
  | .complex _ _ _ => False
  | .string _ => False
  | _ => True
theorem plain_eq (t : TypeId) {x : Value} (y : Value) (h : noNum x) : binOp .eql t x y = (do pure (.bool (← Op.equal t x y))) ∧ binOp .neq t x y = (do pure (.bool (!(← Op.equal t x y)))) := by
  cases x <;> simp only [noNum] at h <;> cases y <;> exact ⟨rfl, rfl⟩
theorem eqV_kind {t : TypeId} {a b : AV} {r : Bool} (h : eqV E t a b = some r) : (∀ k n, a ≠ .int k n) ∧ ∀ s, a ≠ .str s := by
  refine ⟨fun k n e => ?_, fun s e => ?_⟩ <;> subst e <;> unfold eqV at h <;> (cases hg : E.ts.get t with
    | none => simp [hg] at h
    | some i => simp only [hg] at h; split at h <;> first | (rename_i heq _ _; cases heq; done) | (rename_i heq _; cases heq; done) | (rename_i heq; cases heq; done) | cases h)
theorem noNum_of {a : AV} {x : Value} (hx : conc σ a = some x) (h : (∀ k n, a ≠ .int k n) ∧ ∀ s, a ≠ .str s) : noNum x := by
  cases a with
  | int k n => exact absurd rfl (h.1 k n)
  | str s => exact absurd rfl (h.2 s)
  | bool b => simp [conc] at hx; subst hx; trivial
  | nilFunc => simp [conc] at hx; subst hx; trivial
  | nilIface => simp [conc] at hx; subst hx; trivial
  | ptr p =>
    rcases p with _ | ⟨i, o⟩
    · simp [conc] at hx; subst hx; trivial
    · obtain ⟨_, _, _, rfl⟩ := conc_ptr hx; trivial
  | slice p n c =>
    rcases p with _ | ⟨i, o⟩
    · obtain ⟨_, _, rfl⟩ := conc_sliceNil hx; trivial
    · obtain ⟨_, _, _, rfl⟩ := conc_slice hx; trivial
  | map p =>
    rcases p with _ | i
    · have := conc_mapNil hx; subst this; trivial
    · obtain ⟨_, _, _, rfl⟩ := conc_map hx; trivial
  | chan p =>
    rcases p with _ | i
    · simp [conc] at hx; subst hx; trivial
    · obtain ⟨_, _, _, rfl⟩ := conc_chan hx; trivial
  | func f a b => obtain ⟨_, _, _, _, rfl⟩ := conc_func hx; trivial
  | yield l => obtain ⟨_, _, _, rfl⟩ := conc_yield hx; trivial
  | iface t v => obtain ⟨_, _, rfl⟩ := conc_iface hx; trivial
  | agg cs => obtain ⟨_, _, rfl⟩ := conc_agg hx; trivial
  | tuple cs => obtain ⟨_, _, rfl⟩ := conc_tuple hx; trivial

set_option maxHeartbeats 1000000 in
theorem light_sound (hE : EnvOk P E) {hp : H} (r : HRel σ hp w.heap) {o : Oper} {ρ : Operand → Value} {vs : List AV} (hv : concL σ vs = some (o.op.operands.toList.map ρ)) {v : AV} (h : lightA E o.op vs hp = some v) :
    ∃ x, (execOp ρ o).run P w = .ok (.value x) w ∧ conc σ v = some x := by
  obtain ⟨dst, op, type, pos, after, guard⟩ := o
  simp only at hv h
  cases op
  case move x =>
    obtain ⟨a, rfl, ha⟩ := inv1 (by simpa [Op.operands] using hv)
    simp only [lightA] at h; cases h
    exact ⟨_, rfl, ha⟩
  case assign x =>
    obtain ⟨a, rfl, ha⟩ := inv1 (by simpa [Op.operands] using hv)
    simp only [lightA] at h; cases h
    exact ⟨_, rfl, ha⟩
  case pick c a b =>
    obtain ⟨c', a', b', rfl, hc, ha, hb⟩ := inv3 (by simpa [Op.operands] using hv)
    cases c' <;> simp only [lightA] at h <;> try (cases h; done)
    rename_i cc
    have e := conc_bool hc
    cases cc
    · simp at h; subst h; exact ⟨ρ b, by simp [execOp, e, asBool], hb⟩
    · simp at h; subst h; exact ⟨ρ a, by simp [execOp, e, asBool], ha⟩
  case build t ps =>
    have hv' : concL σ vs = some ((ps.toList.map (·.2)).map ρ) := by simpa [Op.operands] using hv
    obtain ⟨x, h1, h2⟩ := build_sound (w := w) hE hv' h
    refine ⟨x, ?_, h2⟩
    have : (ps.map fun (p : Nat × Operand) => (p.1, ρ p.2)) = ((ps.toList.map (·.1)).zip ((ps.toList.map (·.2)).map ρ)).toArray := by
      rw [← Array.toList_inj]; simp [List.zip_map_left, List.zip_map_right]
      induction ps.toList with
      | nil => rfl
      | cons p l ih => simp [ih]
    simp only [execOp, this, Sem.run_bind, h1, Result.andThen_ok, Sem.run_pure]
  case load t x =>
    obtain ⟨a, rfl, ha⟩ := inv1 (by simpa [Op.operands] using hv)
    cases a <;> simp only [lightA] at h <;> try (cases h; done)
    rename_i p
    rcases p with _ | ⟨i, o⟩
    · cases h
    · simp only at h
      cases hg : E.ts.get t with
      | none => simp [hg] at h
      | some ti =>
        simp only [hg] at h
        obtain ⟨b, c, s1, e⟩ := conc_ptr ha
        obtain ⟨y, h1, h2⟩ := load_sound (hE.ts _ _ hg) r h s1
        exact ⟨y, by simp [execOp, e, Instr.loadAt, Instr.sureAddr, h1], h2⟩
  case nilCheck x =>
    obtain ⟨a, rfl, ha⟩ := inv1 (by simpa [Op.operands] using hv)
    simp only [lightA] at h
    split at h
    · cases h
      rename_i p
      obtain ⟨i, o⟩ := p
      obtain ⟨b, c, s1, e⟩ := conc_ptr ha
      exact ⟨_, by simp only [execOp, e]; rfl, by rw [e] at ha; exact ha⟩
    · cases h
      obtain ⟨y, z, h1, h2, e⟩ := conc_func ha
      exact ⟨_, by simp only [execOp, e]; rfl, by rw [e] at ha; exact ha⟩
    · cases h
      obtain ⟨b, c, s1, e⟩ := conc_yield ha
      exact ⟨_, by simp only [execOp, e]; rfl, by rw [e] at ha; exact ha⟩
    · cases h
  case unOp op t x =>
    obtain ⟨a, rfl, ha⟩ := inv1 (by simpa [Op.operands] using hv)
    simp only [lightA] at h
    obtain ⟨y, h1, h2⟩ := un_sound (P := P) (w := w) ha h
    exact ⟨y, by simp [execOp, h1], h2⟩
  case binOp op t x y t2 =>
    obtain ⟨a, b, rfl, ha, hb⟩ := inv2 (by simpa [Op.operands] using hv)
    simp only [lightA] at h
    have fin : ∀ y', (binOp op t (ρ x) (ρ y)).run P w = .ok y' w → (eqGuard op t x y (ρ x) (ρ y)).run P w = .ok () w → (execOp ρ ⟨dst, .binOp op t x y t2, type, pos, after, guard⟩).run P w = .ok (.value y') w := by
      intro y' h1 h2
      simp [execOp, h1, h2]
    have guardI : ∀ k m k' n, ρ x = .int k m → ρ y = .int k' n → (eqGuard op t x y (ρ x) (ρ y)).run P w = .ok () w := by
      intro k m k' n e1 e2; rw [e1, e2]; cases op <;> simp [eqGuard]
    unfold binA at h
    split at h
    · rename_i k m k' n
      have e1 := conc_int ha; have e2 := conc_int hb
      have g := guardI _ _ _ _ e1 e2
      have done : ∀ z, (binOp op t (.int k m) (.int k' n)).run P w = .ok z w → conc σ v = some z → ∃ x_1, (execOp ρ ⟨dst, .binOp op t x y t2, type, pos, after, guard⟩).run P w = .ok (.value x_1) w ∧ conc σ v = some x_1 := by
        intro z h1 h2; exact ⟨z, fin z (by rw [e1, e2]; exact h1) g, h2⟩
      split at h
      · split at h
        · obtain ⟨z, h1, h2⟩ := shift_sound (P := P) (w := w) (yk := k') h t; exact done z h1 (h2 σ)
        · cases h
      · split at h
        · obtain ⟨z, h1, h2⟩ := shift_sound (P := P) (w := w) (yk := k') h t; exact done z h1 (h2 σ)
        · cases h
      · split at h
        · rename_i hk; subst hk
          split at h
          · obtain ⟨z, h1, h2⟩ := bits_sound (P := P) (w := w) h t; exact done z h1 (h2 σ)
          · cases h
        · cases h
      · split at h
        · rename_i hk; subst hk
          split at h
          · obtain ⟨z, h1, h2⟩ := bits_sound (P := P) (w := w) h t; exact done z h1 (h2 σ)
          · cases h
        · cases h
      · split at h
        · rename_i hk; subst hk
          split at h
          · obtain ⟨z, h1, h2⟩ := bits_sound (P := P) (w := w) h t; exact done z h1 (h2 σ)
          · cases h
        · cases h
      · rename_i n1 n2 n3 n4 n5
        split at h
        · rename_i hk; subst hk
          obtain ⟨z, h1, h2⟩ := arith_sound (P := P) (w := w) h t ⟨n1, n2, n3, n4, n5⟩; exact done z h1 (h2 σ)
        · cases h
    · have e1 := conc_str ha; have e2 := conc_str hb
      obtain ⟨z, h1, h2⟩ := str_sound (P := P) (w := w) h t
      exact ⟨z, fin z (by rw [e1, e2]; exact h1) (by rw [e1, e2]; cases op <;> simp [eqGuard]), h2 σ⟩
    · have eqop : ∀ bb : Bool, eqV E t a b = some bb → (binOp .eql t (ρ x) (ρ y)).run P w = .ok (.bool bb) w ∧ (binOp .neq t (ρ x) (ρ y)).run P w = .ok (.bool (!bb)) w ∧ ∀ op p q, (eqGuard op t p q (ρ x) (ρ y)).run P w = .ok () w := by
        intro bb hbb
        obtain ⟨q1, q2⟩ := eqV_sound (w := w) hE ha hb hbb
        have hp := plain_eq t (ρ y) (noNum_of ha (eqV_kind hbb))
        exact ⟨by rw [hp.1]; simp [q1], by rw [hp.2]; simp [q1], q2⟩
      split at h
      · cases hq : eqV E t a b with
        | none => simp [hq] at h
        | some bb =>
          simp [hq] at h; subst h
          obtain ⟨h1, _, h3⟩ := eqop bb hq
          exact ⟨.bool bb, fin _ h1 (h3 _ _ _), by simp [conc]⟩
      · cases hq : eqV E t a b with
        | none => simp [hq] at h
        | some bb =>
          simp [hq] at h; subst h
          obtain ⟨_, h2, h3⟩ := eqop bb hq
          exact ⟨.bool (!bb), fin _ h2 (h3 _ _ _), by simp [conc]⟩
      · cases h
  case convert s d x =>
    obtain ⟨a, rfl, ha⟩ := inv1 (by simpa [Op.operands] using hv)
    simp only [lightA] at h
    obtain ⟨y, h1, h2⟩ := conv_sound (w := w) hE r ha h
    exact ⟨y, by simp [execOp, h1], h2⟩
  case sliceToArrayPointer t x =>
    obtain ⟨a, rfl, ha⟩ := inv1 (by simpa [Op.operands] using hv)
    simp only [lightA] at h
    cases hg : E.ts.get t with
    | none => simp [hg] at h
    | some ti =>
      have ht := hE.ts _ _ hg
      simp only [hg] at h
      split at h
      · rename_i n e sl len cp hd
        cases hl : Nat.ble n len with
        | false => simp [hl] at h
        | true =>
          simp [hl] at h; subst h
          have hle := Nat.le_of_ble_eq_true hl
          rcases sl with _ | ⟨i, o⟩
          · obtain ⟨_, _, e1⟩ := conc_sliceNil ha
            refine ⟨.pointer none, ?_, by simp [conc]⟩
            simp [execOp, Instr.arrayAt, ht.run, hd, e1]; omega
          · obtain ⟨bb, c', s1, e1⟩ := conc_slice ha
            refine ⟨.pointer (some ⟨bb, o, none⟩), ?_, by simp [conc, s1]⟩
            simp [execOp, Instr.arrayAt, ht.run, hd, e1]; omega
      · cases h
  case makeInterface t x =>
    obtain ⟨a, rfl, ha⟩ := inv1 (by simpa [Op.operands] using hv)
    simp only [lightA] at h
    cases hg : E.ts.get t with
    | none => simp [hg] at h
    | some ti =>
      have ht := hE.ts _ _ hg
      simp only [hg] at h
      cases hni : isIfc ti.desc with
      | true => rw [hni] at h; cases h
      | false =>
        rw [hni] at h; simp only [cond_false] at h; cases h
        refine ⟨.iface t (ρ x), ?_, by simp [conc, ha]⟩
        simp only [execOp, Instr.makeInterface, Sem.run_bind, ht.run, Result.andThen_ok]
        cases hd : ti.desc <;> first | (rw [hd] at hni; cases hni; done) | simp
  case makeFunc fn first cap =>
    simp only [lightA] at h
    split at h
    · rename_i f a b hs
      cases h
      obtain ⟨e1, e2⟩ := splitN_eq hs
      subst e1
      obtain ⟨c1, c2⟩ := concL_split hv
      have hl : (first.toList.map ρ).length = a.length := by simp [e2]
      have k1 : ((Op.makeFunc (.func f) first cap).operands.toList.map ρ).take a.length = first.toList.map ρ := by
        simp [Op.operands, ← e2]
      have k2 : ((Op.makeFunc (.func f) first cap).operands.toList.map ρ).drop a.length = cap.toList.map ρ := by
        simp [Op.operands, ← e2]
      rw [k1] at c1; rw [k2] at c2
      refine ⟨.func (.func f) ⟨first.toList.map ρ⟩ ⟨cap.toList.map ρ⟩, ?_, by simp [conc, c1, c2]⟩
      have m1 : first.map ρ = ⟨first.toList.map ρ⟩ := by rw [← Array.toList_inj]; simp
      have m2 : cap.map ρ = ⟨cap.toList.map ρ⟩ := by rw [← Array.toList_inj]; simp
      simp [execOp, Instr.makeFunc, m1, m2]
    · cases h
  case slice t x lo hi mx =>
    simp only [lightA] at h
    have hv' : concL σ vs = some (ρ x :: (lo.toArray.toList.map ρ ++ (hi.toArray.toList.map ρ ++ (mx.toArray.toList.map ρ ++ [])))) := by
      rw [hv]; simp [Op.operands]
    obtain ⟨a, m, rfl, ha, hm⟩ := invC hv'
    simp only [sliceA] at h
    cases h1 : optV lo m with
    | none => simp [h1] at h
    | some p1 =>
      obtain ⟨l, v1⟩ := p1
      obtain ⟨c1, r1⟩ := optV_sound hm h1
      simp only [h1] at h
      cases h2 : optV hi v1 with
      | none => simp [h2] at h
      | some p2 =>
        obtain ⟨hh, v2⟩ := p2
        obtain ⟨c2, r2⟩ := optV_sound r1 h2
        simp only [h2] at h
        cases h3 : optV mx v2 with
        | none => simp [h3] at h
        | some p3 =>
          obtain ⟨mm, v3⟩ := p3
          obtain ⟨c3, r3⟩ := optV_sound r2 h3
          simp only [h3] at h
          cases v3 with
          | cons _ _ => cases h
          | nil =>
            simp only at h
            obtain ⟨y, e1, e2⟩ := sliceB_sound (w := w) hE ha c1 c2 c3 h
            exact ⟨y, by simp [execOp, e1], e2⟩
  case fieldAddr s x f =>
    obtain ⟨a, rfl, ha⟩ := inv1 (by simpa [Op.operands] using hv)
    simp only [lightA] at h
    obtain ⟨y, h1, h2⟩ := fieldAddr_sound (w := w) hE ha h
    exact ⟨y, by simp [execOp, h1], h2⟩
  case field t x f =>
    obtain ⟨a, rfl, ha⟩ := inv1 (by simpa [Op.operands] using hv)
    simp only [lightA] at h
    obtain ⟨y, h1, h2⟩ := field_sound (w := w) hE ha h
    exact ⟨y, by simp [execOp, h1], h2⟩
  case indexAddr t x i =>
    obtain ⟨a, b, rfl, ha, hb⟩ := inv2 (by simpa [Op.operands] using hv)
    simp only [lightA] at h
    obtain ⟨y, h1, h2⟩ := indexAddr_sound (w := w) hE ha hb h
    exact ⟨y, by simp [execOp, h1], h2⟩
  case index t x i =>
    obtain ⟨a, b, rfl, ha, hb⟩ := inv2 (by simpa [Op.operands] using hv)
    simp only [lightA] at h
    obtain ⟨y, h1, h2⟩ := index_sound (w := w) hE ha hb h
    exact ⟨y, by simp [execOp, h1], h2⟩
  case lookup t x i ok =>
    obtain ⟨a, b, rfl, ha, hb⟩ := inv2 (by simpa [Op.operands] using hv)
    simp only [lightA] at h
    obtain ⟨y, h1, h2⟩ := lookup_sound (w := w) hE r ha hb h
    exact ⟨y, by simp [execOp, h1], h2⟩
  case entry x =>
    obtain ⟨a, rfl, ha⟩ := inv1 (by simpa [Op.operands] using hv)
    simp only [lightA] at h
    obtain ⟨y, h1, h2⟩ := entry_sound (P := P) (w := w) r ha h
    exact ⟨y, by simp [execOp, h1], h2⟩
  case typeAssert x xt t ok =>
    obtain ⟨a, rfl, ha⟩ := inv1 (by simpa [Op.operands] using hv)
    simp only [lightA] at h
    obtain ⟨y, h1, h2⟩ := typeAssert_sound (w := w) (xT := xt) hE ha h
    exact ⟨y, by simp [execOp, h1], h2⟩
  case extract t ix =>
    obtain ⟨a, rfl, ha⟩ := inv1 (by simpa [Op.operands] using hv)
    cases a <;> simp only [lightA] at h <;> try (cases h; done)
    obtain ⟨l, hl, e⟩ := conc_tuple ha
    obtain ⟨y, h1, h2⟩ := concL_nth hl h
    exact ⟨y, by simp [execOp, e, Instr.extract, h1], h2⟩
  case call c =>
    simp only [lightA] at h
    split at h
    · rename_i bb hc
      have hv' : concL σ vs = some (c.args.toList.map ρ) := by rw [hv]; simp [Op.operands, Call.operands, hc]
      obtain ⟨y, h1, h2⟩ := builtinL_sound (w := w) hE r hv' h type (c.args.map fun | .const _ => true | _ => false)
      refine ⟨y, ?_, h2⟩
      have m1 : c.args.map ρ = ⟨c.args.toList.map ρ⟩ := by rw [← Array.toList_inj]; simp
      simp only [execOp, resolve, hc, m1, Sem.run_bind, Sem.run_pure, Result.andThen_ok, invoke]
      exact h1
    · cases h
  all_goals (simp only [lightA] at h; cases h)

end
end Go.Ev
