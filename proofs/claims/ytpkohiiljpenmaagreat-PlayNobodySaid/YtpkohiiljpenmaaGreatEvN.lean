/- The evaluator's soundness: all operations that leave memory alone, put together. -/
import Derived.Test.YtpkohiiljpenmaaGreatEvH
set_option linter.unusedSimpArgs false
set_option linter.unusedVariables false
namespace Go.Ev

theorem inv0 {σ : Sg} {vs : List AV} (h : concL σ vs = some []) : vs = [] := by
  have := concL_length h; exact List.length_eq_zero_iff.1 (by simpa using this.symm)
theorem inv1 {σ : Sg} {vs : List AV} {x : Value} (h : concL σ vs = some [x]) : ∃ a, vs = [a] ∧ conc σ a = some x := by
  have hl := concL_length h
  match vs, h, hl with
  | [a], h, _ => exact ⟨a, rfl, concL_one.1 h⟩
theorem inv2 {σ : Sg} {vs : List AV} {x y : Value} (h : concL σ vs = some [x, y]) : ∃ a b, vs = [a, b] ∧ conc σ a = some x ∧ conc σ b = some y := by
  have hl := concL_length h
  match vs, h, hl with
  | [a, b], h, _ => exact ⟨a, b, rfl, concL_two.1 h⟩
theorem inv3 {σ : Sg} {vs : List AV} {x y z : Value} (h : concL σ vs = some [x, y, z]) : ∃ a b c, vs = [a, b, c] ∧ conc σ a = some x ∧ conc σ b = some y ∧ conc σ c = some z := by
  have hl := concL_length h
  match vs, h, hl with
  | [a, b, c], h, _ => exact ⟨a, b, c, rfl, concL_three.1 h⟩
theorem invC {σ : Sg} {vs : List AV} {x : Value} {l : List Value} (h : concL σ vs = some (x :: l)) : ∃ a m, vs = a :: m ∧ conc σ a = some x ∧ concL σ m = some l := by
  have hl := concL_length h
  match vs, h, hl with
  | a :: m, h, _ =>
    obtain ⟨p, q, h1, h2, h3⟩ := concL_cons.1 h
    cases h3; exact ⟨a, m, rfl, h1, h2⟩

section
variable {P : Program} {E : Env} {σ : Sg} {w : World}

theorem nth_get {α : Type} : ∀ {l : List α} {n : Nat} {a : α}, nth l n = some a → l[n]? = some a
  | [], n, a, h => by simp [nth] at h
  | b :: l, 0, a, h => by simpa [nth] using h
  | b :: l, n + 1, a, h => by simp [nth] at h; simpa using nth_get h

theorem fieldAddr_sound (hE : EnvOk P E) {s : TypeId} {a : AV} {x : Value} (hx : conc σ a = some x) {f : Nat} {v : AV} (h : fieldAddrA E s a f = some v) :
    ∃ y, (Instr.fieldAt s x f).run P w = .ok y w ∧ conc σ v = some y := by
  unfold fieldAddrA at h
  split at h
  · rename_i t i o hg
    have ht := hE.ts _ _ hg
    obtain ⟨b, c, s1, rfl⟩ := conc_ptr hx
    split at h
    · rename_i fs hd
      split at h
      · rename_i fd hn
        split at h
        · rename_i y hy
          have hty := hE.ts _ _ hy
          cases hz : Nat.beq y.size 0 with
          | true => simp [hz] at h
          | false =>
            simp [hz, fN_eq] at h; subst h
            have hne : y.size ≠ 0 := fun e => by simp [e] at hz
            have hf : fs[f]? = some fd := by simpa using nth_get hn
            refine ⟨.pointer (some ⟨b, o + fd.offset, none⟩), ?_, by simp [conc, s1]⟩
            simp [Instr.fieldAt, ht.run, hd, hf, Instr.sureAddr, fieldPlace, hty.size, hne, add_addr]
        · cases h
      · cases h
    · cases h
  · cases h

theorem field_sound (hE : EnvOk P E) {t : TypeId} {a : AV} {x : Value} (hx : conc σ a = some x) {f : Nat} {v : AV} (h : fieldA E t a f = some v) :
    ∃ y, (Instr.field t x f).run P w = .ok y w ∧ conc σ v = some y := by
  unfold fieldA at h
  split at h
  · rename_i ti cs hg
    have ht := hE.ts _ _ hg
    obtain ⟨l, hl, rfl⟩ := conc_agg hx
    split at h
    · rename_i fs hd
      split at h
      · rename_i fd hn
        split at h
        · rename_i y hy
          obtain ⟨y', e1, e2⟩ := part_sound (w := w) (hE.ts _ _ hy) hl h
          have hf : fs[f]? = some fd := by simpa using nth_get hn
          exact ⟨y', by simp [Instr.field, ht.run, hd, hf, asAgg, e1], e2⟩
        · cases h
      · cases h
    · cases h
  · cases h

theorem indexAddr_sound (hE : EnvOk P E) {t : TypeId} {a ix : AV} {x ixx : Value} (hx : conc σ a = some x) (hi : conc σ ix = some ixx) {v : AV} (h : indexAddrA E t a ix = some v) :
    ∃ y, (Instr.indexAt t x ixx).run P w = .ok y w ∧ conc σ v = some y := by
  unfold indexAddrA at h
  split at h
  · rename_i ti i hg hn
    have ht := hE.ts _ _ hg
    obtain ⟨k, rfl⟩ := natOf_sound hi hn
    split at h
    · rename_i n e b o hd
      obtain ⟨bb, c, s1, rfl⟩ := conc_ptr hx
      split at h
      · rename_i y hy
        have hty := hE.ts _ _ hy
        cases hlt : Nat.blt i n with
        | false => simp [hlt] at h
        | true =>
          simp [hlt, fN_eq] at h; subst h
          have hlt : i < n := by simp [Nat.blt] at hlt; omega
          refine ⟨.pointer (some ⟨bb, o + i * y.size, none⟩), ?_, by simp [conc, s1]⟩
          simp [Instr.indexAt, asIntOf, ht.run, hd, Instr.sureAddr, hty.size, add_addr, hlt]
      · cases h
    · rename_i e b o n c hd
      obtain ⟨bb, c', s1, rfl⟩ := conc_slice hx
      split at h
      · rename_i y hy
        have hty := hE.ts _ _ hy
        cases hlt : Nat.blt i n with
        | false => simp [hlt] at h
        | true =>
          simp [hlt, fN_eq] at h; subst h
          have hlt : i < n := by simp [Nat.blt] at hlt; omega
          refine ⟨.pointer (some ⟨bb, o + i * y.size, none⟩), ?_, by simp [conc, s1]⟩
          simp [Instr.indexAt, asIntOf, ht.run, hd, hty.size, add_addr, hlt]
      · cases h
    · cases h
  · cases h

theorem index_sound (hE : EnvOk P E) {t : TypeId} {a ix : AV} {x ixx : Value} (hx : conc σ a = some x) (hi : conc σ ix = some ixx) {v : AV} (h : indexA E t a ix = some v) :
    ∃ y, (Instr.index t x ixx).run P w = .ok y w ∧ conc σ v = some y := by
  unfold indexA at h
  split at h
  · rename_i ti i hg hn
    have ht := hE.ts _ _ hg
    obtain ⟨k, rfl⟩ := natOf_sound hi hn
    split at h
    · rename_i n e cs hd
      obtain ⟨l, hl, rfl⟩ := conc_agg hx
      split at h
      · rename_i y hy
        have hty := hE.ts _ _ hy
        cases hlt : Nat.blt i n with
        | false => simp [hlt] at h
        | true =>
          simp only [hlt, cond_true] at h
          have hlt : i < n := by simp [Nat.blt] at hlt; omega
          obtain ⟨y', e1, e2⟩ := part_sound (w := w) hty hl h
          refine ⟨y', ?_, e2⟩
          simp [Instr.index, asIntOf, ht.run, hd, hty.size, hlt, e1]
      · cases h
    · rename_i s hd
      have e := conc_str hx; subst e
      split at h
      · rename_i b hb
        simp [fN_eq] at h; subst h
        have := nth_get hb
        refine ⟨.int .u8 b.toNat, ?_, by simp [conc]⟩
        have hg : (⟨⟨s⟩⟩ : ByteArray)[i]? = some b := by
          have hlt : i < s.length := (List.getElem?_eq_some_iff.1 this).1
          rw [getElem?_pos (⟨⟨s⟩⟩ : ByteArray) i (by simpa [size_mk] using hlt)]
          have := (List.getElem?_eq_some_iff.1 this).2
          simpa [ByteArray.getElem_eq_getElem_data] using this
        simp [Instr.index, asIntOf, ht.run, hd, hg]
      · cases h
    · cases h
  · cases h

theorem entry_sound {hp : H} (r : HRel σ hp w.heap) {it : AV} {x : Value} (hx : conc σ it = some x) {v : AV} (h : entryA it hp = some v) :
    ∃ y, (Instr.entry x).run P w = .ok y w ∧ conc σ v = some y := by
  unfold entryA at h
  split at h
  · rename_i rr
    obtain ⟨b, c, s1, rfl⟩ := conc_ptr hx
    split at h
    · rename_i m since bn st hg
      obtain ⟨b', c', x', h1, h2, h3⟩ := r.objs _ _ hg
      rw [s1] at h1; cases h1
      split at h
      · rename_i k vv b2 cl hg2
        obtain ⟨b3, c3, x3, g1, g2, g3⟩ := r.objs _ _ hg2
        cases hc : (Nat.beq bn b2 && Nat.beq cl st) with
        | false => rw [hc] at h; cases h
        | true =>
          rw [hc] at h; simp only [cond_true] at h
          simp only [Bool.and_eq_true] at hc
          have e1 := Nat.eq_of_beq_eq_true hc.1; have e2 := Nat.eq_of_beq_eq_true hc.2
          subst e1 e2
          cases h
          cases x' <;> simp only [ORel] at h3
          rename_i m' since' seen' last'
          obtain ⟨hm, rfl, hseen, rfl⟩ := h3
          obtain ⟨bm, cm, sm, em⟩ := conc_map hm
          cases em
          rw [g1] at sm; cases sm
          obtain ⟨es', rfl, hes⟩ := g3.inv_map
          obtain ⟨kx, vx, l, k1, k2, k3, k4⟩ := concE_cons.1 hes
          simp [concE] at k3; subst k3
          have o1 := run_getObj (P := P) h2 (by intro _ _ _ e; cases e)
          have o2 := run_getObj (P := P) g2 (by intro _ _ _ e; cases e)
          have hback : seen'.back? = some bn := by
            have : seen' = #[bn] := by rw [← Array.toList_inj, hseen]
            rw [this]; rfl
          have hes2 : es' = #[{ key := kx, val := vx, born := bn }] := by rw [← Array.toList_inj, k4]
          refine ⟨.tuple #[kx, vx], ?_, by simp [conc, concL, k1, k2]⟩
          simp [Instr.entry, o1, o2, hback, hes2]
      · cases h
    · cases h
  · cases h

theorem typeAssert_sound (hE : EnvOk P E) {xT t : TypeId} {ok : Bool} {a : AV} {x : Value} (hx : conc σ a = some x) {v : AV} (h : typeAssertA E t ok a = some v) :
    ∃ y, (Instr.typeAssert x xT t ok).run P w = .ok y w ∧ conc σ v = some y := by
  unfold typeAssertA at h
  cases hg : E.ts.get t with
  | none => simp [hg] at h
  | some ti =>
    have ht := hE.ts _ _ hg
    obtain ⟨z, hz1, hz2⟩ := ht.zero
    simp only [hg] at h
    cases hni : isIfc ti.desc with
    | true => rw [hni] at h; cases h
    | false =>
      rw [hni] at h; simp only [cond_false] at h
      unfold Instr.typeAssert
      simp only [Sem.run_bind, ht.run, Result.andThen_ok]
      split at h
      · rename_i u y
        obtain ⟨yx, hy, rfl⟩ := conc_iface hx
        by_cases hu : u = t
        · subst hu
          simp only [if_true] at h
          refine ⟨if ok then .tuple #[yx, .bool true] else yx, ?_, ?_⟩
          · cases hd : ti.desc <;> first | (rw [hd] at hni; cases hni; done) | simp
          · cases ok <;> simp at h <;> subst h <;> simp [conc, concL, hy]
        · simp only [hu, if_false] at h
          cases ok with
          | false => simp at h
          | true =>
            simp at h; subst h
            refine ⟨.tuple #[z, .bool false], ?_, by simp [conc, concL, hz2]⟩
            cases hd : ti.desc <;> first | (rw [hd] at hni; cases hni; done) | simp [hu, hz1]
      · have : x = .nilIface := by simp [conc] at hx; exact hx.symm
        subst this
        cases ok with
        | false => simp at h
        | true =>
          simp at h; subst h
          refine ⟨.tuple #[z, .bool false], ?_, by simp [conc, concL, hz2]⟩
          cases hd : ti.desc <;> first | (rw [hd] at hni; cases hni; done) | simp [hz1]
      · cases h

theorem len_sound (hE : EnvOk P E) {hp : H} (r : HRel σ hp w.heap) {t : TypeId} {a : AV} {x : Value} (hx : conc σ a = some x) {v : AV} (h : lenA E t a hp = some v) (ts : List TypeId) (u : TypeId) :
    ∃ y, (Builtin.len_ ⟨t :: ts⟩ u #[x]).run P w = .ok y w ∧ conc σ v = some y := by
  unfold lenA at h
  cases hg : E.ts.get t with
  | none => simp [hg] at h
  | some ti =>
    have ht := hE.ts _ _ hg
    simp only [hg] at h
    split at h
    · rename_i s hd
      have e := conc_str hx; subst e
      simp [fN_eq] at h; subst h
      exact ⟨_, by simp [Builtin.len_, ht.run, hd]; rfl, by simp [conc, size_mk]; rfl⟩
    · rename_i e s n c hd
      cases h
      rcases s with _ | ⟨i, o⟩
      · obtain ⟨_, _, rfl⟩ := conc_sliceNil hx
        exact ⟨_, by simp [Builtin.len_, ht.run, hd]; rfl, by simp [conc]; rfl⟩
      · obtain ⟨_, _, _, rfl⟩ := conc_slice hx
        exact ⟨_, by simp [Builtin.len_, ht.run, hd]; rfl, by simp [conc]; rfl⟩
    · rename_i hd
      cases h
      have := conc_mapNil hx; subst this
      exact ⟨_, by simp [Builtin.len_, ht.run, hd]; rfl, by simp [conc]; rfl⟩
    · rename_i k e rr hd
      obtain ⟨b, c, s1, rfl⟩ := conc_map hx
      split at h
      · rename_i es cl hgr
        obtain ⟨b', c', x', h1, h2, h3⟩ := r.objs _ _ hgr
        rw [s1] at h1; cases h1
        obtain ⟨es', rfl, hes⟩ := h3.inv_map
        simp [fN_eq] at h; subst h
        have o1 := run_getObj (P := P) h2 (by intro _ _ _ e; cases e)
        have hl : es'.size = es.length := by
          have : ∀ {es : List (AV × AV × Nat)} {l : List MapEntry}, concE σ es = some l → l.length = es.length := by
            intro es
            induction es with
            | nil => intro l hl; simp [concE] at hl; subst hl; rfl
            | cons e es ih => intro l hl; obtain ⟨_, _, l', _, _, h3, rfl⟩ := concE_cons.1 hl; simp [ih h3]
          simpa using this hes
        exact ⟨_, by simp [Builtin.len_, ht.run, hd, o1]; rfl, by simp [conc, hl]; rfl⟩
      · cases h
    · rename_i k e rr hd
      obtain ⟨b, c, s1, rfl⟩ := conc_chan hx
      split at h
      · rename_i n bf cl hgr
        obtain ⟨b', c', x', h1, h2, h3⟩ := r.objs _ _ hgr
        rw [s1] at h1; cases h1
        obtain ⟨buf', s, rr', rfl, hbuf⟩ := h3.inv_chan
        simp [fN_eq] at h; subst h
        have o1 := run_getObj (P := P) h2 (by intro _ _ _ e; cases e)
        have hl : buf'.size = bf.length := by simpa using concL_length hbuf
        exact ⟨_, by simp [Builtin.len_, ht.run, hd, o1]; rfl, by simp [conc, hl]; rfl⟩
      · cases h
    · rename_i n e hd
      cases h
      exact ⟨_, by simp [Builtin.len_, ht.run, hd]; rfl, by simp [conc]; rfl⟩
    · cases h

theorem cap_sound (hE : EnvOk P E) {hp : H} (r : HRel σ hp w.heap) {t : TypeId} {a : AV} {x : Value} (hx : conc σ a = some x) {v : AV} (h : capA E t a hp = some v) (ts : List TypeId) (u : TypeId) :
    ∃ y, (Builtin.cap_ ⟨t :: ts⟩ u #[x]).run P w = .ok y w ∧ conc σ v = some y := by
  unfold capA at h
  cases hg : E.ts.get t with
  | none => simp [hg] at h
  | some ti =>
    have ht := hE.ts _ _ hg
    simp only [hg] at h
    split at h
    · rename_i e s n c hd
      cases h
      rcases s with _ | ⟨i, o⟩
      · obtain ⟨_, e1, rfl⟩ := conc_sliceNil hx
        cases e1
        exact ⟨_, by simp [Builtin.cap_, ht.run, hd]; rfl, by simp [conc]; rfl⟩
      · obtain ⟨_, _, _, rfl⟩ := conc_slice hx
        exact ⟨_, by simp [Builtin.cap_, ht.run, hd]; rfl, by simp [conc]; rfl⟩
    · rename_i k e rr hd
      obtain ⟨b, c, s1, rfl⟩ := conc_chan hx
      split at h
      · rename_i n bf cl hgr
        obtain ⟨b', c', x', h1, h2, h3⟩ := r.objs _ _ hgr
        rw [s1] at h1; cases h1
        obtain ⟨buf', s, rr', rfl, hbuf⟩ := h3.inv_chan
        cases h
        have o1 := run_getObj (P := P) h2 (by intro _ _ _ e; cases e)
        exact ⟨_, by simp [Builtin.cap_, ht.run, hd, o1]; rfl, by simp [conc]; rfl⟩
      · cases h
    · cases h

theorem builtinL_sound (hE : EnvOk P E) {hp : H} (r : HRel σ hp w.heap) {b : Builtin} {ats : Array TypeId} {vs : List AV} {xs : List Value} (hv : concL σ vs = some xs) {v : AV} (h : builtinL E b ats vs hp = some v) (u : TypeId) (cs : Array Bool) :
    ∃ y, (builtin b ats u cs ⟨xs⟩).run P w = .ok (.value y) w ∧ conc σ v = some y := by
  obtain ⟨ats⟩ := ats
  unfold builtinL at h
  split at h
  · rename_i t ts x heq
    simp only at heq; subst heq
    have hl := concL_length hv
    match xs, hl, hv with
    | [x'], _, hv =>
      obtain ⟨y, h1, h2⟩ := len_sound hE r (concL_one.1 hv) h ts u
      exact ⟨y, by simp [builtin, h1], h2⟩
  · rename_i t ts x heq
    simp only at heq; subst heq
    have hl := concL_length hv
    match xs, hl, hv with
    | [x'], _, hv =>
      obtain ⟨y, h1, h2⟩ := cap_sound hE r (concL_one.1 hv) h ts u
      exact ⟨y, by simp [builtin, h1], h2⟩
  · rename_i k a k' b'
    have hl := concL_length hv
    match xs, hl, hv with
    | [x', y'], _, hv =>
      obtain ⟨e1, e2⟩ := concL_two.1 hv
      have e1 := conc_int e1; have e2 := conc_int e2; subst e1 e2
      cases h
      refine ⟨.int k (if b' > a then b' else a), by simp [builtin, Builtin.max_, Builtin.max2], ?_⟩
      rw [ltI_eq]
      by_cases hlt : a < b' <;> simp [hlt, conc]
  · rename_i k a k' b'
    have hl := concL_length hv
    match xs, hl, hv with
    | [x', y'], _, hv =>
      obtain ⟨e1, e2⟩ := concL_two.1 hv
      have e1 := conc_int e1; have e2 := conc_int e2; subst e1 e2
      cases h
      refine ⟨.int k (if b' < a then b' else a), by simp [builtin, Builtin.min_, Builtin.min2], ?_⟩
      rw [ltI_eq]
      by_cases hlt : b' < a <;> simp [hlt, conc]
  · have hl := concL_length hv
    match xs, hl, hv with
    | [x'], _, hv =>
      obtain ⟨_, _, rfl⟩ := conc_sliceNil (concL_one.1 hv)
      cases h
      exact ⟨.pointer none, rfl, by simp [conc]⟩
  · rename_i a n
    obtain ⟨i, o⟩ := a
    have hl := concL_length hv
    match xs, hl, hv with
    | [x'], _, hv =>
      obtain ⟨bb, c', s1, rfl, hle⟩ := conc_slice' (concL_one.1 hv)
      have hle := hle rfl
      cases hn : Nat.beq n 0 with
      | true => simp [hn] at h
      | false =>
        simp [hn] at h; subst h
        have hn0 : n ≠ 0 := fun e => by simp [e] at hn
        have hc : c' ≠ 0 := by omega
        refine ⟨.pointer (some ⟨bb, o, none⟩), ?_, by simp [conc, s1]⟩
        have e : ∀ ats', Builtin.unsafeSliceData_ ats' u #[.slice (some ⟨bb, o, none⟩) n c'] = pure (.pointer (some ⟨bb, o, none⟩)) := fun ats' => if_pos hc
        simp [builtin, e]
  · cases h

theorem splitN_eq {α : Type} : ∀ {n : Nat} {l a b : List α}, splitN n l = some (a, b) → l = a ++ b ∧ a.length = n
  | 0, l, a, b, h => by simp [splitN] at h; obtain ⟨rfl, rfl⟩ := h; simp
  | n + 1, [], a, b, h => by simp [splitN] at h
  | n + 1, x :: l, a, b, h => by
    simp only [splitN] at h
    cases hs : splitN n l with
    | none => simp [hs] at h
    | some p =>
      obtain ⟨c, d⟩ := p
      simp [hs] at h
      obtain ⟨rfl, rfl⟩ := h
      obtain ⟨e1, e2⟩ := splitN_eq hs
      exact ⟨by simp [e1], by simp [e2]⟩

theorem concL_split {σ : Sg} : ∀ {a b : List AV} {x : List Value}, concL σ (a ++ b) = some x → concL σ a = some (x.take a.length) ∧ concL σ b = some (x.drop a.length)
  | [], b, x, h => ⟨by simp [concL], by simpa using h⟩
  | v :: a, b, x, h => by
    obtain ⟨p, q, h1, h2, rfl⟩ := concL_cons.1 (by simpa using h)
    obtain ⟨e1, e2⟩ := concL_split h2
    exact ⟨concL_cons.2 ⟨p, _, h1, e1, rfl⟩, by simpa using e2⟩

theorem optV_sound {o : Option Operand} {ρ : Operand → Value} {vs : List AV} {rest : List Value} (hv : concL σ vs = some ((o.toArray.toList.map ρ) ++ rest)) {a : Option AV} {vs' : List AV} (h : optV o vs = some (a, vs')) :
    concO σ a (o.map ρ) ∧ concL σ vs' = some rest := by
  cases o with
  | none => simp [optV] at h; obtain ⟨rfl, rfl⟩ := h; exact ⟨trivial, by simpa using hv⟩
  | some x =>
    obtain ⟨a', m, rfl, h1, h2⟩ := invC (by simpa using hv)
    simp [optV] at h; obtain ⟨rfl, rfl⟩ := h
    exact ⟨h1, h2⟩

def noNum : Value → Prop
  | .int _ _ => False
  | .float _ _ => False
  | .complex _ _ _ => False
  | .string _ => False
  | _ => True
theorem plain_eq (t : TypeId) {x : Value} (y : Value) (h : noNum x) : binOp .eql t x y = (do pure (.bool (← Op.equal t x y))) ∧ binOp .neq t x y = (do pure (.bool (!(← Op.equal t x y)))) := by
  cases x <;> simp only [noNum] at h <;> cases y <;> exact ⟨rfl, rfl⟩
theorem eqV_kind {t : TypeId} {a b : AV} {r : Bool} (h : eqV E t a b = some r) : (∀ k n, a ≠ .int k n) ∧ ∀ s, a ≠ .str s := by
  refine ⟨fun k n e => ?_, fun s e => ?_⟩ <;> subst e <;> unfold eqV at h <;> (cases hg : E.ts.get t with
    | none => simp [hg] at h
    | some i => simp only [hg] at h; split at h <;> first | (rename_i heq _ _; cases heq; done) | (rename_i heq _; cases heq; done) | (rename_i heq; cases heq; done) | cases h)
theorem noNum_of {a : AV} {x : Value} (hx : conc σ a = some x) (h : (∀ k n, a ≠ .int k n) ∧ ∀ s, a ≠ .str s) : noNum x := by
  cases a with
  | int k n => exact absurd rfl (h.1 k n)
  | str s => exact absurd rfl (h.2 s)
  | bool b => simp [conc] at hx; subst hx; trivial
  | nilFunc => simp [conc] at hx; subst hx; trivial
  | nilIface => simp [conc] at hx; subst hx; trivial
  | ptr p =>
    rcases p with _ | ⟨i, o⟩
    · simp [conc] at hx; subst hx; trivial
    · obtain ⟨_, _, _, rfl⟩ := conc_ptr hx; trivial
  | slice p n c =>
    rcases p with _ | ⟨i, o⟩
    · obtain ⟨_, _, rfl⟩ := conc_sliceNil hx; trivial
    · obtain ⟨_, _, _, rfl⟩ := conc_slice hx; trivial
  | map p =>
    rcases p with _ | i
    · have := conc_mapNil hx; subst this; trivial
    · obtain ⟨_, _, _, rfl⟩ := conc_map hx; trivial
  | chan p =>
    rcases p with _ | i
    · simp [conc] at hx; subst hx; trivial
    · obtain ⟨_, _, _, rfl⟩ := conc_chan hx; trivial
  | func f a b => obtain ⟨_, _, _, _, rfl⟩ := conc_func hx; trivial
  | yield l => obtain ⟨_, _, _, rfl⟩ := conc_yield hx; trivial
  | iface t v => obtain ⟨_, _, rfl⟩ := conc_iface hx; trivial
  | agg cs => obtain ⟨_, _, rfl⟩ := conc_agg hx; trivial
  | tuple cs => obtain ⟨_, _, rfl⟩ := conc_tuple hx; trivial

set_option maxHeartbeats 1000000 in
theorem light_sound (hE : EnvOk P E) {hp : H} (r : HRel σ hp w.heap) {o : Oper} {ρ : Operand → Value} {vs : List AV} (hv : concL σ vs = some (o.op.operands.toList.map ρ)) {v : AV} (h : lightA E o.op vs hp = some v) :
    ∃ x, (execOp ρ o).run P w = .ok (.value x) w ∧ conc σ v = some x := by
  obtain ⟨dst, op, type, pos, after, guard⟩ := o
  simp only at hv h
  cases op
  case move x =>
    obtain ⟨a, rfl, ha⟩ := inv1 (by simpa [Op.operands] using hv)
    simp only [lightA] at h; cases h
    exact ⟨_, rfl, ha⟩
  case assign x =>
    obtain ⟨a, rfl, ha⟩ := inv1 (by simpa [Op.operands] using hv)
    simp only [lightA] at h; cases h
    exact ⟨_, rfl, ha⟩
  case pick c a b =>
    obtain ⟨c', a', b', rfl, hc, ha, hb⟩ := inv3 (by simpa [Op.operands] using hv)
    cases c' <;> simp only [lightA] at h <;> try (cases h; done)
    rename_i cc
    have e := conc_bool hc
    cases cc
    · simp at h; subst h; exact ⟨ρ b, by simp [execOp, e, asBool], hb⟩
    · simp at h; subst h; exact ⟨ρ a, by simp [execOp, e, asBool], ha⟩
  case build t ps =>
    have hv' : concL σ vs = some ((ps.toList.map (·.2)).map ρ) := by simpa [Op.operands] using hv
    obtain ⟨x, h1, h2⟩ := build_sound (w := w) hE hv' h
    refine ⟨x, ?_, h2⟩
    have : (ps.map fun (p : Nat × Operand) => (p.1, ρ p.2)) = ((ps.toList.map (·.1)).zip ((ps.toList.map (·.2)).map ρ)).toArray := by
      rw [← Array.toList_inj]; simp [List.zip_map_left, List.zip_map_right]
      induction ps.toList with
      | nil => rfl
      | cons p l ih => simp [ih]
    simp only [execOp, this, Sem.run_bind, h1, Result.andThen_ok, Sem.run_pure]
  case load t x =>
    obtain ⟨a, rfl, ha⟩ := inv1 (by simpa [Op.operands] using hv)
    cases a <;> simp only [lightA] at h <;> try (cases h; done)
    rename_i p
    rcases p with _ | ⟨i, o⟩
    · cases h
    · simp only at h
      cases hg : E.ts.get t with
      | none => simp [hg] at h
      | some ti =>
        simp only [hg] at h
        obtain ⟨b, c, s1, e⟩ := conc_ptr ha
        obtain ⟨y, h1, h2⟩ := load_sound (hE.ts _ _ hg) r h s1
        exact ⟨y, by simp [execOp, e, Instr.loadAt, Instr.sureAddr, h1], h2⟩
  case nilCheck x =>
    obtain ⟨a, rfl, ha⟩ := inv1 (by simpa [Op.operands] using hv)
    simp only [lightA] at h
    split at h
    · cases h
      rename_i p
      obtain ⟨i, o⟩ := p
      obtain ⟨b, c, s1, e⟩ := conc_ptr ha
      exact ⟨_, by simp only [execOp, e]; rfl, by rw [e] at ha; exact ha⟩
    · cases h
      obtain ⟨y, z, h1, h2, e⟩ := conc_func ha
      exact ⟨_, by simp only [execOp, e]; rfl, by rw [e] at ha; exact ha⟩
    · cases h
      obtain ⟨b, c, s1, e⟩ := conc_yield ha
      exact ⟨_, by simp only [execOp, e]; rfl, by rw [e] at ha; exact ha⟩
    · cases h
  case unOp op t x =>
    obtain ⟨a, rfl, ha⟩ := inv1 (by simpa [Op.operands] using hv)
    simp only [lightA] at h
    obtain ⟨y, h1, h2⟩ := un_sound (P := P) (w := w) ha h
    exact ⟨y, by simp [execOp, h1], h2⟩
  case binOp op t x y t2 =>
    obtain ⟨a, b, rfl, ha, hb⟩ := inv2 (by simpa [Op.operands] using hv)
    simp only [lightA] at h
    have fin : ∀ y', (binOp op t (ρ x) (ρ y)).run P w = .ok y' w → (eqGuard op t x y (ρ x) (ρ y)).run P w = .ok () w → (execOp ρ ⟨dst, .binOp op t x y t2, type, pos, after, guard⟩).run P w = .ok (.value y') w := by
      intro y' h1 h2
      simp [execOp, h1, h2]
    have guardI : ∀ k m k' n, ρ x = .int k m → ρ y = .int k' n → (eqGuard op t x y (ρ x) (ρ y)).run P w = .ok () w := by
      intro k m k' n e1 e2; rw [e1, e2]; cases op <;> simp [eqGuard]
    unfold binA at h
    split at h
    · rename_i k m k' n
      have e1 := conc_int ha; have e2 := conc_int hb
      have g := guardI _ _ _ _ e1 e2
      have done : ∀ z, (binOp op t (.int k m) (.int k' n)).run P w = .ok z w → conc σ v = some z → ∃ x_1, (execOp ρ ⟨dst, .binOp op t x y t2, type, pos, after, guard⟩).run P w = .ok (.value x_1) w ∧ conc σ v = some x_1 := by
        intro z h1 h2; exact ⟨z, fin z (by rw [e1, e2]; exact h1) g, h2⟩
      split at h
      · split at h
        · obtain ⟨z, h1, h2⟩ := shift_sound (P := P) (w := w) (yk := k') h t; exact done z h1 (h2 σ)
        · cases h
      · split at h
        · obtain ⟨z, h1, h2⟩ := shift_sound (P := P) (w := w) (yk := k') h t; exact done z h1 (h2 σ)
        · cases h
      · split at h
        · rename_i hk; subst hk
          split at h
          · obtain ⟨z, h1, h2⟩ := bits_sound (P := P) (w := w) h t; exact done z h1 (h2 σ)
          · cases h
        · cases h
      · split at h
        · rename_i hk; subst hk
          split at h
          · obtain ⟨z, h1, h2⟩ := bits_sound (P := P) (w := w) h t; exact done z h1 (h2 σ)
          · cases h
        · cases h
      · split at h
        · rename_i hk; subst hk
          split at h
          · obtain ⟨z, h1, h2⟩ := bits_sound (P := P) (w := w) h t; exact done z h1 (h2 σ)
          · cases h
        · cases h
      · rename_i n1 n2 n3 n4 n5
        split at h
        · rename_i hk; subst hk
          obtain ⟨z, h1, h2⟩ := arith_sound (P := P) (w := w) h t ⟨n1, n2, n3, n4, n5⟩; exact done z h1 (h2 σ)
        · cases h
    · have e1 := conc_str ha; have e2 := conc_str hb
      obtain ⟨z, h1, h2⟩ := str_sound (P := P) (w := w) h t
      exact ⟨z, fin z (by rw [e1, e2]; exact h1) (by rw [e1, e2]; cases op <;> simp [eqGuard]), h2 σ⟩
    · have eqop : ∀ bb : Bool, eqV E t a b = some bb → (binOp .eql t (ρ x) (ρ y)).run P w = .ok (.bool bb) w ∧ (binOp .neq t (ρ x) (ρ y)).run P w = .ok (.bool (!bb)) w ∧ ∀ op p q, (eqGuard op t p q (ρ x) (ρ y)).run P w = .ok () w := by
        intro bb hbb
        obtain ⟨q1, q2⟩ := eqV_sound (w := w) hE ha hb hbb
        have hp := plain_eq t (ρ y) (noNum_of ha (eqV_kind hbb))
        exact ⟨by rw [hp.1]; simp [q1], by rw [hp.2]; simp [q1], q2⟩
      split at h
      · cases hq : eqV E t a b with
        | none => simp [hq] at h
        | some bb =>
          simp [hq] at h; subst h
          obtain ⟨h1, _, h3⟩ := eqop bb hq
          exact ⟨.bool bb, fin _ h1 (h3 _ _ _), by simp [conc]⟩
      · cases hq : eqV E t a b with
        | none => simp [hq] at h
        | some bb =>
          simp [hq] at h; subst h
          obtain ⟨_, h2, h3⟩ := eqop bb hq
          exact ⟨.bool (!bb), fin _ h2 (h3 _ _ _), by simp [conc]⟩
      · cases h
  case convert s d x =>
    obtain ⟨a, rfl, ha⟩ := inv1 (by simpa [Op.operands] using hv)
    simp only [lightA] at h
    obtain ⟨y, h1, h2⟩ := conv_sound (w := w) hE r ha h
    exact ⟨y, by simp [execOp, h1], h2⟩
  case sliceToArrayPointer t x =>
    obtain ⟨a, rfl, ha⟩ := inv1 (by simpa [Op.operands] using hv)
    simp only [lightA] at h
    cases hg : E.ts.get t with
    | none => simp [hg] at h
    | some ti =>
      have ht := hE.ts _ _ hg
      simp only [hg] at h
      split at h
      · rename_i n e sl len cp hd
        cases hl : Nat.ble n len with
        | false => simp [hl] at h
        | true =>
          simp [hl] at h; subst h
          have hle := Nat.le_of_ble_eq_true hl
          rcases sl with _ | ⟨i, o⟩
          · obtain ⟨_, _, e1⟩ := conc_sliceNil ha
            refine ⟨.pointer none, ?_, by simp [conc]⟩
            simp [execOp, Instr.arrayAt, ht.run, hd, e1]; omega
          · obtain ⟨bb, c', s1, e1⟩ := conc_slice ha
            refine ⟨.pointer (some ⟨bb, o, none⟩), ?_, by simp [conc, s1]⟩
            simp [execOp, Instr.arrayAt, ht.run, hd, e1]; omega
      · cases h
  case makeInterface t x =>
    obtain ⟨a, rfl, ha⟩ := inv1 (by simpa [Op.operands] using hv)
    simp only [lightA] at h
    cases hg : E.ts.get t with
    | none => simp [hg] at h
    | some ti =>
      have ht := hE.ts _ _ hg
      simp only [hg] at h
      cases hni : isIfc ti.desc with
      | true => rw [hni] at h; cases h
      | false =>
        rw [hni] at h; simp only [cond_false] at h; cases h
        refine ⟨.iface t (ρ x), ?_, by simp [conc, ha]⟩
        simp only [execOp, Instr.makeInterface, Sem.run_bind, ht.run, Result.andThen_ok]
        cases hd : ti.desc <;> first | (rw [hd] at hni; cases hni; done) | simp
  case makeFunc fn first cap =>
    simp only [lightA] at h
    split at h
    · rename_i f a b hs
      cases h
      obtain ⟨e1, e2⟩ := splitN_eq hs
      subst e1
      obtain ⟨c1, c2⟩ := concL_split hv
      have hl : (first.toList.map ρ).length = a.length := by simp [e2]
      have k1 : ((Op.makeFunc (.func f) first cap).operands.toList.map ρ).take a.length = first.toList.map ρ := by
        simp [Op.operands, ← e2]
      have k2 : ((Op.makeFunc (.func f) first cap).operands.toList.map ρ).drop a.length = cap.toList.map ρ := by
        simp [Op.operands, ← e2]
      rw [k1] at c1; rw [k2] at c2
      refine ⟨.func (.func f) ⟨first.toList.map ρ⟩ ⟨cap.toList.map ρ⟩, ?_, by simp [conc, c1, c2]⟩
      have m1 : first.map ρ = ⟨first.toList.map ρ⟩ := by rw [← Array.toList_inj]; simp
      have m2 : cap.map ρ = ⟨cap.toList.map ρ⟩ := by rw [← Array.toList_inj]; simp
      simp [execOp, Instr.makeFunc, m1, m2]
    · cases h
  case slice t x lo hi mx =>
    simp only [lightA] at h
    have hv' : concL σ vs = some (ρ x :: (lo.toArray.toList.map ρ ++ (hi.toArray.toList.map ρ ++ (mx.toArray.toList.map ρ ++ [])))) := by
      rw [hv]; simp [Op.operands]
    obtain ⟨a, m, rfl, ha, hm⟩ := invC hv'
    simp only [sliceA] at h
    cases h1 : optV lo m with
    | none => simp [h1] at h
    | some p1 =>
      obtain ⟨l, v1⟩ := p1
      obtain ⟨c1, r1⟩ := optV_sound hm h1
      simp only [h1] at h
      cases h2 : optV hi v1 with
      | none => simp [h2] at h
      | some p2 =>
        obtain ⟨hh, v2⟩ := p2
        obtain ⟨c2, r2⟩ := optV_sound r1 h2
        simp only [h2] at h
        cases h3 : optV mx v2 with
        | none => simp [h3] at h
        | some p3 =>
          obtain ⟨mm, v3⟩ := p3
          obtain ⟨c3, r3⟩ := optV_sound r2 h3
          simp only [h3] at h
          cases v3 with
          | cons _ _ => cases h
          | nil =>
            simp only at h
            obtain ⟨y, e1, e2⟩ := sliceB_sound (w := w) hE ha c1 c2 c3 h
            exact ⟨y, by simp [execOp, e1], e2⟩
  case fieldAddr s x f =>
    obtain ⟨a, rfl, ha⟩ := inv1 (by simpa [Op.operands] using hv)
    simp only [lightA] at h
    obtain ⟨y, h1, h2⟩ := fieldAddr_sound (w := w) hE ha h
    exact ⟨y, by simp [execOp, h1], h2⟩
  case field t x f =>
    obtain ⟨a, rfl, ha⟩ := inv1 (by simpa [Op.operands] using hv)
    simp only [lightA] at h
    obtain ⟨y, h1, h2⟩ := field_sound (w := w) hE ha h
    exact ⟨y, by simp [execOp, h1], h2⟩
  case indexAddr t x i =>
    obtain ⟨a, b, rfl, ha, hb⟩ := inv2 (by simpa [Op.operands] using hv)
    simp only [lightA] at h
    obtain ⟨y, h1, h2⟩ := indexAddr_sound (w := w) hE ha hb h
    exact ⟨y, by simp [execOp, h1], h2⟩
  case index t x i =>
    obtain ⟨a, b, rfl, ha, hb⟩ := inv2 (by simpa [Op.operands] using hv)
    simp only [lightA] at h
    obtain ⟨y, h1, h2⟩ := index_sound (w := w) hE ha hb h
    exact ⟨y, by simp [execOp, h1], h2⟩
  case lookup t x i ok =>
    obtain ⟨a, b, rfl, ha, hb⟩ := inv2 (by simpa [Op.operands] using hv)
    simp only [lightA] at h
    obtain ⟨y, h1, h2⟩ := lookup_sound (w := w) hE r ha hb h
    exact ⟨y, by simp [execOp, h1], h2⟩
  case entry x =>
    obtain ⟨a, rfl, ha⟩ := inv1 (by simpa [Op.operands] using hv)
    simp only [lightA] at h
    obtain ⟨y, h1, h2⟩ := entry_sound (P := P) (w := w) r ha h
    exact ⟨y, by simp [execOp, h1], h2⟩
  case typeAssert x xt t ok =>
    obtain ⟨a, rfl, ha⟩ := inv1 (by simpa [Op.operands] using hv)
    simp only [lightA] at h
    obtain ⟨y, h1, h2⟩ := typeAssert_sound (w := w) (xT := xt) hE ha h
    exact ⟨y, by simp [execOp, h1], h2⟩
  case extract t ix =>
    obtain ⟨a, rfl, ha⟩ := inv1 (by simpa [Op.operands] using hv)
    cases a <;> simp only [lightA] at h <;> try (cases h; done)
    obtain ⟨l, hl, e⟩ := conc_tuple ha
    obtain ⟨y, h1, h2⟩ := concL_nth hl h
    exact ⟨y, by simp [execOp, e, Instr.extract, h1], h2⟩
  case call c =>
    simp only [lightA] at h
    split at h
    · rename_i bb hc
      have hv' : concL σ vs = some (c.args.toList.map ρ) := by rw [hv]; simp [Op.operands, Call.operands, hc]
      obtain ⟨y, h1, h2⟩ := builtinL_sound (w := w) hE r hv' h type (c.args.map fun | .const _ => true | _ => false)
      refine ⟨y, ?_, h2⟩
      have m1 : c.args.map ρ = ⟨c.args.toList.map ρ⟩ := by rw [← Array.toList_inj]; simp
      simp only [execOp, resolve, hc, m1, Sem.run_bind, Sem.run_pure, Result.andThen_ok, invoke]
      exact h1
    · cases h
  all_goals (simp only [lightA] at h; cases h)

end
end Go.Ev
/- The evaluator's soundness: operations that make a block. -/
set_option linter.unusedSimpArgs false
set_option linter.unusedVariables false
namespace Go.Ev

section
variable {P : Program} {E : Env} {σ : Sg} {w : World}

theorem rep_range (z : Array Value) : ∀ n, (List.range (n * z.size)).map (fun i => z[i % z.size]!) = rep n z.toList
  | 0 => by simp [rep]
  | n + 1 => by
    rw [show (n + 1) * z.size = z.size + n * z.size by rw [Nat.add_mul]; omega, List.range_add, List.map_append, rep]
    congr 1
    · apply List.ext_getElem
      · simp
      · intro i h1 h2
        simp at h1 h2
        simp [Nat.mod_eq_of_lt h1, h1]
    · rw [List.map_map, ← rep_range z n]
      congr 1
      funext i
      simp

theorem rep_zero {n s : Nat} (z : Array Value) (hz : z.size = s) : ((Array.range (n * s)).map (fun i => (if n * s = 0 then #[] else z)[i % (if n * s = 0 then #[] else z).size]!)).toList = rep n z.toList := by
  subst hz
  by_cases h : n * z.size = 0
  · rw [h]
    simp
    rcases Nat.mul_eq_zero.1 h with h | h
    · subst h; rfl
    · have : z = #[] := Array.size_eq_zero_iff.1 h
      subst this
      clear h
      induction n with
      | zero => rfl
      | succ n ih => simp [rep]; simpa using ih
  · simp only [h, if_false]
    rw [← rep_range]; simp [Array.toList_map, Array.toList_range]

/-- what a new block owes -/
def Alloc (P : Program) (σ : Sg) (w : World) (s : Sem Next) (ob : AObj) (mk : Nat → AV) : Prop :=
  ∃ x w' obj c, s.run P w = .ok (.value x) w' ∧ w'.os = w.os ∧ w'.tape = w.tape ∧ w'.output = w.output ∧ w'.heap = w.heap.push obj ∧
    ∀ σ' j, Sub σ σ' → σ' j = some (w.heap.size, c) → ORel σ' c ob obj ∧ conc σ' (mk j) = some x

theorem cells_orel {σ : Sg} {cs : List AV} {l : List Value} (h : concL σ cs = some l) (e : TypeId) (c : Nat) : ORel σ c (.cells cs e none true) (.cells ⟨l⟩ e (0, 0)) := by
  refine ⟨l, h, ⟨[], by simp⟩, rfl, ?_, fun _ o _ => by simp⟩
  simp [extOk, concL_length h]

theorem alloc_row {s : Sem Next} {cs : List AV} {l : List Value} {e : TypeId} {mk : Nat → AV} {x : Value}
    (hl : concL σ cs = some l) (hr : s.run P w = .ok (.value x) { w with heap := w.heap.push (.cells ⟨l⟩ e (0, 0)) })
    (hm : ∀ σ' j c, Sub σ σ' → σ' j = some (w.heap.size, c) → conc σ' (mk j) = some x) : Alloc P σ w s (.cells cs e none true) mk :=
  ⟨x, _, _, 0, hr, rfl, rfl, rfl, rfl, fun σ' j hs hj => ⟨cells_orel (concL_mono hs _ _ hl) e 0, hm σ' j 0 hs hj⟩⟩

theorem p48 : (2 : Int) ^ 48 = 281474976710656 := by decide
theorem imax : IntKind.i64.max = 9223372036854775807 := by decide
theorem wrap_nat {n : Nat} (h : n ≤ 1000000) : IntKind.i64.wrap (n : Int) = n := by
  unfold IntKind.wrap IntKind.bits IntKind.signed; simp; omega

theorem concL_cellsOfBytes (σ : Sg) : ∀ s : List UInt8, concL σ (cellsOfBytes s) = some (s.map fun b => .int .u8 (Int.ofNat b.toNat))
  | [] => by simp [cellsOfBytes, concL]
  | b :: s => by simp [cellsOfBytes, concL, conc, concL_cellsOfBytes σ s]
theorem length_cellsOfBytes : ∀ s : List UInt8, (cellsOfBytes s).length = s.length
  | [] => rfl
  | b :: s => by simp [cellsOfBytes, length_cellsOfBytes s]

theorem cut_cap (n : Nat) (e : TypeId) (t : Nat) : n ≤ (Question.appendCap n 0 e).cut t := by simp [Question.cut]

theorem modify_push (a : Array Obj) (x : Obj) (f : Obj → Obj) : (a.push x).modify a.size f = a.push (f x) := by
  apply Array.ext_getElem?
  intro i
  rw [Array.getElem?_modify, Array.getElem?_push, Array.getElem?_push]
  by_cases h : i = a.size
  · subst h; simp
  · rw [if_neg (by omega), if_neg h, if_neg h]

theorem alloc_sound (hE : EnvOk P E) {o : Oper} {ρ : Operand → Value} {vs : List AV} (hv : concL σ vs = some (o.op.operands.toList.map ρ)) {ob : AObj} {mk : Nat → AV} (h : allocA E o.op vs = some (ob, mk)) :
    Alloc P σ w (execOp ρ o) ob mk := by
  obtain ⟨dst, op, type, pos, after, guard⟩ := o
  simp only at hv h
  cases op
  case alloc t =>
    have := inv0 (by simpa [Op.operands] using hv); subst this
    simp only [allocA] at h
    cases hg : E.ts.get t with
    | none => simp [hg] at h
    | some x =>
      simp [hg] at h
      obtain ⟨rfl, rfl⟩ := h
      obtain ⟨z, hz1, hz2⟩ := zero_cells (hE.ts _ _ hg)
      refine alloc_row (hz2 σ) (x := .pointer (some ⟨w.heap.size, 0, none⟩)) ?_ (fun σ' j c hs hj => by simp [conc, hj])
      simp [execOp, Instr.alloc, hz1, newVar, newRow]
  case box t x =>
    obtain ⟨a, rfl, ha⟩ := inv1 (by simpa [Op.operands] using hv)
    simp only [allocA] at h
    cases h
    refine alloc_row (conc_cells ha) (x := .pointer (some ⟨w.heap.size, 0, none⟩)) ?_ (fun σ' j c hs hj => by simp [conc, hj])
    simp [execOp, Instr.box, newVar, newRow]
  case buildSlice t n ps =>
    have hv' : concL σ vs = some ((ps.toList.map (·.2)).map ρ) := by simpa [Op.operands] using hv
    simp only [allocA, buildSliceA] at h
    cases hg : E.ts.get t with
    | none => simp [hg] at h
    | some x =>
      have ht := hE.ts _ _ hg
      simp only [hg] at h
      split at h
      · rename_i e hd
        cases he : E.ts.get e with
        | none => simp [he] at h
        | some y =>
          have hty := hE.ts _ _ he
          obtain ⟨z, hz1, hz2⟩ := zero_cells hty
          simp only [he] at h
          cases hb : Nat.ble (n * y.size) 100000 with
          | false => simp [hb] at h
          | true =>
            simp only [hb, cond_true] at h
            have hle := Nat.le_of_ble_eq_true hb
            cases hf : fillA (fun i => some (i * y.size, y.size)) (ps.toList.map (·.1)) vs (rep n y.zero.cells) with
            | none => simp [hf] at h
            | some cs =>
              simp [hf, fL_eq] at h
              obtain ⟨rfl, rfl⟩ := h
              have hzs : z.cells.size = y.size := by
                have := concL_length (hz2 σ); rw [hty.zlen] at this; simpa using this
              obtain ⟨rl, e1, e2⟩ := fill_sound (σ := σ) (place' := fun i => some (i * y.size, y.size)) (fun i p hp => hp) hv' (concL_rep (hz2 σ) n) hf
              refine alloc_row e2 (x := .slice (some ⟨w.heap.size, 0, none⟩) n n) ?_ (fun σ' j c hs hj => by simp [conc, hj])
              have m1 : (ps.map fun (p : Nat × Operand) => (p.1, ρ p.2)).toList = (ps.toList.map (·.1)).zip ((ps.toList.map (·.2)).map ρ) := by
                simp
                induction ps.toList with
                | nil => rfl
                | cons p l ih => simp [ih]
              have e1' : Instr.fill (fun i => some (i * y.size, y.size)) ((Array.range (n * y.size)).map (fun i => (if n * y.size = 0 then #[] else z.cells)[i % (if n * y.size = 0 then #[] else z.cells).size]!)) (ps.map fun (p : Nat × Operand) => (p.1, ρ p.2)).toList = some ⟨rl⟩ := by
                rw [m1, ← e1]; congr 1
                rw [← Array.toList_inj]; exact rep_zero _ hzs
              have hnot : ¬ (n * y.size > 2 ^ 24) := by omega
              simp only [execOp, Instr.buildSlice, Sem.run_bind, ht.run, hd, Result.andThen_ok, hty.size, hnot, if_false, Sem.run_pure]
              by_cases h0 : n * y.size = 0
              · simp only [if_pos h0] at e1' ⊢
                simp only [Sem.run_bind, Sem.run_pure, Result.andThen_ok, e1']
                rfl
              · simp only [if_neg h0] at e1' ⊢
                simp only [Sem.run_bind, Sem.run_pure, hz1, Result.andThen_ok, e1']
                rfl
      · cases h
  case convert s d x =>
    obtain ⟨a, rfl, ha⟩ := inv1 (by simpa [Op.operands] using hv)
    simp only [allocA, convN] at h
    split at h
    · rename_i si ti st hgs hg
      have ht := hE.ts _ _ hg
      have hts := hE.ts _ _ hgs
      have ex := conc_str ha
      split at h
      · rename_i e hd
        cases he : E.ts.get e with
        | none => simp [he] at h
        | some y =>
          have hty := hE.ts _ _ he
          simp only [he] at h
          split at h
          · rename_i hyd
            cases hb : Nat.ble st.length 1000000 with
            | false => simp [hb] at h
            | true =>
              simp [hb, fN_eq] at h
              obtain ⟨rfl, rfl⟩ := h
              have hcv : ∀ s', (convert s d (.string s')).run P w = (Conv.stringToBytes e s').run P w := by
                intro s'
                unfold convert
                simp only [Sem.run_bind, hts.run, ht.run, Result.andThen_ok, hd]
                cases si.desc <;> simp [hty.run, hyd]
              let cap := (Question.appendCap st.length 0 e).cut (w.tape w.drawn (.appendCap st.length 0 e))
              have hcap : st.length ≤ cap := cut_cap _ _ _
              let row : Array Value := (⟨⟨st⟩⟩ : ByteArray).data.map (fun b => Value.int .u8 b.toNat) ++ Array.replicate (cap - st.length) (.int .u8 0)
              have hrow : row.size = cap := by simp [row]; omega
              refine ⟨.slice (some ⟨w.heap.size, 0, none⟩) st.length cap, { w with drawn := w.drawn + 1, heap := w.heap.push (.cells row e (cap, cap + 1)) }, .cells row e (cap, cap + 1), cap, ?_, rfl, rfl, rfl, rfl, fun σ' j hs hj => ⟨?_, ?_⟩⟩
              · simp only [execOp, ex, Sem.run_bind, hcv, Conv.stringToBytes, run_choose, Question.forced, size_mk, newRow, markStringish]
                simp only [Bool.false_eq_true, if_false, Result.andThen_ok, Sem.run_bind]
                show Result.andThen _ _ = _
                have hsh : ({ w with drawn := w.drawn + 1, heap := w.heap.push (.cells row e) } : World).shape? w.heap.size = some (e, cap) := by
                  simp [World.shape?, hrow]
                simp only [newObj, Sem.run, Sem.run_pure, Result.andThen_ok, run_shape]
                simp only [row, cap] at hsh
                simp only [hsh]
                simp only [run_freeze, Result.andThen_ok, World.freeze]
                simp [modify_push, row, cap]
              · refine ⟨st.map fun b => .int .u8 (Int.ofNat b.toNat), concL_cellsOfBytes σ' st, ⟨List.replicate (cap - st.length) (.int .u8 0), by simp [row]⟩, rfl, by simp [extOk, hrow], fun _ o ho => by rw [hrow] at ho; simp; omega⟩
              · simp [conc, hj, hcap]
          · cases h
      · cases h
    · cases h
  case makeMap t rr =>
    cases rr with
    | some x => obtain ⟨a, rfl, ha⟩ := inv1 (by simpa [Op.operands] using hv); simp only [allocA] at h; cases h
    | none =>
      have := inv0 (by simpa [Op.operands] using hv); subst this
      simp only [allocA] at h; cases h
      exact ⟨.map (some w.heap.size), w.alloc (.map #[] 0), .map #[] 0, 0, by simp [execOp, Instr.makeMap], rfl, rfl, rfl, rfl, fun σ' j hs hj => ⟨⟨rfl, by simp [concE]⟩, by simp [conc, hj]⟩⟩
  case makeChan t x =>
    obtain ⟨a, rfl, ha⟩ := inv1 (by simpa [Op.operands] using hv)
    simp only [allocA] at h
    split at h
    · rename_i ti n hg hn
      have ht := hE.ts _ _ hg
      obtain ⟨k, ex⟩ := natOf_sound ha hn
      split at h
      · rename_i dir e hd
        cases he : E.ts.get e with
        | none => simp [he] at h
        | some y =>
          have hty := hE.ts _ _ he
          simp only [he] at h
          cases hb : (Nat.ble n 1000000 && Nat.ble (y.bytes * n) 1000000) with
          | false => rw [hb] at h; cases h
          | true =>
            rw [hb] at h; simp only [cond_true] at h; cases h
            simp only [Bool.and_eq_true] at hb
            have b1 := Nat.le_of_ble_eq_true hb.1
            have b2 := Nat.le_of_ble_eq_true hb.2
            obtain ⟨i, hi1, hi2⟩ := hty.bytes
            refine ⟨.chan (some w.heap.size), w.alloc (.chan n #[] false 0 0 false), .chan n #[] false 0 0 false, 0, ?_, rfl, rfl, rfl, rfl, fun σ' j hs hj => ⟨⟨rfl, by simp [concL], rfl, rfl⟩, by simp [conc, hj]⟩⟩
            have hcond : ¬ ((n : Int) < 0 ∨ (n : Int) > IntKind.i64.max ∨ (i.bytes : Int) * (n : Int) > 2 ^ 48 - 112) := by
              rw [hi2]
              have := Int.ofNat_le.2 b2
              rw [Int.natCast_mul] at this
              rw [p48, imax]
              generalize (y.bytes : Int) * (n : Int) = q at this
              omega
            simp only [execOp, ex, Instr.makeChan, asInt, asIntOf, Sem.run_bind, Sem.run_pure, Result.andThen_ok, ht.run, hd, hi1, Int.ofNat_eq_natCast]
            simp only [hcond, if_false]
            simp
      · cases h
    · cases h
  case makeSlice t lx cx =>
    obtain ⟨a, b, rfl, ha, hb⟩ := inv2 (by simpa [Op.operands] using hv)
    simp only [allocA] at h
    split at h
    · rename_i ti l c hg hl hc
      have ht := hE.ts _ _ hg
      obtain ⟨k1, e1⟩ := natOf_sound ha hl
      obtain ⟨k2, e2⟩ := natOf_sound hb hc
      split at h
      · rename_i e hd
        cases he : E.ts.get e with
        | none => simp [he] at h
        | some y =>
          have hty := hE.ts _ _ he
          obtain ⟨z, hz1, hz2⟩ := zero_cells hty
          simp only [he] at h
          cases hbb : (Nat.ble l c && Nat.ble c 1000000 && Nat.ble (y.bytes * c) 1000000) with
          | false => rw [hbb] at h; cases h
          | true =>
            rw [hbb] at h; simp only [cond_true, fL_eq] at h; cases h
            simp only [Bool.and_eq_true] at hbb
            have b1 := Nat.le_of_ble_eq_true hbb.1.1
            have b2 := Nat.le_of_ble_eq_true hbb.1.2
            have b3 := Nat.le_of_ble_eq_true hbb.2
            obtain ⟨i, hi1, hi2⟩ := hty.bytes
            have hzs : z.cells.size = y.size := by
              have := concL_length (hz2 σ); rw [hty.zlen] at this; simpa using this
            refine alloc_row (concL_rep (hz2 σ) c) (x := .slice (some ⟨w.heap.size, 0, none⟩) l c) ?_ (fun σ' j c hs hj => by simp [conc, hj])
            have w1 := wrap_nat (n := l) (by omega)
            have w2 := wrap_nat (n := c) b2
            have hb3 := Int.ofNat_le.2 b3
            rw [Int.natCast_mul] at hb3
            have hcond : ((((c : Int) < 0 || (i.bytes : Int) * (c : Int) > 2 ^ 48) || (l : Int) < 0) || (l : Int) > (c : Int)) = false := by
              rw [hi2, p48]
              generalize (y.bytes : Int) * (c : Int) = q at hb3
              simp only [Bool.or_eq_false_iff, decide_eq_false_iff_not]
              omega
            have hrow := rep_zero (n := c) z.cells hzs
            simp only [execOp, e1, e2, Instr.makeSlice, asInt, asIntOf, Sem.run_bind, Sem.run_pure, Result.andThen_ok, ht.run, hd, hi1, Int.ofNat_eq_natCast, w1, w2]
            have hcond2 : (decide ((c : Int) < 0) || decide ((i.bytes : Int) * (c : Int) > 2 ^ 48) || decide ((l : Int) < 0) || decide ((l : Int) > (c : Int))) = false := by simpa using hcond
            have hrow' : (Array.range (c * y.size)).map (fun i => (if c * y.size = 0 then #[] else z.cells)[i % (if c * y.size = 0 then #[] else z.cells).size]!) = ⟨rep c z.cells.toList⟩ := by
              rw [← Array.toList_inj]; exact hrow
            simp only [hcond2, Bool.false_eq_true, if_false, run_askRoom, Sem.run_bind, Result.andThen_ok, hty.size, Int.toNat_natCast]
            by_cases h0 : c * y.size = 0
            · simp only [if_pos h0] at hrow' ⊢
              simp only [Sem.run_bind, Sem.run_pure, Result.andThen_ok, hrow']
              rfl
            · simp only [if_neg h0] at hrow' ⊢
              simp only [Sem.run_bind, Sem.run_pure, hz1, Result.andThen_ok, hrow']
              rfl
      · cases h
    · cases h
  all_goals (simp only [allocA] at h; cases h)

end
end Go.Ev
/- The evaluator's soundness: operations that write memory. -/
set_option linter.unusedSimpArgs false
set_option linter.unusedVariables false
namespace Go.Ev

/-- what an operation gives: a value, or nothing -/
def Gives (r : Result Next) (x : Value) (w' : World) : Prop := r = .ok (.value x) w' ∨ (r = .ok .skip w' ∧ x = undef)
def Sim (P : Program) (σ : Sg) (h : H) (w : World) (s : Sem Next) (v : AV) (h' : H) : Prop :=
  ∃ σ' w' x, Gives (s.run P w) x w' ∧ conc σ' v = some x ∧ HRel σ' h' w'.heap ∧ Ext σ h w σ' h' w'
theorem conc_undef (σ : Sg) : conc σ undefA = some undef := by simp [undefA, undef, conc, concL]

section
variable {P : Program} {E : Env} {σ : Sg} {w : World} {h : H}

theorem sim_alloc (r : HRel σ h w.heap) {s : Sem Next} {ob : AObj} {mk : Nat → AV} (a : Alloc P σ w s ob mk) : Sim P σ h w s (mk h.next) ⟨h.next + 1, T.set (some ob) h.t h.next⟩ := by
  obtain ⟨x, w', obj, c, h1, h2, h3, h4, h5, h6⟩ := a
  obtain ⟨e1, e2⟩ := h6 (upd σ h.next (w.heap.size, c)) h.next (sub_upd _ (r.fresh _ (Nat.le_refl _))) (upd_self _ _ _)
  obtain ⟨g1, g2⟩ := r.alloc ob obj c e1
  exact ⟨_, w', x, .inl h1, e2, by rw [h5]; exact g1, g2 w' h2 h3 h4 h5⟩

def setW (w : World) (b : Nat) (x : Obj) : World := { w with heap := w.heap.setIfInBounds b x }
theorem put_set (r : HRel σ h w.heap) {i b c : Nat} {o₀ : AObj} (hi : h.t.get i = some o₀) (hs : σ i = some (b, c)) {y : Obj} (hb : w.heap[b]? = some y) (o : AObj) (x : Obj) (hx : ORel σ c o x) :
    HRel σ ⟨h.next, T.set (some o) h.t i⟩ (setW w b x).heap ∧ Ext σ h w σ ⟨h.next, T.set (some o) h.t i⟩ (setW w b x) := by
  have hlt : b < w.heap.size := (Array.getElem?_eq_some_iff.1 hb).1
  obtain ⟨g1, g2⟩ := r.put hi hs o x hx (setW w b x) (by simp [setW]) (by simp [setW, hlt]) (fun k hk => by simp only [setW]; rw [Array.getElem?_setIfInBounds_ne (by omega)])
  exact ⟨g1, g2 rfl rfl rfl⟩
theorem run_setObj {b : Nat} {y : Obj} (hb : w.heap[b]? = some y) (hn : ∀ c e f, y ≠ .cells c e f) (x : Obj) : (setObj b x).run P w = .ok () (setW w b x) := by
  simp only [setObj, Sem.run, hb, setW]

/-- memory with a row written -/
theorem run_storeCells {b o : Nat} {e : TypeId} {fz : Nat × Nat} : ∀ (vs : List Value) (i : Nat) (cur : Array Value) (w : World), w.heap[b]? = some (.cells cur e fz) → o + i + vs.length ≤ cur.size →
    (∀ k, k < cur.size → ¬ (fz.1 ≤ k ∧ k < fz.2)) → (∀ v ∈ vs, oneC v = true) →
    ∃ w' cur', (storeCells ⟨b, o, none⟩ vs i).run P w = .ok () w' ∧ w'.heap.size = w.heap.size ∧ w'.heap[b]? = some (.cells cur' e fz) ∧ cur'.toList = cur.toList.take (o + i) ++ vs ++ cur.toList.drop (o + i + vs.length) ∧
      (∀ k, k ≠ b → w'.heap[k]? = w.heap[k]?) ∧ w'.os = w.os ∧ w'.tape = w.tape ∧ w'.output = w.output
  | [], i, cur, w, hb, hl, hf, ho => ⟨w, cur, by simp [storeCells], rfl, hb, by simp, fun _ _ => rfl, rfl, rfl, rfl⟩
  | v :: vs, i, cur, w, hb, hl, hf, ho => by
    simp at hl
    have hlt : o + i < cur.size := by omega
    have hcell : w.cell? ⟨b, o + i, none⟩ = some (cur[o + i]) := by rw [cell_of hb]; simp [hlt]
    have hfr : w.frozen? ⟨b, o + i, none⟩ = false := by
      simp only [World.frozen?, hb]
      have := hf (o + i) hlt
      simp; omega
    have hbl : b < w.heap.size := (Array.getElem?_eq_some_iff.1 hb).1
    have hset : (w.setCell ⟨b, o + i, none⟩ v).heap[b]? = some (.cells (cur.setIfInBounds (o + i) v) e fz) := by
      simp [World.setCell, Array.getElem?_modify, hb]
    have h1v : v.oneCell' = true := by have := ho v (by simp); cases v <;> first | rfl | (simp [oneC] at this)
    obtain ⟨w', cur', e1, e2, e3, e4, e5, e6, e7, e8⟩ := run_storeCells (b := b) (o := o) (e := e) (fz := fz) vs (i + 1) (cur.setIfInBounds (o + i) v) (w.setCell ⟨b, o + i, none⟩ v) hset (by simp; omega) (by simpa using hf) (fun u hu => ho u (by simp [hu]))
    refine ⟨w', cur', ?_, by rw [e2]; simp [World.setCell], e3, ?_, fun k hk => ?_, e6, e7, e8⟩
    · simp only [storeCells, Sem.run_bind, add_addr]
      rw [run_store P w _ v .plain h1v, hcell]
      simp only [hfr, Bool.false_eq_true, if_false, Result.andThen_ok]
      exact e1
    · rw [e4]
      simp only [Array.toList_setIfInBounds]
      have g1 : (cur.toList.set (o + i) v).take (o + (i + 1)) = cur.toList.take (o + i) ++ [v] := by
        rw [show o + (i + 1) = (o + i) + 1 by omega, List.take_succ_eq_append_getElem (by simpa using hlt)]
        simp only [List.getElem_set_self]
        rw [List.take_set, List.set_eq_of_length_le (by simp; omega)]
      have g2 : (cur.toList.set (o + i) v).drop (o + (i + 1) + vs.length) = cur.toList.drop (o + (i + 1) + vs.length) := by rw [List.drop_set_of_lt (by omega)]
      rw [g1, g2]
      simp [show o + (i + 1) + vs.length = o + i + (vs.length + 1) by omega]
    · rw [e5 k hk]
      simp only [World.setCell, Array.getElem?_modify]
      rw [if_neg (fun q => hk q.symm)]

theorem allOne_conc : ∀ {vs : List AV} {xs : List Value}, concL σ vs = some xs → allOne vs = true → ∀ x ∈ xs, oneC x = true
  | [], xs, hv, _ => by rw [concL_nil] at hv; subst hv; simp
  | v :: vs, xs, hv, ho => by
    obtain ⟨a, b, h1, h2, rfl⟩ := concL_cons.1 hv
    simp only [allOne] at ho
    cases h3 : v.one with
    | false => simp [h3] at ho
    | true =>
      simp [h3] at ho
      intro x hx
      simp at hx
      rcases hx with rfl | hx
      · exact conc_one h1 h3
      · exact allOne_conc h2 ho x hx

/-- cells written into a known block -/
theorem write_block (r : HRel σ h w.heap) {i b c : Nat} {cs : List AV} {e : TypeId} {ext : Option Nat} (hi : h.t.get i = some (.cells cs e ext true)) (hs : σ i = some (b, c)) {o : Nat} {vs cs2 : List AV} {xs : List Value}
    (hv : concL σ vs = some xs) (ho : allOne vs = true) (hw : write o vs cs = some cs2) :
    ∃ w', (storeCells ⟨b, o, none⟩ xs).run P w = .ok () w' ∧ HRel σ ⟨h.next, T.set (some (.cells cs2 e ext true)) h.t i⟩ w'.heap ∧ Ext σ h w σ ⟨h.next, T.set (some (.cells cs2 e ext true)) h.t i⟩ w' := by
  obtain ⟨b', c', x', h1, h2, h3⟩ := r.objs i _ hi
  rw [hs] at h1; cases h1
  obtain ⟨cs', fz, l, rr, rfl, hl, hcs, hext, hfz⟩ := h3.inv_cells
  have hlen := concL_length hl
  have hvl := concL_length hv
  have hcl : cs'.size = l.length + rr.length := by rw [← Array.length_toList, hcs]; simp
  rcases write_eq hw with ⟨rfl, rfl⟩ | ⟨hle, rfl⟩
  · rw [concL_nil] at hv; subst hv
    refine ⟨w, by simp [storeCells], ?_, ?_⟩
    · exact (r.put hi hs (.cells cs2 e ext true) _ h3 w rfl h2 (fun _ _ => rfl)).1
    · exact (r.put hi hs (.cells cs2 e ext true) _ h3 w rfl h2 (fun _ _ => rfl)).2 rfl rfl rfl
  · obtain ⟨w', cur', e1, e2, e3, e4, e5, e6, e7, e8⟩ := run_storeCells (P := P) (b := b) (o := o) (e := e) (fz := fz) xs 0 cs' w h2 (by omega) (hfz rfl) (allOne_conc hv ho)
    simp only [Nat.add_zero] at e4
    have hnew : concL σ (cs.take o ++ vs ++ cs.drop (o + vs.length)) = some (l.take o ++ xs ++ l.drop (o + xs.length)) := by
      rw [hvl]; exact concL_append (concL_append (concL_take hl) hv) (concL_drop hl)
    have horel : ORel σ c (.cells (cs.take o ++ vs ++ cs.drop (o + vs.length)) e ext true) (.cells cur' e fz) := by
      have hsz : cur'.size = cs'.size := by
        rw [← Array.length_toList, e4]; simp; omega
      refine ⟨_, hnew, ⟨rr, ?_⟩, rfl, ?_, fun _ k hk => hfz rfl k (by omega)⟩
      · rw [e4, hcs]
        rw [List.take_append_of_le_length (by omega), List.drop_append_of_le_length (by omega)]
        simp
      · rw [hsz]
        cases ext with
        | none => simp only [extOk] at hext ⊢; rw [hext]; simp; omega
        | some z => exact hext
    have hp := r.put hi hs _ _ horel w' e2 e3 e5
    exact ⟨w', e1, hp.1, hp.2 e6 e7 e8⟩

theorem store_sound (hE : EnvOk P E) (r : HRel σ h w.heap) {t : TypeId} {x : TI} (ht : TOk P t x) {i o b c : Nat} (hs : σ i = some (b, c)) {v : AV} {xv : Value} (hv : conc σ v = some xv) {u : AV} {h' : H} (hst : storeA x h i o v = some (u, h')) :
    ∃ w', (storeVar t ⟨b, o, none⟩ xv).run P w = .ok () w' ∧ u = undefA ∧ HRel σ h' w'.heap ∧ Ext σ h w σ h' w' := by
  unfold storeA at hst
  split at hst
  · rename_i cs e ext hg
    cases hc : (Nat.beq v.cells.length x.size && allOne v.cells) with
    | false => rw [hc] at hst; cases hst
    | true =>
      rw [hc] at hst; simp only [cond_true] at hst
      simp only [Bool.and_eq_true] at hc
      have hsz := Nat.eq_of_beq_eq_true hc.1
      cases hw : write o v.cells cs with
      | none => simp [hw] at hst
      | some cs2 =>
        simp [hw, putO_eq] at hst
        obtain ⟨rfl, rfl⟩ := hst
        have hcl := conc_cells hv
        obtain ⟨w', e1, e2, e3⟩ := write_block (P := P) r hg hs hcl hc.2 hw
        refine ⟨w', ?_, rfl, e2, e3⟩
        have hl := concL_length hcl
        have hs2 : xv.cells.size = x.size := by simp at hl; omega
        simp only [storeVar, Sem.run_bind, ht.size, Result.andThen_ok, hs2, ne_eq, not_true_eq_false, if_false]
        exact e1
  · cases hst

/-! append -/
theorem growBy_le (need : Nat) : ∀ (n c : Nat), c < need → Builtin.growBy need n c ≤ 2 * need + 1000
  | 0, c, h => by simp [Builtin.growBy]; omega
  | n + 1, c, h => by
    unfold Builtin.growBy
    split
    · omega
    · by_cases h2 : c + (c + 768) / 4 < need
      · exact growBy_le need n _ h2
      · cases n with
        | zero => simp [Builtin.growBy]; omega
        | succ n => unfold Builtin.growBy; rw [if_pos (by omega)]; omega
theorem nextslicecap_le {need old : Nat} (h : old < need) : Builtin.nextslicecap need old ≤ 2 * need + 1000 := by
  unfold Builtin.nextslicecap
  split
  · omega
  · split
    · omega
    · exact growBy_le need 4 old h

theorem firstCells_sound (r : HRel σ h w.heap) {x : AV} {xv : Value} (hx : conc σ x = some xv) {size n : Nat} {l : List AV} (hl : firstCellsA h size n x = some l) :
    ∃ xs, (Builtin.firstCells size n xv).run P w = .ok ⟨xs⟩ w ∧ concL σ l = some xs := by
  unfold firstCellsA at hl
  split at hl
  · rename_i i o len c
    obtain ⟨b, c', s1, rfl⟩ := conc_slice hx
    split at hl
    · rename_i cs e ext wr hg
      obtain ⟨b', c'', x', h1, h2, h3⟩ := r.objs i _ hg
      rw [s1] at h1; cases h1
      obtain ⟨cs', fz, ll, rr, rfl, hll, hcs, _, _⟩ := h3.inv_cells
      have hlen := concL_length hll
      obtain ⟨_, e2⟩ := sub_eq hl
      refine ⟨(ll.drop o).take (n * size), ?_, concL_sub hll hl⟩
      simp only [Builtin.firstCells, loadCells]
      rw [run_cells h2 (n * size) 0 #[] ((ll.drop o).take (n * size))]
      · simp
      · rw [hcs]; simp only [Nat.add_zero]
        rcases e2 with e2 | e2
        · rw [List.drop_append_of_le_length (by omega), List.take_append_of_le_length (by simp; omega)]
        · rw [e2]; simp
      · rcases e2 with e2 | e2
        · simp; omega
        · simp [e2]
    · cases hl
  · obtain ⟨_, _, rfl⟩ := conc_sliceNil hx
    cases hl
    exact ⟨[], by simp [Builtin.firstCells], by simp [concL]⟩
  · rename_i s
    have := conc_str hx; subst this
    cases ht : takeN n s with
    | none => simp [ht] at hl
    | some m =>
      simp [ht] at hl; subst hl
      obtain ⟨rfl, _⟩ := takeN_eq ht
      refine ⟨(s.take n).map fun b => .int .u8 (Int.ofNat b.toNat), ?_, concL_cellsOfBytes σ _⟩
      simp [Builtin.firstCells, extract_mk]
  · cases hl

theorem lenOf_sound {x : AV} {xv : Value} (hx : conc σ x = some xv) {n : Nat} (hl : lenOfA x = some n) : (Builtin.lenOf xv).run P w = .ok n w := by
  cases x <;> simp only [lenOfA] at hl <;> try (cases hl; done)
  · have := conc_str hx; subst this; cases hl; simp [Builtin.lenOf, size_mk]
  · rename_i a len c
    cases hl
    rcases a with _ | ⟨i, o⟩
    · obtain ⟨_, _, rfl⟩ := conc_sliceNil hx; simp [Builtin.lenOf]
    · obtain ⟨_, _, _, rfl⟩ := conc_slice hx; simp [Builtin.lenOf]

theorem HRel.rename (r : HRel σ h w.heap) {i b c : Nat} {o₀ : AObj} (hi : h.t.get i = some o₀) (hs : σ i = some (b, c)) (o : AObj) (x : Obj) (hx : ORel (upd σ h.next (b, c)) c o x)
    (w' : World) (hsz : w'.heap.size = w.heap.size) (hb : w'.heap[b]? = some x) (hk : ∀ k, k ≠ b → w'.heap[k]? = w.heap[k]?) :
    HRel (upd σ h.next (b, c)) ⟨h.next + 1, T.set (some o) (T.set none h.t i) h.next⟩ w'.heap ∧ (w'.os = w.os → w'.tape = w.tape → w'.output = w.output → Ext σ h w (upd σ h.next (b, c)) ⟨h.next + 1, T.set (some o) (T.set none h.t i) h.next⟩ w') := by
  have hsub : Sub σ (upd σ h.next (b, c)) := sub_upd _ (r.fresh _ (Nat.le_refl _))
  have hlt := r.lt hi
  have old : ∀ j o', j ≠ h.next → (T.set (some o) (T.set none h.t i) h.next).get j = some o' → j ≠ i ∧ h.t.get j = some o' := fun j o' hj hg => by
    rw [get_set, if_neg hj, get_set] at hg
    by_cases e : j = i
    · subst e; simp at hg
    · simp [e] at hg; exact ⟨e, hg⟩
  have notb : ∀ j o' c', j ≠ i → h.t.get j = some o' → σ j = some (b, c') → False := fun j o' c' hj hg hsj => hj (r.inj j i o' o₀ b c' c hg hi hsj hs)
  refine ⟨⟨fun j hj => ?_, fun j o' hj => ?_, fun j k o₁ o₂ b' c₁ c₂ hj hk' hsj hsk => ?_⟩, fun h1 h2 h3 => ⟨h1, h2, h3, by omega, by simp, fun j hj => ?_, fun k hk' hn => ?_, fun j o' k c' hj hsj hk' => ?_⟩⟩
  · simp only at hj; rw [upd_ne σ _ (by omega)]; exact r.fresh j (by omega)
  · by_cases e : j = h.next
    · subst e
      simp only [get_set, if_true] at hj
      cases hj
      exact ⟨b, c, x, upd_self _ _ _, hb, hx⟩
    · obtain ⟨e1, e2⟩ := old j o' e hj
      obtain ⟨b', c', x', g1, g2, g3⟩ := r.objs j o' e2
      refine ⟨b', c', x', by rw [upd_ne σ _ e]; exact g1, ?_, g3.mono hsub⟩
      rw [hk b' (fun q => by subst q; exact notb j o' c' e1 e2 g1)]; exact g2
  · by_cases ej : j = h.next <;> by_cases ek : k = h.next
    · omega
    · subst ej
      rw [upd_self] at hsj; cases hsj
      rw [upd_ne σ _ ek] at hsk
      obtain ⟨e1, e2⟩ := old k o₂ ek hk'
      exact (notb k o₂ c₂ e1 e2 hsk).elim
    · subst ek
      rw [upd_self] at hsk; cases hsk
      rw [upd_ne σ _ ej] at hsj
      obtain ⟨e1, e2⟩ := old j o₁ ej hj
      exact (notb j o₁ c₁ e1 e2 hsj).elim
    · rw [upd_ne σ _ ej] at hsj; rw [upd_ne σ _ ek] at hsk
      exact r.inj j k o₁ o₂ b' c₁ c₂ (old j o₁ ej hj).2 (old k o₂ ek hk').2 hsj hsk
  · rw [upd_ne σ _ (by omega)]
  · exact hk k (fun q => by subst q; exact hn i o₀ c hi hs)
  · by_cases e : j = h.next
    · subst e; rw [upd_self] at hsj; cases hsj; exact ⟨i, o₀, c, hi, hs⟩
    · rw [upd_ne σ _ e] at hsj; exact ⟨j, o', c', (old j o' e hj).2, hsj⟩

end
end Go.Ev
/- The evaluator's soundness: append, copy, maps that are written, iterators. -/
set_option linter.unusedSimpArgs false
set_option linter.unusedVariables false
namespace Go.Ev

section
variable {P : Program} {E : Env} {σ : Sg} {w : World} {h : H}

theorem cut_cap' (need old : Nat) (e : TypeId) (t : Nat) : need ≤ (Question.appendCap need old e).cut t := by simp [Question.cut]

/-- the call of append that makes a new row -/
theorem run_grow (hE : EnvOk P E) {t u elem : TypeId} {ts tu te : TI} (hts : TOk P t ts) (htu : TOk P u tu) (hte : TOk P elem te) (hd : ts.desc = .slice elem) (hnu : ∀ k, tu.desc ≠ .int k)
    {base : Option Addr} {len cap n : Nat} {xv : Value} (hn : (Builtin.lenOf xv).run P w = .ok n w) {old new : List Value}
    (ho : ∀ w', w'.heap = w.heap → (Builtin.firstCells te.size len (.slice base len cap)).run P w' = .ok ⟨old⟩ w')
    (hnw : ∀ w', w'.heap = w.heap → (Builtin.firstCells te.size n xv).run P w' = .ok ⟨new⟩ w')
    (hc : cap < len + n) (hb : (len + n) * te.bytes ≤ 1000000) (hb2 : len + n ≤ 1000000) (ty : TypeId) :
    ∃ z newCap, (∀ σ, concL σ te.zero.cells = some z) ∧ len + n ≤ newCap ∧
      (Builtin.append_ #[t, u] ty #[.slice base len cap, xv]).run P w = .ok (.slice (some ⟨w.heap.size, 0, none⟩) (len + n) newCap)
        { w with drawn := w.drawn + 1, heap := w.heap.push (.cells ⟨old ++ new ++ rep (newCap - (len + n)) z⟩ elem (0, 0)) } := by
  obtain ⟨z, hz1, hz2⟩ := zero_cells hte
  obtain ⟨i, hi1, hi2⟩ := hte.bytes
  let newCap := (Question.appendCap (len + n) cap elem).cut (w.tape w.drawn (.appendCap (len + n) cap elem))
  refine ⟨z.cells.toList, newCap, hz2, cut_cap' _ _ _ _, ?_⟩
  have hzeros : (match tu.desc with | .int _ => true | _ => false) = false := by
    cases hq : tu.desc <;> first | rfl | (exact absurd hq (hnu _))
  have hx2 : ¬ (((len + n : Nat) : Int) > IntKind.i64.max) := by rw [imax]; omega
  have hns : ¬ (Builtin.nextslicecap (len + n) cap * i.bytes > 2 ^ 48) := by
    rw [hi2]
    have h1 := nextslicecap_le hc
    have h2 : te.bytes ≤ 1000000 := Nat.le_trans (Nat.le_mul_of_pos_left _ (by omega)) hb
    have h3 : Builtin.nextslicecap (len + n) cap * te.bytes ≤ (2 * (len + n) + 1000) * te.bytes := Nat.mul_le_mul_right _ h1
    rw [Nat.add_mul, Nat.mul_assoc] at h3
    omega
  have hrest : Builtin.zeroCells z.cells (newCap - (len + n)) = ⟨rep (newCap - (len + n)) z.cells.toList⟩ := by
    rw [← Array.toList_inj]
    have := rep_range z.cells (newCap - (len + n))
    simp only [Builtin.zeroCells]
    rw [Array.toList_map, Array.toList_range]
    exact this
  unfold Builtin.append_
  simp only [Sem.run_bind, hts.run, hd, Result.andThen_ok, hte.size, htu.run]
  have e1 : (#[t, u] : Array TypeId)[0]? = some t := rfl
  have e2 : (#[t, u] : Array TypeId)[1]? = some u := rfl
  have e3 : (#[Value.slice base len cap, xv] : Array Value)[0]? = some (Value.slice base len cap) := rfl
  have e4 : (#[Value.slice base len cap, xv] : Array Value)[1]? = some xv := rfl
  simp only [e1, e2, e3, e4, Sem.run_bind, hts.run, hd, Result.andThen_ok, hte.size, htu.run, Sem.run_pure]
  have hle : ¬ (len + n ≤ cap) := by omega
  have hx3 : ¬ (((len + n : Nat) : Int) > IntKind.i64.max ∧ (False ∨ i.bytes = 0)) := fun q => hx2 q.1
  simp only [Bool.false_eq_true, if_false, Sem.run_bind, hn, Result.andThen_ok, if_neg hle, hi1, if_neg hx3, if_neg hns, run_choose, Question.forced, run_askRoom]
  have hw : ({ w with drawn := w.drawn + 1 } : World).heap = w.heap := rfl
  simp only [ho _ hw, hnw _ hw, hz1, Result.andThen_ok, Bool.not_false, if_true, newRow, Sem.run_bind, Sem.run_pure]
  show Result.andThen _ _ = _
  have e9 : (⟨old⟩ : Array Value) ++ ⟨new⟩ ++ Builtin.zeroCells z.cells (newCap - (len + n)) = ⟨old ++ new ++ rep (newCap - (len + n)) z.cells.toList⟩ := by
    rw [hrest]; simp
  simp only [newCap] at e9
  simp only [e9]
  rfl

theorem rep_length {α : Type} (l : List α) : ∀ n, (rep n l).length = n * l.length
  | 0 => by simp [rep]
  | n + 1 => by simp [rep, rep_length l n, Nat.add_mul]; omega

theorem appendX_sound (hE : EnvOk P E) (r : HRel σ h w.heap) {t u : TypeId} {s x : AV} {sv xv : Value} (hsv : conc σ s = some sv) (hxv : conc σ x = some xv) {v : AV} {h' : H} (ha : appendXA E t u s x h = some (v, h')) (ty : TypeId) :
    ∃ σ' w' y, (Builtin.append_ #[t, u] ty #[sv, xv]).run P w = .ok y w' ∧ conc σ' v = some y ∧ HRel σ' h' w'.heap ∧ Ext σ h w σ' h' w' := by
  unfold appendXA at ha
  split at ha
  · rename_i ts tu base len cap n hts0 htu0 hlen0
    have hts := hE.ts _ _ hts0
    have htu := hE.ts _ _ htu0
    have hn := lenOf_sound (P := P) (w := w) hxv hlen0
    split at ha
    · cases ha
    · rename_i elem hd hnd
      have hnu : ∀ k, tu.desc ≠ .int k := fun k e => hnd k e
      cases hte0 : E.ts.get elem with
      | none => simp [hte0] at ha
      | some te =>
        have hte := hE.ts _ _ hte0
        simp only [hte0] at ha
        cases hf : firstCellsA h te.size n x with
        | none => simp [hf] at ha
        | some new =>
          obtain ⟨nx, hnx1, hnx2⟩ := firstCells_sound (P := P) r hxv hf
          simp only [hf, fN_eq] at ha
          cases hc : (Nat.ble ((len + n) * te.bytes) 1000000 && Nat.ble (len + n) 1000000 && allOne new && Nat.beq new.length (n * te.size)) with
          | false => rw [hc] at ha; cases ha
          | true =>
            rw [hc] at ha; simp only [cond_true] at ha
            simp only [Bool.and_eq_true] at hc
            have b1 := Nat.le_of_ble_eq_true hc.1.1.1
            have b2 := Nat.le_of_ble_eq_true hc.1.1.2
            have b3 := hc.1.2
            have b4 := Nat.eq_of_beq_eq_true hc.2
            have hnl := concL_length hnx2
            have hnx1' : ∀ w' : World, w'.heap = w.heap → (Builtin.firstCells te.size n xv).run P w' = .ok ⟨nx⟩ w' := by
              intro w' hw'
              obtain ⟨nx', q1, q2⟩ := firstCells_sound (P := P) (w := w') (by rw [hw']; exact r) hxv hf
              rw [hnx2] at q2; cases q2; exact q1
            have hzl : te.zero.cells.length = te.size := hte.zlen
            -- where a new row is made
            have grow : ∀ (hh : H) (old : List AV) (ox : List Value) (bs : Option Addr) (cp : Nat), sv = .slice bs len cp → cp < len + n → HRel σ hh w.heap → Ext σ h w σ hh w →
                concL σ old = some ox → old.length = len * te.size → (∀ w' : World, w'.heap = w.heap → (Builtin.firstCells te.size len sv).run P w' = .ok ⟨ox⟩ w') →
                (fL (old ++ new) fun cs => newO hh (.cells cs elem (some te.size) true) fun j hh => some (AV.slice (some (j, 0)) (len + n) none, hh)) = some (v, h') →
                ∃ σ' w' y, (Builtin.append_ #[t, u] ty #[sv, xv]).run P w = .ok y w' ∧ conc σ' v = some y ∧ HRel σ' h' w'.heap ∧ Ext σ h w σ' h' w' := by
              intro hh old ox bs cp hsv' hcp rr ex ho hol hfo hres
              rw [fL_eq, newO_eq] at hres
              cases hres
              subst hsv'
              obtain ⟨z, newCap, hz, hcap, hrun⟩ := run_grow hE hts htu hte hd hnu hn hfo hnx1' hcp b1 b2 ty
              have hzz := concL_length (hz σ)
              have hol' := concL_length ho
              obtain ⟨g1, g2⟩ := rr.alloc (.cells (old ++ new) elem (some te.size) true) (.cells ⟨ox ++ nx ++ rep (newCap - (len + n)) z⟩ elem (0, 0)) newCap (by
                refine ⟨ox ++ nx, concL_mono (sub_upd _ (rr.fresh _ (Nat.le_refl _))) _ _ (concL_append ho hnx2), ⟨rep (newCap - (len + n)) z, rfl⟩, rfl, ?_, fun _ o _ => by simp⟩
                simp only [extOk]
                show (ox ++ nx ++ rep (newCap - (len + n)) z).length = _
                simp only [List.length_append, rep_length]
                rw [hol', hol, hnl, b4, hzz, hzl, ← Nat.add_mul, ← Nat.add_mul]
                congr 1; omega)
              refine ⟨_, _, _, hrun, ?_, g1, ex.trans (g2 _ rfl rfl rfl rfl)⟩
              simp [conc, upd_self, hcap]
            rcases base with _ | ⟨i, o⟩
            · cases cap with
              | none => cases ha
              | some c =>
                obtain ⟨_, e1, rfl⟩ := conc_sliceNil hsv
                cases e1
                simp only at ha
                cases hk : Nat.ble (len + n) c with
                | true =>
                  simp only [hk, cond_true] at ha
                  cases ha
                  have hle := Nat.le_of_ble_eq_true hk
                  refine ⟨σ, w, .slice none (len + n) c, ?_, by simp [conc], r, Ext.refl _ _ _⟩
                  unfold Builtin.append_
                  have e1 : (#[t, u] : Array TypeId)[0]? = some t := rfl
                  have e2 : (#[t, u] : Array TypeId)[1]? = some u := rfl
                  have e3 : (#[Value.slice none len c, xv] : Array Value)[0]? = some (Value.slice none len c) := rfl
                  have e4 : (#[Value.slice none len c, xv] : Array Value)[1]? = some xv := rfl
                  simp only [e1, e2, e3, e4, Sem.run_bind, hts.run, hd, Result.andThen_ok, hte.size, htu.run, Sem.run_pure, Bool.false_eq_true, if_false, hn, if_pos hle, Bool.not_false, if_true, hnx1]
                | false =>
                  simp only [hk, cond_false] at ha
                  have hgt : c < len + n := by
                    rcases Nat.lt_or_ge c (len + n) with q | q
                    · exact q
                    · rw [Nat.ble_eq_true_of_le q] at hk; cases hk
                  cases hl0 : Nat.beq len 0 with
                  | false => simp [hl0] at ha
                  | true =>
                    simp only [hl0, cond_true] at ha
                    have hl0 := Nat.eq_of_beq_eq_true hl0
                    exact grow h [] [] none c rfl hgt r (Ext.refl _ _ _) (by simp [concL]) (by simp [hl0]) (fun w' _ => by simp [Builtin.firstCells]) ha
            · cases hgi : h.t.get i with
              | none => simp [hgi] at ha
              | some ob =>
                cases ob <;> simp only [hgi] at ha <;> try (cases ha; done)
                rename_i cs e ext wr
                obtain ⟨b, c', s1, hsvx, hlc⟩ := conc_slice' hsv
                obtain ⟨b', c'', x', g1, g2, g3⟩ := r.objs i _ hgi
                rw [s1] at g1; cases g1
                have eadd : ∀ k, (⟨b, o, none⟩ : Addr).add k = ⟨b, o + k, none⟩ := fun k => add_addr b o k
                -- where it is written in place
                have inplace : ∀ (w' : World), len + n ≤ cap.getD c' → (storeCells ⟨b, o + len * te.size, none⟩ nx).run P w = .ok () w' →
                    (Builtin.append_ #[t, u] ty #[sv, xv]).run P w = .ok (.slice (some ⟨b, o, none⟩) (len + n) (cap.getD c')) w' := by
                  intro w' hle hst
                  subst hsvx
                  unfold Builtin.append_
                  have e1 : (#[t, u] : Array TypeId)[0]? = some t := rfl
                  have e2 : (#[t, u] : Array TypeId)[1]? = some u := rfl
                  have e3 : (#[Value.slice (some ⟨b, o, none⟩) len (cap.getD c'), xv] : Array Value)[0]? = some (Value.slice (some ⟨b, o, none⟩) len (cap.getD c')) := rfl
                  have e4 : (#[Value.slice (some ⟨b, o, none⟩) len (cap.getD c'), xv] : Array Value)[1]? = some xv := rfl
                  simp only [e1, e2, e3, e4, Sem.run_bind, hts.run, hd, Result.andThen_ok, hte.size, htu.run, Sem.run_pure, Bool.false_eq_true, if_false, hn, if_pos hle, Bool.not_false, if_true, hnx1, eadd]
                  rw [hst]; rfl
                cases hk : fitsA cap len (len + n) with
                | true =>
                  rw [hk] at ha; simp only [cond_true] at ha
                  have hle : len + n ≤ cap.getD c' := by
                    cases cap with
                    | some c => exact Nat.le_of_ble_eq_true hk
                    | none =>
                      have h1 := Nat.le_of_ble_eq_true hk
                      have h2 := hlc rfl
                      simp; omega
                  cases wr with
                  | true =>
                    simp only [cond_true] at ha
                    cases hw : write (o + len * te.size) new cs with
                    | none => simp [hw] at ha
                    | some cs2 =>
                      simp only [hw, putO_eq] at ha
                      cases ha
                      obtain ⟨w', q1, q2, q3⟩ := write_block (P := P) r hgi s1 hnx2 b3 hw
                      refine ⟨σ, w', _, inplace w' hle q1, ?_, q2, q3⟩
                      cases cap with
                      | some c => simp [conc, s1]
                      | none => simp at hle; simp [conc, s1, hle]
                  | false =>
                    simp only [cond_false] at ha
                    cases hn0 : Nat.beq n 0 with
                    | false => simp [hn0] at ha
                    | true =>
                      simp only [hn0, cond_true] at ha
                      cases ha
                      have hn0 := Nat.eq_of_beq_eq_true hn0
                      have hnx0 : nx = [] := by
                        have : nx.length = 0 := by rw [hnl, b4, hn0]; simp
                        exact List.length_eq_zero_iff.1 this
                      refine ⟨σ, w, _, inplace w hle (by rw [hnx0]; simp [storeCells]), ?_, r, Ext.refl _ _ _⟩
                      cases cap with
                      | some c => simp [conc, s1]
                      | none => simp at hle; simp [conc, s1, hle]
                | false =>
                  rw [hk] at ha; simp only [cond_false] at ha
                  cases hsb : sub o (len * te.size) cs with
                  | none => simp [hsb] at ha
                  | some old =>
                    simp only [hsb] at ha
                    obtain ⟨cs', fz, l, rr, rfl, hl, hcs, hext, hfz⟩ := g3.inv_cells
                    have hold := concL_sub hl hsb
                    obtain ⟨eold, hran⟩ := sub_eq hsb
                    have hlen := concL_length hl
                    have holdlen : old.length = len * te.size := by
                      rw [eold]
                      rcases hran with q | q
                      · simp; omega
                      · simp [q]
                    have hfo : ∀ w' : World, w'.heap = w.heap → (Builtin.firstCells te.size len sv).run P w' = .ok ⟨(l.drop o).take (len * te.size)⟩ w' := by
                      intro w' hw'
                      have hfa : firstCellsA h te.size len (.slice (some (i, o)) len cap) = some old := by simp [firstCellsA, hgi, hsb]
                      obtain ⟨ox, q1, q2⟩ := firstCells_sound (P := P) (w := w') (by rw [hw']; exact r) hsv hfa
                      rw [hold] at q2; cases q2; exact q1
                    cases cap with
                    | some c =>
                      simp only at ha
                      have hgt : c < len + n := by
                        rcases Nat.lt_or_ge c (len + n) with q | q
                        · exact q
                        · have hk : Nat.ble (len + n) c = false := hk
                          rw [Nat.ble_eq_true_of_le q] at hk; cases hk
                      exact grow h old _ _ c hsvx hgt r (Ext.refl _ _ _) hold holdlen hfo ha
                    | none =>
                      simp only at ha
                      cases hcc : (Nat.beq o 0 && Nat.beq cs.length (len * te.size) && wr && extIs ext te.size && Nat.beq e elem) with
                      | false => rw [hcc] at ha; cases ha
                      | true =>
                        rw [hcc] at ha; simp only [cond_true, putO_eq] at ha
                        simp only [Bool.and_eq_true] at hcc
                        have c1 := Nat.eq_of_beq_eq_true hcc.1.1.1.1
                        have c2 := Nat.eq_of_beq_eq_true hcc.1.1.1.2
                        have c3 := hcc.1.1.2
                        have c4 := hcc.1.2
                        have c5 := Nat.eq_of_beq_eq_true hcc.2
                        subst c1 c3
                        cases ext with
                        | none => cases c4
                        | some z =>
                          have c4 := Nat.eq_of_beq_eq_true c4
                          subst c4
                          simp only [extOk] at hext
                          by_cases hfit : len + n ≤ c'
                          · -- in place
                            simp only [Option.getD_none] at inplace
                            obtain ⟨w', cur', e1, e2, e3, e4, e5, e6, e7, e8⟩ := run_storeCells (P := P) (b := b) (o := 0 + len * te.size) (e := e) (fz := fz) nx 0 cs' w g2 (by
                              rw [hnl, b4, hext]
                              have := Nat.mul_le_mul_right te.size hfit
                              rw [Nat.add_mul] at this; omega) (hfz rfl) (allOne_conc hnx2 b3)
                            rw [fL_eq, newO_eq] at ha
                            cases ha
                            have hcl : cs'.size = l.length + rr.length := by rw [← Array.length_toList, hcs]; simp
                            have hcur : cur'.toList = l ++ nx ++ rr.drop nx.length := by
                              rw [e4, hcs]
                              have q1 : 0 + len * te.size + 0 = l.length := by omega
                              rw [q1]
                              rw [List.take_left', List.drop_append]
                              · simp
                              · rfl
                            have hcsz : cur'.size = cs'.size := by
                              have : nx.length ≤ rr.length := by
                                have h9 : (len + n) * te.size ≤ cs'.size := by rw [hext]; exact Nat.mul_le_mul_right _ hfit
                                rw [Nat.add_mul] at h9
                                omega
                              rw [← Array.length_toList, hcur]; simp; omega
                            obtain ⟨k1, k2⟩ := r.rename hgi s1 (.cells (old ++ new) elem (some te.size) true) (.cells cur' e fz) (by
                              have hll : (l.drop 0).take (len * te.size) = l := by
                                rw [List.drop_zero]; exact List.take_of_length_le (by omega)
                              rw [hll] at hold
                              refine ⟨l ++ nx, concL_mono (sub_upd _ (r.fresh _ (Nat.le_refl _))) _ _ (concL_append hold hnx2), ⟨rr.drop nx.length, hcur⟩, c5, ?_, fun _ k hk' => hfz rfl k (by omega)⟩
                              simp only [extOk]
                              rw [hcsz, hext]) w' e2 e3 e5
                            refine ⟨_, w', _, inplace w' hfit e1, ?_, k1, k2 e6 e7 e8⟩
                            simp [conc, upd_self, hfit]
                          · obtain ⟨k1, k2⟩ := r.kill i
                            exact grow ⟨h.next, T.set none h.t i⟩ old _ _ c' hsvx (by omega) k1 k2 hold holdlen hfo ha
    · cases ha
  · cases ha

set_option maxRecDepth 100000 in
/-- the call of append(nil, make([]T, n)...) -/
theorem run_growZ (hE : EnvOk P E) {t u elem : TypeId} {ts tu te : TI} (hts : TOk P t ts) (htu : TOk P u tu) (hte : TOk P elem te) (hd : ts.desc = .slice elem) {k0 : IntKind} (hu : tu.desc = .int k0)
    {cap n : Nat} {k : IntKind} (hc : cap < n) (hs : 0 < te.size) (hb : n * te.bytes ≤ 1000000) (hb2 : n ≤ 1000000) (ty : TypeId) :
    ∃ z newCap, (∀ σ, concL σ te.zero.cells = some z) ∧ n ≤ newCap ∧
      (Builtin.append_ #[t, u] ty #[.slice none 0 cap, .int k (.ofNat n)]).run P w = .ok (.slice (some ⟨w.heap.size, 0, none⟩) n newCap)
        { w with drawn := w.drawn + 1, heap := w.heap.push (.cells ⟨rep n z ++ rep (newCap - n) z⟩ elem (0, 0)) } := by
  obtain ⟨z, hz1, hz2⟩ := zero_cells hte
  obtain ⟨i, hi1, hi2⟩ := hte.bytes
  let newCap := (Question.appendCap (0 + n) cap elem).cut (w.tape w.drawn (.appendCap (0 + n) cap elem))
  have hle0 : 0 + n ≤ newCap := cut_cap' _ _ _ _
  refine ⟨z.cells.toList, newCap, hz2, by omega, ?_⟩
  have hx2 : ¬ (((0 + n : Nat) : Int) > IntKind.i64.max) := by rw [imax]; omega
  have hw64 : IntKind.i64.wrap (Int.ofNat n) = (n : Int) := wrap_nat hb2
  have hns : ¬ (Builtin.nextslicecap (0 + n) cap * i.bytes > 2 ^ 48) := by
    rw [hi2]
    have h1 := nextslicecap_le (show cap < 0 + n by omega)
    have h2 : te.bytes ≤ 1000000 := Nat.le_trans (Nat.le_mul_of_pos_left _ (by omega)) hb
    have h3 : Builtin.nextslicecap (0 + n) cap * te.bytes ≤ (2 * (0 + n) + 1000) * te.bytes := Nat.mul_le_mul_right _ h1
    rw [Nat.add_mul, Nat.mul_assoc] at h3
    have h4 : (0 + n) * te.bytes ≤ 1000000 := by rw [Nat.zero_add]; exact hb
    omega
  have hrest : ∀ m, Builtin.zeroCells z.cells m = ⟨rep m z.cells.toList⟩ := by
    intro m
    rw [← Array.toList_inj]
    have := rep_range z.cells m
    simp only [Builtin.zeroCells]
    rw [Array.toList_map, Array.toList_range]
    exact this
  unfold Builtin.append_
  have e1 : (#[t, u] : Array TypeId)[0]? = some t := rfl
  have e2 : (#[t, u] : Array TypeId)[1]? = some u := rfl
  have e3 : (#[Value.slice none 0 cap, Value.int k (.ofNat n)] : Array Value)[0]? = some (Value.slice none 0 cap) := rfl
  have e4 : (#[Value.slice none 0 cap, Value.int k (.ofNat n)] : Array Value)[1]? = some (Value.int k (.ofNat n)) := rfl
  simp only [e1, e2, e3, e4, Sem.run_bind, hts.run, hd, hu, Result.andThen_ok, hte.size, htu.run, Sem.run_pure]
  have hle : ¬ (0 + n ≤ cap) := by omega
  have hx3 : ¬ (((0 + n : Nat) : Int) > IntKind.i64.max ∧ (True ∨ i.bytes = 0)) := fun q => hx2 q.1
  have hneg : ¬ ((n : Int) < 0) := by omega
  have hbig : ¬ ((n : Int) * (i.bytes : Int) > 2 ^ 48) := by
    rw [hi2]
    have : ((n * te.bytes : Nat) : Int) ≤ 1000000 := by omega
    rw [Int.natCast_mul] at this
    omega
  have hnz : ¬ (n * te.size = 0) := by
    have := Nat.mul_pos (show 0 < n by omega) hs
    omega
  have hw : ({ w with drawn := w.drawn + 1 } : World).heap = w.heap := rfl
  have hint : (asInt (Value.int k (Int.ofNat n))).run P w = .ok (Int.ofNat n) w := rfl
  simp only [if_true, Sem.run_bind, hint, Result.andThen_ok, hw64, if_neg hneg, hi1, if_neg hbig, Sem.run_pure, Int.toNat_natCast, if_neg hle, true_or, and_true, if_neg hx2, if_neg hns, run_choose, Question.forced, run_askRoom]
  simp only [Bool.false_eq_true, if_false, Bool.not_true, Result.andThen_ok, if_neg hnz, Builtin.firstCells, Sem.run_bind, Sem.run_pure, hz1, hrest, newRow]
  have hz0 : 0 + n = n := Nat.zero_add n
  show Result.andThen _ _ = _
  simp only [newCap, hz0]
  have e9 : (#[] : Array Value) ++ (⟨rep n z.cells.toList⟩ : Array Value) ++ ⟨rep ((Question.appendCap n cap elem).cut (w.tape w.drawn (Question.appendCap n cap elem)) - n) z.cells.toList⟩ = ⟨rep n z.cells.toList ++ rep ((Question.appendCap n cap elem).cut (w.tape w.drawn (Question.appendCap n cap elem)) - n) z.cells.toList⟩ := by simp
  rw [e9]
  rfl
theorem appendZ_sound (hE : EnvOk P E) (r : HRel σ h w.heap) {t u : TypeId} {s : AV} {n : Nat} {k : IntKind} {sv : Value} (hsv : conc σ s = some sv) {v : AV} {h' : H} (ha : appendZA E t u s n h = some (v, h')) (ty : TypeId) :
    ∃ σ' w' y, (Builtin.append_ #[t, u] ty #[sv, .int k (.ofNat n)]).run P w = .ok y w' ∧ conc σ' v = some y ∧ HRel σ' h' w'.heap ∧ Ext σ h w σ' h' w' := by
  unfold appendZA at ha
  split at ha
  · rename_i ts tu c hts0 htu0
    have hts := hE.ts _ _ hts0
    have htu := hE.ts _ _ htu0
    split at ha
    · rename_i elem k0 hd hu
      cases hte0 : E.ts.get elem with
      | none => simp [hte0] at ha
      | some te =>
        have hte := hE.ts _ _ hte0
        simp only [hte0] at ha
        cases hc : (Nat.ble (n * te.bytes) 1000000 && Nat.ble n 1000000 && Nat.blt c n && Nat.blt 0 te.size) with
        | false => rw [hc] at ha; cases ha
        | true =>
          rw [hc] at ha; simp only [cond_true, fL_eq, newO_eq] at ha
          simp only [Bool.and_eq_true] at hc
          have b1 := Nat.le_of_ble_eq_true hc.1.1.1
          have b2 := Nat.le_of_ble_eq_true hc.1.1.2
          have b3 : c < n := Nat.le_of_ble_eq_true hc.1.2
          have b4 : 0 < te.size := Nat.le_of_ble_eq_true hc.2
          cases ha
          obtain ⟨_, e1, rfl⟩ := conc_sliceNil hsv
          cases e1
          obtain ⟨z, newCap, hz, hcap, hrun⟩ := run_growZ (w := w) (k := k) hE hts htu hte hd hu b3 b4 b1 b2 ty
          have hzz := concL_length (hz σ)
          have hzl : te.zero.cells.length = te.size := hte.zlen
          obtain ⟨g1, g2⟩ := r.alloc (.cells (rep n te.zero.cells) elem (some te.size) true) (.cells ⟨rep n z ++ rep (newCap - n) z⟩ elem (0, 0)) newCap (by
            refine ⟨rep n z, concL_rep (hz _) n, ⟨rep (newCap - n) z, rfl⟩, rfl, ?_, fun _ o _ => by simp⟩
            simp only [extOk]
            show (rep n z ++ rep (newCap - n) z).length = _
            simp only [List.length_append, rep_length]
            rw [hzz, hzl, ← Nat.add_mul]
            congr 1; omega)
          refine ⟨_, _, _, hrun, ?_, g1, g2 _ rfl rfl rfl rfl⟩
          simp [conc, upd_self, hcap]
    · cases ha
  · cases ha
theorem append_sound (hE : EnvOk P E) (r : HRel σ h w.heap) {t u : TypeId} {s x : AV} {sv xv : Value} (hsv : conc σ s = some sv) (hxv : conc σ x = some xv) {v : AV} {h' : H} (ha : appendA E t u s x h = some (v, h')) (ty : TypeId) :
    ∃ σ' w' y, (Builtin.append_ #[t, u] ty #[sv, xv]).run P w = .ok y w' ∧ conc σ' v = some y ∧ HRel σ' h' w'.heap ∧ Ext σ h w σ' h' w' := by
  unfold appendA at ha
  split at ha
  · rename_i k n
    simp only [conc, Option.some.injEq] at hxv
    subst hxv
    exact appendZ_sound hE r hsv ha ty
  · exact appendX_sound hE r hsv hxv ha ty

end
end Go.Ev
/- The evaluator's soundness: copy, maps that are written, iterators, unsafe strings. -/
set_option linter.unusedSimpArgs false
set_option linter.unusedVariables false
namespace Go.Ev

section
variable {P : Program} {E : Env} {σ : Sg} {w : World} {h : H}

theorem copy_sound (hE : EnvOk P E) (r : HRel σ h w.heap) {t : TypeId} {d s : AV} {dv sv : Value} (hdv : conc σ d = some dv) (hsv : conc σ s = some sv) {v : AV} {h' : H} (hc : copyA E t d s h = some (v, h')) (ts : List TypeId) (ty : TypeId) :
    ∃ w' y, (Builtin.copy_ ⟨t :: ts⟩ ty #[dv, sv]).run P w = .ok y w' ∧ conc σ v = some y ∧ HRel σ h' w'.heap ∧ Ext σ h w σ h' w' := by
  unfold copyA at hc
  split at hc
  · rename_i ti base dLen cap m hts0 hm
    have hts := hE.ts _ _ hts0
    have hn := lenOf_sound (P := P) (w := w) hsv hm
    split at hc
    · rename_i e hd
      cases hy0 : E.ts.get e with
      | none => simp [hy0] at hc
      | some y =>
        have hty := hE.ts _ _ hy0
        simp only [hy0, fN_eq] at hc
        cases hf : firstCellsA h y.size (Nat.min m dLen) s with
        | none => simp [hf] at hc
        | some new =>
          obtain ⟨nx, hnx1, hnx2⟩ := firstCells_sound (P := P) r hsv hf
          simp only [hf] at hc
          cases hcc : (allOne new && Nat.beq new.length (Nat.min m dLen * y.size)) with
          | false => rw [hcc] at hc; cases hc
          | true =>
            rw [hcc] at hc; simp only [cond_true] at hc
            simp only [Bool.and_eq_true] at hcc
            have e1 : (⟨t :: ts⟩ : Array TypeId)[0]? = some t := rfl
            rcases base with _ | ⟨i, o⟩
            · obtain ⟨k, _, rfl⟩ := conc_sliceNil hdv
              cases hc
              refine ⟨w, goInt (Nat.min m dLen), ?_, by simp [conc, goInt], r, Ext.refl _ _ _⟩
              unfold Builtin.copy_
              have e3 : (#[Value.slice none dLen k, sv] : Array Value)[0]? = some (Value.slice none dLen k) := rfl
              have e4 : (#[Value.slice none dLen k, sv] : Array Value)[1]? = some sv := rfl
              simp only [e1, e3, e4, Sem.run_bind, hts.run, hd, Result.andThen_ok, hn, hty.size, hnx1, Sem.run_pure]
            · obtain ⟨b, c', s1, rfl⟩ := conc_slice hdv
              simp only at hc
              split at hc
              · rename_i cs e' ext hgi
                cases hw : write o new cs with
                | none => simp [hw] at hc
                | some cs2 =>
                  simp only [hw, putO_eq] at hc
                  cases hc
                  obtain ⟨w', q1, q2, q3⟩ := write_block (P := P) r hgi s1 hnx2 hcc.1 hw
                  refine ⟨w', goInt (Nat.min m dLen), ?_, by simp [conc, goInt], q2, q3⟩
                  unfold Builtin.copy_
                  have e3 : (#[Value.slice (some ⟨b, o, none⟩) dLen (cap.getD c'), sv] : Array Value)[0]? = some (Value.slice (some ⟨b, o, none⟩) dLen (cap.getD c')) := rfl
                  have e4 : (#[Value.slice (some ⟨b, o, none⟩) dLen (cap.getD c'), sv] : Array Value)[1]? = some sv := rfl
                  simp only [e1, e3, e4, Sem.run_bind, hts.run, hd, Result.andThen_ok, hn, hty.size, hnx1, Sem.run_pure]
                  rw [q1]; rfl
              · cases hc
    · cases hc
  · cases hc

/-! maps -/
theorem sameBits_of {d : TypeDesc} {x y : Value} (h : Instr.sameNow d x y = some true) : Instr.sameBits 10000 y x = true := by
  cases d <;> cases x <;> cases y <;> simp [Instr.sameNow] at h
  · subst h; simp [Instr.sameBits]
  · obtain ⟨rfl, rfl⟩ := h; simp [Instr.sameBits]
  · rename_i a b
    have e : a = b := by
      rw [beq_toListBytes] at h
      have h := eq_of_beq h
      rw [ByteArray.toList_eq, ByteArray.toList_eq] at h
      obtain ⟨⟨a⟩⟩ := a; obtain ⟨⟨b⟩⟩ := b
      simp at h; subst h; rfl
    subst e
    simp only [Instr.sameBits, beq_toListBytes, beq_self_eq_true]
theorem run_stays {d : TypeDesc} {x y : Value} (h : Instr.sameNow d x y = some true) : (Instr.keyThatStays y x).run P w = .ok x w := by
  simp [Instr.keyThatStays, sameBits_of h]

theorem concE_mod {f : AV × AV × Nat → AV × AV × Nat} {g : MapEntry → MapEntry} (hfg : ∀ q e, conc σ q.1 = some e.key → conc σ q.2.1 = some e.val → q.2.2 = e.born → conc σ (f q).1 = some (g e).key ∧ conc σ (f q).2.1 = some (g e).val ∧ (f q).2.2 = (g e).born) :
    ∀ {es : List (AV × AV × Nat)} {l : List MapEntry} (i : Nat), concE σ es = some l → concE σ (modA f i es) = some (l.modify i g)
  | [], l, i, hl => by simp [concE] at hl; subst hl; cases i <;> simp [modA, concE]
  | e :: es, l, 0, hl => by
    obtain ⟨k, v, l', h1, h2, h3, rfl⟩ := concE_cons.1 hl
    obtain ⟨q1, q2, q3⟩ := hfg e { key := k, val := v, born := e.2.2 } h1 h2 rfl
    simp only [modA, List.modify_zero_cons]
    refine concE_cons.2 ⟨_, _, _, q1, q2, h3, ?_⟩
    rw [q3]
  | e :: es, l, i + 1, hl => by
    obtain ⟨k, v, l', h1, h2, h3, rfl⟩ := concE_cons.1 hl
    simp only [modA, List.modify_succ_cons]
    exact concE_cons.2 ⟨k, v, _, h1, h2, concE_mod hfg i h3, rfl⟩
theorem concE_snoc : ∀ {es : List (AV × AV × Nat)} {l : List MapEntry} {k v : AV} {kx vx : Value} {b : Nat}, concE σ es = some l → conc σ k = some kx → conc σ v = some vx → concE σ (es ++ [(k, v, b)]) = some (l ++ [{ key := kx, val := vx, born := b }])
  | [], l, k, v, kx, vx, b, hl, hk, hv => by simp [concE] at hl; subst hl; simp [concE, hk, hv]
  | e :: es, l, k, v, kx, vx, b, hl, hk, hv => by
    obtain ⟨k', v', l', h1, h2, h3, rfl⟩ := concE_cons.1 hl
    exact concE_cons.2 ⟨k', v', _, h1, h2, concE_snoc h3 hk hv, rfl⟩
theorem concE_erase : ∀ {es : List (AV × AV × Nat)} {l : List MapEntry} (i : Nat), concE σ es = some l → concE σ (eraseA i es) = some (l.eraseIdx i)
  | [], l, i, hl => by simp [concE] at hl; subst hl; cases i <;> simp [eraseA, concE]
  | e :: es, l, 0, hl => by
    obtain ⟨k, v, l', h1, h2, h3, rfl⟩ := concE_cons.1 hl
    simpa [eraseA] using h3
  | e :: es, l, i + 1, hl => by
    obtain ⟨k, v, l', h1, h2, h3, rfl⟩ := concE_cons.1 hl
    simp only [eraseA, List.eraseIdx_cons_succ]
    exact concE_cons.2 ⟨k, v, _, h1, h2, concE_erase i h3, rfl⟩

theorem toList_modify' (a : Array MapEntry) (i : Nat) (f : MapEntry → MapEntry) : (a.modify i f).toList = a.toList.modify i f := by
  apply List.ext_getElem?
  intro j
  rw [Array.getElem?_toList, Array.getElem?_modify, List.getElem?_modify, Array.getElem?_toList]
  split <;> simp_all

theorem mapUpdate_sound (hE : EnvOk P E) (r : HRel σ h w.heap) {t : TypeId} {m k v : AV} {mx kx vx : Value} (hm : conc σ m = some mx) (hk : conc σ k = some kx) (hv : conc σ v = some vx) {u : AV} {h' : H} (hu : mapUpdateA E t m k v h = some (u, h')) :
    ∃ w', (Instr.mapUpdate t mx kx vx).run P w = .ok () w' ∧ u = undefA ∧ HRel σ h' w'.heap ∧ Ext σ h w σ h' w' := by
  unfold mapUpdateA at hu
  split at hu
  · rename_i e rr hkt
    obtain ⟨kt, d, u1, u2, u3⟩ := keyT_sound hE hkt
    obtain ⟨b, c, s1, rfl⟩ := conc_map hm
    split at hu
    · rename_i es cl hg
      obtain ⟨b', c', x', h1, h2, h3⟩ := r.objs _ _ hg
      rw [s1] at h1; cases h1
      obtain ⟨es', rfl, hes⟩ := h3.inv_map
      have hob := run_getObj (P := P) h2 (by intro _ _ _ e; cases e)
      cases hf : findA k es 0 with
      | none => simp [hf] at hu
      | some fr =>
        rcases find_sound hk u3 hes hf with ⟨e1, e2⟩ | ⟨j, v', bn, y', kx', e1, e2, e3, e4, q, q1, q2, q3, q4, q5⟩
        · subst e1
          simp only [hf, fL_eq, fN_eq, putO_eq] at hu
          cases hu
          obtain ⟨g1, g2⟩ := put_set r hg s1 h2 (.map (es ++ [(k, v, cl)]) (cl + 1)) (.map (es'.push { key := kx, val := vx, born := cl }) (cl + 1)) ⟨rfl, by rw [concE_snoc hes hk hv]; simp⟩
          refine ⟨_, ?_, rfl, g1, g2⟩
          simp only [Instr.mapUpdate, Sem.run_bind, run_underlying u1, Result.andThen_ok, hob, checkKey_ok' hk u2 u3, findKey_of u2 e2]
          exact run_setObj h2 (by intro _ _ _ e; cases e) _
        · subst e1
          simp only [hf, fL_eq, fN_eq, putO_eq] at hu
          cases hu
          obtain ⟨g1, g2⟩ := put_set r hg s1 h2 (.map (modA (fun q => (k, v, q.2.2)) (0 + j) es) cl) (.map (es'.modify (0 + j) fun e => { e with key := kx, val := vx }) cl) ⟨rfl, by
            rw [toList_modify']
            exact concE_mod (f := fun q => (k, v, q.2.2)) (g := fun e => { e with key := kx, val := vx }) (fun q e _ _ h3 => ⟨hk, hv, h3⟩) _ hes⟩
          refine ⟨_, ?_, rfl, g1, g2⟩
          have hq : es'[0 + j]? = some q := by simpa using q1
          simp only [Instr.mapUpdate, Sem.run_bind, run_underlying u1, Result.andThen_ok, hob, checkKey_ok' hk u2 u3, findKey_of u2 e4, hq, Option.map_some, Option.getD_some, run_stays q5]
          exact run_setObj h2 (by intro _ _ _ e; cases e) _
    · cases hu
  · cases hu

theorem mapEntry_sound (hE : EnvOk P E) (r : HRel σ h w.heap) {t : TypeId} {m k : AV} {mx kx : Value} (hm : conc σ m = some mx) (hk : conc σ k = some kx) {u : AV} {h' : H} (hu : mapEntryA E t m k h = some (u, h')) :
    ∃ w' y, (Instr.mapEntry t mx kx).run P w = .ok y w' ∧ conc σ u = some y ∧ HRel σ h' w'.heap ∧ Ext σ h w σ h' w' := by
  unfold mapEntryA at hu
  split at hu
  · rename_i e rr hkt
    obtain ⟨b, c, s1, rfl⟩ := conc_map hm
    split at hu
    · rename_i es cl y hg hy0
      have hty := hE.ts _ _ hy0
      obtain ⟨z, hz1, hz2⟩ := hty.zero
      obtain ⟨kt, d, u1, u2, u3⟩ := keyT_sound hE hkt
      obtain ⟨b', c', x', h1, h2, h3⟩ := r.objs _ _ hg
      rw [s1] at h1; cases h1
      obtain ⟨es', rfl, hes⟩ := h3.inv_map
      have hob := run_getObj (P := P) h2 (by intro _ _ _ e; cases e)
      cases hf : findA k es 0 with
      | none => simp [hf] at hu
      | some fr =>
        rcases find_sound hk u3 hes hf with ⟨e1, e2⟩ | ⟨j, v', bn, y', kx', e1, e2, e3, e4, q, q1, q2, q3, q4, q5⟩
        · subst e1
          simp only [hf, fL_eq, fN_eq, putO_eq] at hu
          cases hu
          obtain ⟨g1, g2⟩ := put_set r hg s1 h2 (.map (es ++ [(k, y.zero, cl)]) (cl + 1)) (.map (es'.push { key := kx, val := z, born := cl }) (cl + 1)) ⟨rfl, by rw [concE_snoc hes hk (hz2 σ)]; simp⟩
          refine ⟨_, .tuple #[z, goInt cl], ?_, by simp [conc, concL, hz2, goInt], g1, g2⟩
          simp only [Instr.mapEntry, Sem.run_bind, run_underlying u1, Result.andThen_ok, hob, checkKey_ok' hk u2 u3, findKey_of u2 e2, hz1]
          rw [run_setObj h2 (by intro _ _ _ e; cases e)]; rfl
        · subst e1
          simp only [hf, fL_eq, fN_eq, putO_eq] at hu
          cases hu
          obtain ⟨g1, g2⟩ := put_set r hg s1 h2 (.map (modA (fun q => (k, q.2.1, q.2.2)) (0 + j) es) cl) (.map (es'.modify (0 + j) fun e => { e with key := kx }) cl) ⟨rfl, by
            rw [toList_modify']
            exact concE_mod (f := fun q => (k, q.2.1, q.2.2)) (g := fun e => { e with key := kx }) (fun q e _ h2 h3 => ⟨hk, h2, h3⟩) _ hes⟩
          have hq : es'[0 + j]? = some q := by simpa using q1
          refine ⟨_, .tuple #[y', goInt bn], ?_, by simp [conc, concL, e3, goInt], g1, g2⟩
          simp only [Instr.mapEntry, Sem.run_bind, run_underlying u1, Result.andThen_ok, hob, checkKey_ok' hk u2 u3, findKey_of u2 e4, hq, Option.map_some, Option.getD_some, run_stays q5, q3]
          rw [run_setObj h2 (by intro _ _ _ e; cases e)]; rfl
    · cases hu
  · cases hu

theorem born_sound {b : Nat} : ∀ {es : List (AV × AV × Nat)} {l : List MapEntry} {i j : Nat}, concE σ es = some l → bornA b es i = some j → ∃ k, j = i + k ∧ l.findIdx? (fun e => (e.born : Int) == (b : Int)) = some k
  | [], l, i, j, hl, hb => by simp [bornA] at hb
  | e :: es, l, i, j, hl, hb => by
    obtain ⟨k, v, l', h1, h2, h3, rfl⟩ := concE_cons.1 hl
    simp only [bornA] at hb
    cases hq : Nat.beq e.2.2 b with
    | true =>
      simp [hq] at hb
      have := Nat.eq_of_beq_eq_true hq
      exact ⟨0, hb.symm, by simp [List.findIdx?_cons, this]⟩
    | false =>
      simp [hq] at hb
      obtain ⟨k', e1, e2⟩ := born_sound h3 hb
      have hne : e.2.2 ≠ b := fun q => by simp [q] at hq
      have hne' : ((e.2.2 : Int) == (b : Int)) = false := by simp; omega
      refine ⟨k' + 1, by omega, ?_⟩
      rw [List.findIdx?_cons, hne']
      simp [e2]

theorem entryStore_sound (r : HRel σ h w.heap) {t : TypeId} {m s v : AV} {mx sx vx : Value} (hm : conc σ m = some mx) (hs : conc σ s = some sx) (hv : conc σ v = some vx) {u : AV} {h' : H} (hu : entryStoreA m s v h = some (u, h')) :
    ∃ w', (Instr.entryStore t mx sx vx).run P w = .ok () w' ∧ u = undefA ∧ HRel σ h' w'.heap ∧ Ext σ h w σ h' w' := by
  unfold entryStoreA at hu
  split at hu
  · rename_i rr b hn
    obtain ⟨bb, c, s1, rfl⟩ := conc_map hm
    obtain ⟨k, rfl⟩ := natOf_sound hs hn
    split at hu
    · rename_i es cl hg
      obtain ⟨b', c', x', h1, h2, h3⟩ := r.objs _ _ hg
      rw [s1] at h1; cases h1
      obtain ⟨es', rfl, hes⟩ := h3.inv_map
      have hob := run_getObj (P := P) h2 (by intro _ _ _ e; cases e)
      cases hf : bornA b es 0 with
      | none => simp [hf] at hu
      | some j =>
        simp only [hf, fL_eq, putO_eq] at hu
        cases hu
        obtain ⟨j', e1, e2⟩ := born_sound hes hf
        have e1 : j = j' := by omega
        subst e1
        obtain ⟨g1, g2⟩ := put_set r hg s1 h2 (.map (modA (fun q => (q.1, v, q.2.2)) j es) cl) (.map (es'.modify j fun e => { e with val := vx }) cl) ⟨rfl, by
          rw [toList_modify']
          exact concE_mod (f := fun q => (q.1, v, q.2.2)) (g := fun e => { e with val := vx }) (fun q e h1 _ h3 => ⟨h1, hv, h3⟩) _ hes⟩
        refine ⟨_, ?_, rfl, g1, g2⟩
        have hidx : es'.findIdx? (fun e => (e.born : Int) == (Int.ofNat b)) = some j := by
          have q : es' = es'.toList.toArray := by simp
          rw [q, List.findIdx?_toArray]; exact e2
        simp only [Instr.entryStore, Sem.run_bind, hob, Result.andThen_ok, asInt, asIntOf, Sem.run_pure, hidx]
        exact run_setObj h2 (by intro _ _ _ e; cases e) _
    · cases hu
  · cases hu

theorem delete_sound (hE : EnvOk P E) (r : HRel σ h w.heap) {t : TypeId} {m k : AV} {mx kx : Value} (hm : conc σ m = some mx) (hk : conc σ k = some kx) {u : AV} {h' : H} (hu : deleteA E t m k h = some (u, h')) (ts : List TypeId) (ty : TypeId) :
    ∃ w', (Builtin.delete_ ⟨t :: ts⟩ ty #[mx, kx]).run P w = .ok undef w' ∧ u = undefA ∧ HRel σ h' w'.heap ∧ Ext σ h w σ h' w' := by
  unfold deleteA at hu
  have e1 : (⟨t :: ts⟩ : Array TypeId)[0]? = some t := rfl
  split at hu
  · rename_i e rr hkt
    obtain ⟨kt, d, u1, u2, u3⟩ := keyT_sound hE hkt
    obtain ⟨b, c, s1, rfl⟩ := conc_map hm
    have e3 : (#[Value.map (some b), kx] : Array Value)[0]? = some (Value.map (some b)) := rfl
    have e4 : (#[Value.map (some b), kx] : Array Value)[1]? = some kx := rfl
    split at hu
    · rename_i es cl hg
      obtain ⟨b', c', x', h1, h2, h3⟩ := r.objs _ _ hg
      rw [s1] at h1; cases h1
      obtain ⟨es', rfl, hes⟩ := h3.inv_map
      have hob := run_getObj (P := P) h2 (by intro _ _ _ e; cases e)
      cases hf : findA k es 0 with
      | none => simp [hf] at hu
      | some fr =>
        rcases find_sound hk u3 hes hf with ⟨e1', e2⟩ | ⟨j, v', bn, y', kx', e1', e2, e3', e4', q, q1, q2, q3, q4, q5⟩
        · subst e1'
          simp only [hf] at hu
          cases hu
          have hself : HRel σ h (setW w b (.map es' cl)).heap ∧ Ext σ h w σ h (setW w b (.map es' cl)) := by
            have hlt : b < w.heap.size := (Array.getElem?_eq_some_iff.1 h2).1
            have : (setW w b (.map es' cl)).heap = w.heap := by
              simp only [setW]
              apply Array.ext_getElem?
              intro k
              rw [Array.getElem?_setIfInBounds]
              split
              · subst_vars; first | exact h2.symm | (rw [if_pos hlt]; exact h2.symm)
              · rfl
            refine ⟨by rw [this]; exact r, ⟨rfl, rfl, rfl, by rw [this]; exact Nat.le_refl _, Nat.le_refl _, fun _ _ => rfl, fun _ _ _ => by rw [this], fun i o _ c hi hs _ => ⟨i, o, c, hi, hs⟩⟩⟩
          refine ⟨_, ?_, rfl, hself.1, hself.2⟩
          simp only [Builtin.delete_, e1, e3, e4, Sem.run_bind, run_underlying u1, Result.andThen_ok, hob, checkKey_ok' hk u2 u3, findKey_of u2 e2]
          rw [run_setObj h2 (by intro _ _ _ e; cases e)]; rfl
        · subst e1'
          simp only [hf, fL_eq, putO_eq] at hu
          cases hu
          obtain ⟨g1, g2⟩ := put_set r hg s1 h2 (.map (eraseA (0 + j) es) cl) (.map (es'.eraseIdxIfInBounds (0 + j)) cl) ⟨rfl, by
            rw [concE_erase _ hes]; simp⟩
          refine ⟨_, ?_, rfl, g1, g2⟩
          simp only [Builtin.delete_, e1, e3, e4, Sem.run_bind, run_underlying u1, Result.andThen_ok, hob, checkKey_ok' hk u2 u3, findKey_of u2 e4']
          rw [run_setObj h2 (by intro _ _ _ e; cases e)]; rfl
    · cases hu
  · cases hu

end
end Go.Ev
/- The evaluator's soundness: iterators, texts that share bytes, closing. -/
set_option linter.unusedSimpArgs false
set_option linter.unusedVariables false
namespace Go.Ev

def VSim (P : Program) (σ : Sg) (h : H) (w : World) (s : Sem Value) (v : AV) (h' : H) : Prop :=
  ∃ σ' w' x, s.run P w = .ok x w' ∧ conc σ' v = some x ∧ HRel σ' h' w'.heap ∧ Ext σ h w σ' h' w'

section
variable {P : Program} {E : Env} {σ : Sg} {w : World} {h : H}

theorem blt_true {a b : Nat} : Nat.blt a b = true ↔ a < b := by rw [Nat.blt_eq]
theorem ORel.inv_strIter {c : Nat} {s : List UInt8} {p : Nat} {x : Obj} (h : ORel σ c (.strIter s p) x) : x = .stringIter ⟨⟨s⟩⟩ p := by
  cases x <;> simp only [ORel] at h
  obtain ⟨rfl, rfl⟩ := h; rfl
theorem ORel.inv_mapIter {c : Nat} {m : Option Nat} {since last : Nat} {seen : List Nat} {x : Obj} (h : ORel σ c (.mapIter m since seen last) x) : ∃ m', x = .mapIter m' since ⟨seen⟩ last ∧ conc σ (.map m) = some (.map m') := by
  cases x <;> simp only [ORel] at h
  obtain ⟨h1, rfl, h3, rfl⟩ := h
  refine ⟨_, ?_, h1⟩
  rw [← h3]

theorem new_sound (r : HRel σ h w.heap) (ob : AObj) (x : Obj) (hx : ORel (upd σ h.next (w.heap.size, 0)) 0 ob x) :
    HRel (upd σ h.next (w.heap.size, 0)) ⟨h.next + 1, T.set (some ob) h.t h.next⟩ (w.heap.push x) ∧ Ext σ h w (upd σ h.next (w.heap.size, 0)) ⟨h.next + 1, T.set (some ob) h.t h.next⟩ { w with heap := w.heap.push x } := by
  obtain ⟨g1, g2⟩ := r.alloc ob x 0 hx
  exact ⟨g1, g2 { w with heap := w.heap.push x } rfl rfl rfl rfl⟩

theorem range_sound (hE : EnvOk P E) (r : HRel σ h w.heap) {t : TypeId} {a : AV} {x : Value} (hx : conc σ a = some x) {u : AV} {h' : H} (hu : rangeA E t a h = some (u, h')) :
    VSim P σ h w (Instr.range t x) u h' := by
  unfold rangeA at hu
  cases hg : E.ts.get t with
  | none => simp [hg] at hu
  | some ti =>
    have ht := hE.ts _ _ hg
    simp only [hg] at hu
    split at hu
    · rename_i s hd
      have := conc_str hx; subst this
      simp only [newO_eq] at hu; cases hu
      obtain ⟨g1, g2⟩ := new_sound r (.strIter s 0) (.stringIter ⟨⟨s⟩⟩ 0) ⟨rfl, rfl⟩
      exact ⟨_, _, .pointer (some ⟨w.heap.size, 0, none⟩), by simp [Instr.range, ht.run, hd], by simp [conc, upd_self], g1, g2⟩
    · rename_i k e hd
      have := conc_mapNil hx; subst this
      simp only [newO_eq] at hu; cases hu
      obtain ⟨g1, g2⟩ := new_sound r (.mapIter none 0 [] 0) (.mapIter none 0 #[] 0) ⟨by simp [conc], rfl, rfl, rfl⟩
      exact ⟨_, _, .pointer (some ⟨w.heap.size, 0, none⟩), by simp [Instr.range, ht.run, hd], by simp [conc, upd_self], g1, g2⟩
    · rename_i k e m hd
      obtain ⟨b, c, s1, rfl⟩ := conc_map hx
      split at hu
      · rename_i es cl hm
        obtain ⟨b', c', x', h1, h2, h3⟩ := r.objs _ _ hm
        rw [s1] at h1; cases h1
        obtain ⟨es', rfl, hes⟩ := h3.inv_map
        have hob := run_getObj (P := P) h2 (by intro _ _ _ e; cases e)
        simp only [newO_eq] at hu; cases hu
        have hfr : upd σ h.next (w.heap.size, 0) m = some (b, c) := sub_upd _ (r.fresh _ (Nat.le_refl _)) _ _ s1
        obtain ⟨g1, g2⟩ := new_sound r (.mapIter (some m) cl [] cl) (.mapIter (some b) cl #[] cl) ⟨by simp [conc, hfr], rfl, rfl, rfl⟩
        exact ⟨_, _, .pointer (some ⟨w.heap.size, 0, none⟩), by simp [Instr.range, ht.run, hd, hob], by simp [conc, upd_self], g1, g2⟩
      · cases hu
    · cases hu

theorem next_sound (r : HRel σ h w.heap) {a : AV} {x : Value} (hx : conc σ a = some x) {b : Bool} (ty : TypeId) {u : AV} {h' : H} (hu : nextA a b h = some (u, h')) :
    VSim P σ h w (Instr.next x b ty) u h' := by
  have over : ∀ {s : Sem Value}, s.run P w = .ok (.tuple #[.bool false]) w → VSim P σ h w s (.tuple [.bool false]) h := fun e => ⟨σ, w, _, e, by simp [conc, concL], r, Ext.refl _ _ _⟩
  unfold nextA at hu
  split at hu
  · rename_i rr
    obtain ⟨bk, c, s1, rfl⟩ := conc_ptr hx
    split at hu
    · rename_i s pos hg
      obtain ⟨b', c', x', h1, h2, h3⟩ := r.objs _ _ hg
      rw [s1] at h1; cases h1
      obtain rfl := h3.inv_strIter
      have hob := run_getObj (P := P) h2 (by intro _ _ _ e; cases e)
      cases b with
      | false => cases hu
      | true =>
        simp only [cond_true] at hu
        cases hlt : Nat.blt pos s.length with
        | false =>
          simp [hlt] at hu
          obtain ⟨rfl, rfl⟩ := hu
          refine over ?_
          have : ¬ pos < s.length := fun q => by rw [blt_true.2 q] at hlt; cases hlt
          simp [Instr.next, hob, size_mk, this]
        | true =>
          simp only [hlt, cond_true, fN_eq, putO_eq] at hu
          have hl : pos < s.length := blt_true.1 hlt
          cases hd : Utf8.decode ⟨⟨s⟩⟩ pos with
          | mk ch wd =>
            simp only [hd, fI_eq] at hu
            cases hu
            obtain ⟨g1, g2⟩ := put_set r hg s1 h2 (.strIter s (pos + wd)) (.stringIter ⟨⟨s⟩⟩ (pos + wd)) ⟨rfl, rfl⟩
            refine ⟨σ, _, .tuple #[.bool true, goInt pos, .int .i32 ch], ?_, by simp [conc, concL, goInt], g1, g2⟩
            simp only [Instr.next, Sem.run_bind, hob, Result.andThen_ok, size_mk, hl, if_true, hd]
            rw [run_setObj h2 (by intro _ _ _ e; cases e)]; rfl
    · rename_i since seen last hg
      obtain ⟨b', c', x', h1, h2, h3⟩ := r.objs _ _ hg
      rw [s1] at h1; cases h1
      obtain ⟨m', rfl, hm⟩ := h3.inv_mapIter
      have hob := run_getObj (P := P) h2 (by intro _ _ _ e; cases e)
      cases b with
      | true => cases hu
      | false =>
        simp only [cond_false] at hu
        cases hu
        have := conc_mapNil hm; cases this
        exact over (by simp [Instr.next, hob])
    · rename_i m since seen last hg
      obtain ⟨b', c', x', h1, h2, h3⟩ := r.objs _ _ hg
      rw [s1] at h1; cases h1
      obtain ⟨m', rfl, hm⟩ := h3.inv_mapIter
      obtain ⟨mb, mc, ms1, e⟩ := conc_map hm
      cases e
      have hob := run_getObj (P := P) h2 (by intro _ _ _ e; cases e)
      cases b with
      | true => cases hu
      | false =>
        simp only [cond_false] at hu
        split at hu
        · rename_i es cl hmg
          obtain ⟨b2, c2, x2, k1, k2, k3⟩ := r.objs _ _ hmg
          rw [ms1] at k1; cases k1
          obtain ⟨es', rfl, hes⟩ := k3.inv_map
          have hmo := run_getObj (P := P) k2 (by intro _ _ _ e; cases e)
          split at hu
          · cases hu
            simp only [concE, Option.some.injEq] at hes
            have hes : es' = #[] := by rw [← Array.toList_inj, ← hes]
            subst hes
            refine over ?_
            simp [Instr.next, hob, hmo, Question.forced, Question.cut]
          · rename_i k v bn
            obtain ⟨kx, vx, l', q1, q2, q3, q4⟩ := concE_cons.1 hes
            simp only [concE, Option.some.injEq] at q3
            subst q3
            have hes : es' = #[{ key := kx, val := vx, born := bn }] := by rw [← Array.toList_inj, q4]
            subst hes
            cases hbn : Nat.blt bn since with
            | false => simp [hbn] at hu
            | true =>
              have hbn := blt_true.1 hbn
              simp only [blt_true.2 hbn, cond_true, putO_eq] at hu
              cases hu
              obtain ⟨g1, g2⟩ := put_set r hg s1 h2 (.mapIter (some m) since [bn] cl) (.mapIter (some mb) since #[bn] cl) ⟨by simp [conc, ms1], rfl, rfl, rfl⟩
              refine ⟨σ, _, .tuple #[.bool true, kx, vx], ?_, by simp [conc, concL, q1, q2], g1, g2⟩
              have hn : ¬ since ≤ bn := by omega
              simp [Instr.next, hob, hmo, hbn, hn, Question.forced, Question.cut, run_setObj h2]
          · rename_i k v bn b'
            obtain ⟨kx, vx, l', q1, q2, q3, q4⟩ := concE_cons.1 hes
            simp only [concE, Option.some.injEq] at q3
            subst q3
            have hes : es' = #[{ key := kx, val := vx, born := bn }] := by rw [← Array.toList_inj, q4]
            subst hes
            cases hbn : (Nat.beq bn b' && Nat.blt bn last) with
            | false => simp [hbn] at hu
            | true =>
              simp only [hbn, cond_true] at hu
              cases hu
              simp only [Bool.and_eq_true] at hbn
              have e1 := Nat.eq_of_beq_eq_true hbn.1
              have e2 := blt_true.1 hbn.2
              subst e1
              refine over ?_
              have hn : ¬ last ≤ bn := by omega
              simp [Instr.next, hob, hmo, e2, hn, Question.forced, Question.cut]
          · cases hu
        · cases hu
    · cases hu
  · cases hu

theorem close_sound (r : HRel σ h w.heap) {rr c : Nat} {buf : List AV} (hg : h.t.get rr = some (.chan c buf false)) {x : Value} (hx : conc σ (.chan (some rr)) = some x) (ats : Array TypeId) (ty : TypeId) :
    VSim P σ h w (Builtin.close_ ats ty #[x]) undefA ⟨h.next, T.set (some (.chan c buf true)) h.t rr⟩ := by
  obtain ⟨b, c', s1, rfl⟩ := conc_chan hx
  obtain ⟨b', c', x', h1, h2, h3⟩ := r.objs _ _ hg
  rw [s1] at h1; cases h1
  obtain ⟨buf', s, rc, rfl, hb⟩ := h3.inv_chan
  have hob := run_getObj (P := P) h2 (by intro _ _ _ e; cases e)
  obtain ⟨g1, g2⟩ := put_set r hg s1 h2 (.chan c buf true) (.chan c buf' true s rc false) ⟨rfl, hb, rfl, rfl⟩
  refine ⟨σ, _, .tuple #[], ?_, by simp [conc, concL, undefA], g1, g2⟩
  obtain ⟨k, hk1, hk2⟩ : ∃ k : Obj → Sem Value, Builtin.close_ ats ty #[.chan (some b)] = (getObj b >>= k) ∧ k (.chan c buf' false s rc false) = (setObj b (.chan c buf' true s rc false) >>= fun _ => pure (.tuple #[])) := ⟨_, rfl, rfl⟩
  rw [hk1]
  simp only [Sem.run_bind, hob, Result.andThen_ok, hk2]
  rw [run_setObj h2 (by intro _ _ _ e; cases e)]; rfl

/-! a text that shares its bytes -/
theorem run_loadBytes {b : Nat} {e : TypeId} {fz : Nat × Nat} {cs : Array Value} (hb : w.heap[b]? = some (.cells cs e fz)) :
    ∀ (ns : List Nat) (o : Nat) (acc : List UInt8) (tl : List Value), cs.toList.drop o = ns.map (fun n => Value.int .u8 (Int.ofNat n)) ++ tl →
    (loadBytes ⟨b, o, none⟩ ⟨⟨acc⟩⟩ ns.length).run P w = .ok ⟨⟨acc ++ ns.map UInt8.ofNat⟩⟩ w
  | [], o, acc, tl, h => by simp [loadBytes]
  | n :: ns, o, acc, tl, h => by
    have h1 : cs[o]? = some (.int .u8 (Int.ofNat n)) := by
      have : (cs.toList.drop o)[0]? = some (.int .u8 (Int.ofNat n)) := by rw [h]; simp
      simpa using this
    have h2 : cs.toList.drop (o + 1) = ns.map (fun n => Value.int .u8 (Int.ofNat n)) ++ tl := by
      rw [← List.drop_drop, h]; simp
    have ih := run_loadBytes hb ns (o + 1) (acc ++ [UInt8.ofNat n]) tl h2
    have hp : (⟨⟨acc⟩⟩ : ByteArray).push (UInt8.ofNat n) = ⟨⟨acc ++ [UInt8.ofNat n]⟩⟩ := by simp [ByteArray.push]
    simp only [List.length_cons, loadBytes, Sem.run_bind, run_load, cell_of hb, h1, Result.andThen_ok, add_addr, Int.ofNat_eq_natCast, Int.toNat_natCast]
    rw [show Nat.toUInt8 n = UInt8.ofNat n from rfl, hp, ih]
    simp

theorem depth_pos (P : Program) : ∃ d, P.depth = d + 1 := ⟨_, rfl⟩

theorem unsafeString_sound (hE : EnvOk P E) (r : HRel σ h w.heap) {t : TypeId} {p n : AV} {px nx : Value} (hp : conc σ p = some px) (hn : conc σ n = some nx) {u : AV} {h' : H} (hu : unsafeStringA E t p n h = some (u, h')) (ts : List TypeId) (ty : TypeId) :
    VSim P σ h w (Builtin.unsafeString_ ⟨t :: ts⟩ ty #[px, nx]) u h' := by
  have hts : (⟨t :: ts⟩ : Array TypeId)[0]? = some t := rfl
  unfold unsafeStringA at hu
  split at hu
  · rename_i hnn
    rename Option (Nat × Nat) => a
    cases hu
    have hnn : natOf n = some 0 := by assumption
    obtain ⟨k, rfl⟩ := natOf_sound hn hnn
    refine ⟨σ, w, .string .empty, ?_, by simp [conc]; rfl, r, Ext.refl _ _ _⟩
    rcases a with _ | ⟨i, o⟩
    · have : px = .pointer none := by simp [conc] at hp; exact hp.symm
      subst this
      refine Eq.trans (congrArg (fun s => Sem.run P s w) (show Builtin.unsafeString_ ⟨t :: ts⟩ ty #[.pointer none, .int k (Int.ofNat 0)] = asInt (.int k (Int.ofNat 0)) >>= _ from rfl)) ?_
      simp [asInt, asIntOf, hts, imax]
    · obtain ⟨b, c, s1, rfl⟩ := conc_ptr hp
      refine Eq.trans (congrArg (fun s => Sem.run P s w) (show Builtin.unsafeString_ ⟨t :: ts⟩ ty #[.pointer (some ⟨b, o, none⟩), .int k (Int.ofNat 0)] = asInt (.int k (Int.ofNat 0)) >>= _ from rfl)) ?_
      simp [asInt, asIntOf, hts, imax]
  · rename_i m i hm0 hnn
    obtain ⟨k, rfl⟩ := natOf_sound hn hnn
    obtain ⟨b, c, s1, rfl⟩ := conc_ptr hp
    split at hu
    · rename_i cs e ext wr hg
      cases hbs : (E.bs t e && Nat.ble m 1000000) with
      | false => rw [hbs] at hu; cases hu
      | true =>
        rw [hbs] at hu; simp only [cond_true] at hu
        simp only [Bool.and_eq_true] at hbs
        obtain ⟨z1, tu, z2, z3⟩ := hE.bs t e hbs.1
        have hle := Nat.le_of_ble_eq_true hbs.2
        cases hsub : sub 0 m cs with
        | none => simp [hsub] at hu
        | some l =>
          cases hby : bytesOf l with
          | none => simp [hsub, hby] at hu
          | some s =>
            simp only [hsub, hby, putO_eq] at hu
            cases hu
            obtain ⟨b', c', x', h1, h2, h3⟩ := r.objs i _ hg
            rw [s1] at h1; cases h1
            obtain ⟨cs', fz, ll, rr, rfl, hll, hcs, hext, hfz⟩ := h3.inv_cells
            have hlen := concL_length hll
            obtain ⟨e1, e2⟩ := sub_eq hsub
            have hm : m ≠ 0 := fun q => by subst q; exact hm0 rfl
            have hml : m ≤ cs.length := by rcases e2 with e2 | e2 <;> omega
            have hcl : cs'.size = ll.length + rr.length := by rw [← Array.length_toList, hcs]; simp
            obtain ⟨ns, en, es⟩ := bytes_sound (concL_sub hll hsub) hby
            simp only [List.drop_zero] at en
            have hnl : ns.length = m := by
              have := congrArg List.length en
              simp at this; omega
            have hcd : cs'.toList.drop 0 = ns.map (fun n => Value.int .u8 (Int.ofNat n)) ++ (ll.drop m ++ rr) := by
              rw [← en, hcs, List.drop_zero, ← List.append_assoc, List.take_append_drop]
            have hlb := run_loadBytes (P := P) h2 ns 0 [] _ hcd
            rw [hnl, ← es] at hlb
            have hva : (variablesAt ⟨b, 0, none⟩ tu m).run P w = .ok true w := by
              obtain ⟨d, hd⟩ := depth_pos P
              simp only [variablesAt, program, Sem.run_bind, Sem.run, Result.andThen_ok, run_shape, shape_of h2, z1, Nat.div_one, Sem.run_pure]
              have : liesAt P P.depth e cs'.size 0 tu m = true := by
                have hmc : m ≤ cs'.size := by omega
                rw [hd] at z3 ⊢
                unfold liesAt
                rw [hd]
                unfold rowAt
                simp [z1, hmc, z3]
              rw [this]
            have hlt : b < w.heap.size := (Array.getElem?_eq_some_iff.1 h2).1
            have hfrz : ∃ fz', (w.freeze ⟨b, 0, none⟩ m) = setW w b (.cells cs' e fz') := by
              refine ⟨if fz.1 == fz.2 then (0, 0 + m) else (min fz.1 0, max fz.2 (0 + m)), ?_⟩
              simp only [World.freeze, if_neg hm, setW]
              congr 1
              apply Array.ext_getElem?
              intro k
              rw [Array.getElem?_modify, Array.getElem?_setIfInBounds]
              by_cases hk : b = k
              · subst hk
                simp only [if_true, h2, hlt]
                rfl
              · simp only [if_neg hk]
            obtain ⟨fz', hfrz⟩ := hfrz
            obtain ⟨g1, g2⟩ := put_set r hg s1 h2 (.cells cs e ext false) (.cells cs' e fz') ⟨ll, hll, ⟨rr, hcs⟩, rfl, by simpa using hext, fun q => by cases q⟩
            refine ⟨σ, setW w b (.cells cs' e fz'), .string ⟨⟨s⟩⟩, ?_, by simp [conc], g1, g2⟩
            have hni : ¬ ((m : Int) < 0) := by omega
            have hnx : ¬ ((m : Int) > 9223372036854775807) := by omega
            have hnz : ¬ ((m : Int) = 0) := by omega
            refine Eq.trans (congrArg (fun s => Sem.run P s w) (show Builtin.unsafeString_ ⟨t :: ts⟩ ty #[.pointer (some ⟨b, 0, none⟩), .int k (Int.ofNat m)] = asInt (.int k (Int.ofNat m)) >>= _ from rfl)) ?_
            simp only [asInt, asIntOf, Sem.run_bind, Sem.run_pure, Result.andThen_ok, hts, imax, Int.ofNat_eq_natCast, hni, hnx, hnz, if_false, elemOf, run_underlying z2, hva, if_true, Int.toNat_natCast]
            rw [show (ByteArray.empty) = (⟨⟨[]⟩⟩ : ByteArray) from rfl, hlb]
            simp only [Result.andThen_ok, run_freeze, hfrz, Sem.run_pure, Sem.run_bind, List.nil_append]
    · cases hu
  · cases hu

end
end Go.Ev
