/- The evaluator's soundness: operations that write memory. -/
import Derived.Test.YtaodaeehndocgaaGreatEvJ
set_option linter.unusedSimpArgs false
set_option linter.unusedVariables false
namespace Go.Ev

/-- what an operation gives: a value, or nothing -/
def Gives (r : Result Next) (x : Value) (w' : World) : Prop := r = .ok (.value x) w' ∨ (r = .ok .skip w' ∧ x = undef)
def Sim (P : Program) (σ : Sg) (h : H) (w : World) (s : Sem Next) (v : AV) (h' : H) : Prop :=
  ∃ σ' w' x, Gives (s.run P w) x w' ∧ conc σ' v = some x ∧ HRel σ' h' w'.heap ∧ Ext σ h w σ' h' w'
theorem conc_undef (σ : Sg) : conc σ undefA = some undef := by simp [undefA, undef, conc, concL]

section
variable {P : Program} {E : Env} {σ : Sg} {w : World} {h : H}

theorem sim_alloc (r : HRel σ h w.heap) {s : Sem Next} {ob : AObj} {mk : Nat → AV} (a : Alloc P σ w s ob mk) : Sim P σ h w s (mk h.next) ⟨h.next + 1, T.set (some ob) h.t h.next⟩ := by
  obtain ⟨x, w', obj, c, h1, h2, h3, h4, h5, h6⟩ := a
  obtain ⟨e1, e2⟩ := h6 (upd σ h.next (w.heap.size, c)) h.next (sub_upd _ (r.fresh _ (Nat.le_refl _))) (upd_self _ _ _)
  obtain ⟨g1, g2⟩ := r.alloc ob obj c e1
  exact ⟨_, w', x, .inl h1, e2, by rw [h5]; exact g1, g2 w' h2 h3 h4 h5⟩

def setW (w : World) (b : Nat) (x : Obj) : World := { w with heap := w.heap.setIfInBounds b x }
theorem put_set (r : HRel σ h w.heap) {i b c : Nat} {o₀ : AObj} (hi : h.t.get i = some o₀) (hs : σ i = some (b, c)) {y : Obj} (hb : w.heap[b]? = some y) (o : AObj) (x : Obj) (hx : ORel σ c o x) :
    HRel σ ⟨h.next, T.set (some o) h.t i⟩ (setW w b x).heap ∧ Ext σ h w σ ⟨h.next, T.set (some o) h.t i⟩ (setW w b x) := by
  have hlt : b < w.heap.size := (Array.getElem?_eq_some_iff.1 hb).1
  obtain ⟨g1, g2⟩ := r.put hi hs o x hx (setW w b x) (by simp [setW]) (by simp [setW, hlt]) (fun k hk => by simp only [setW]; rw [Array.getElem?_setIfInBounds_ne (by omega)])
  exact ⟨g1, g2 rfl rfl rfl⟩
theorem run_setObj {b : Nat} {y : Obj} (hb : w.heap[b]? = some y) (hn : ∀ c e f, y ≠ .cells c e f) (x : Obj) : (setObj b x).run P w = .ok () (setW w b x) := by
  simp only [setObj, Sem.run, hb, setW]

/-- memory with a row written -/
theorem run_storeCells {b o : Nat} {e : TypeId} {fz : Nat × Nat} : ∀ (vs : List Value) (i : Nat) (cur : Array Value) (w : World), w.heap[b]? = some (.cells cur e fz) → o + i + vs.length ≤ cur.size →
    (∀ k, k < cur.size → ¬ (fz.1 ≤ k ∧ k < fz.2)) → (∀ v ∈ vs, oneC v = true) →
    ∃ w' cur', (storeCells ⟨b, o, none⟩ vs i).run P w = .ok () w' ∧ w'.heap.size = w.heap.size ∧ w'.heap[b]? = some (.cells cur' e fz) ∧ cur'.toList = cur.toList.take (o + i) ++ vs ++ cur.toList.drop (o + i + vs.length) ∧
      (∀ k, k ≠ b → w'.heap[k]? = w.heap[k]?) ∧ w'.os = w.os ∧ w'.tape = w.tape ∧ w'.output = w.output
  | [], i, cur, w, hb, hl, hf, ho => ⟨w, cur, by simp [storeCells], rfl, hb, by simp, fun _ _ => rfl, rfl, rfl, rfl⟩
  | v :: vs, i, cur, w, hb, hl, hf, ho => by
    simp at hl
    have hlt : o + i < cur.size := by omega
    have hcell : w.cell? ⟨b, o + i, none⟩ = some (cur[o + i]) := by rw [cell_of hb]; simp [hlt]
    have hfr : w.frozen? ⟨b, o + i, none⟩ = false := by
      simp only [World.frozen?, hb]
      have := hf (o + i) hlt
      simp; omega
    have hbl : b < w.heap.size := (Array.getElem?_eq_some_iff.1 hb).1
    have hset : (w.setCell ⟨b, o + i, none⟩ v).heap[b]? = some (.cells (cur.setIfInBounds (o + i) v) e fz) := by
      simp [World.setCell, Array.getElem?_modify, hb]
    have h1v : v.oneCell' = true := by have := ho v (by simp); cases v <;> first | rfl | (simp [oneC] at this)
    obtain ⟨w', cur', e1, e2, e3, e4, e5, e6, e7, e8⟩ := run_storeCells (b := b) (o := o) (e := e) (fz := fz) vs (i + 1) (cur.setIfInBounds (o + i) v) (w.setCell ⟨b, o + i, none⟩ v) hset (by simp; omega) (by simpa using hf) (fun u hu => ho u (by simp [hu]))
    refine ⟨w', cur', ?_, by rw [e2]; simp [World.setCell], e3, ?_, fun k hk => ?_, e6, e7, e8⟩
    · simp only [storeCells, Sem.run_bind, add_addr]
      rw [run_store P w _ v .plain h1v, hcell]
      simp only [hfr, Bool.false_eq_true, if_false, Result.andThen_ok]
      exact e1
    · rw [e4]
      simp only [Array.toList_setIfInBounds]
      have g1 : (cur.toList.set (o + i) v).take (o + (i + 1)) = cur.toList.take (o + i) ++ [v] := by
        rw [show o + (i + 1) = (o + i) + 1 by omega, List.take_succ_eq_append_getElem (by simpa using hlt)]
        simp only [List.getElem_set_self]
        rw [List.take_set, List.set_eq_of_length_le (by simp; omega)]
      have g2 : (cur.toList.set (o + i) v).drop (o + (i + 1) + vs.length) = cur.toList.drop (o + (i + 1) + vs.length) := by rw [List.drop_set_of_lt (by omega)]
      rw [g1, g2]
      simp [show o + (i + 1) + vs.length = o + i + (vs.length + 1) by omega]
    · rw [e5 k hk]
      simp only [World.setCell, Array.getElem?_modify]
      rw [if_neg (fun q => hk q.symm)]

theorem allOne_conc : ∀ {vs : List AV} {xs : List Value}, concL σ vs = some xs → allOne vs = true → ∀ x ∈ xs, oneC x = true
  | [], xs, hv, _ => by rw [concL_nil] at hv; subst hv; simp
  | v :: vs, xs, hv, ho => by
    obtain ⟨a, b, h1, h2, rfl⟩ := concL_cons.1 hv
    simp only [allOne] at ho
    cases h3 : v.one with
    | false => simp [h3] at ho
    | true =>
      simp [h3] at ho
      intro x hx
      simp at hx
      rcases hx with rfl | hx
      · exact conc_one h1 h3
      · exact allOne_conc h2 ho x hx

/-- cells written into a known block -/
theorem write_block (r : HRel σ h w.heap) {i b c : Nat} {cs : List AV} {e : TypeId} {ext : Option Nat} (hi : h.t.get i = some (.cells cs e ext true)) (hs : σ i = some (b, c)) {o : Nat} {vs cs2 : List AV} {xs : List Value}
    (hv : concL σ vs = some xs) (ho : allOne vs = true) (hw : write o vs cs = some cs2) :
    ∃ w', (storeCells ⟨b, o, none⟩ xs).run P w = .ok () w' ∧ HRel σ ⟨h.next, T.set (some (.cells cs2 e ext true)) h.t i⟩ w'.heap ∧ Ext σ h w σ ⟨h.next, T.set (some (.cells cs2 e ext true)) h.t i⟩ w' := by
  obtain ⟨b', c', x', h1, h2, h3⟩ := r.objs i _ hi
  rw [hs] at h1; cases h1
  obtain ⟨cs', fz, l, rr, rfl, hl, hcs, hext, hfz⟩ := h3.inv_cells
  have hlen := concL_length hl
  have hvl := concL_length hv
  have hcl : cs'.size = l.length + rr.length := by rw [← Array.length_toList, hcs]; simp
  rcases write_eq hw with ⟨rfl, rfl⟩ | ⟨hle, rfl⟩
  · rw [concL_nil] at hv; subst hv
    refine ⟨w, by simp [storeCells], ?_, ?_⟩
    · exact (r.put hi hs (.cells cs2 e ext true) _ h3 w rfl h2 (fun _ _ => rfl)).1
    · exact (r.put hi hs (.cells cs2 e ext true) _ h3 w rfl h2 (fun _ _ => rfl)).2 rfl rfl rfl
  · obtain ⟨w', cur', e1, e2, e3, e4, e5, e6, e7, e8⟩ := run_storeCells (P := P) (b := b) (o := o) (e := e) (fz := fz) xs 0 cs' w h2 (by omega) (hfz rfl) (allOne_conc hv ho)
    simp only [Nat.add_zero] at e4
    have hnew : concL σ (cs.take o ++ vs ++ cs.drop (o + vs.length)) = some (l.take o ++ xs ++ l.drop (o + xs.length)) := by
      rw [hvl]; exact concL_append (concL_append (concL_take hl) hv) (concL_drop hl)
    have horel : ORel σ c (.cells (cs.take o ++ vs ++ cs.drop (o + vs.length)) e ext true) (.cells cur' e fz) := by
      have hsz : cur'.size = cs'.size := by
        rw [← Array.length_toList, e4]; simp; omega
      refine ⟨_, hnew, ⟨rr, ?_⟩, rfl, ?_, fun _ k hk => hfz rfl k (by omega)⟩
      · rw [e4, hcs]
        rw [List.take_append_of_le_length (by omega), List.drop_append_of_le_length (by omega)]
        simp
      · rw [hsz]
        cases ext with
        | none => simp only [extOk] at hext ⊢; rw [hext]; simp; omega
        | some z => exact hext
    have hp := r.put hi hs _ _ horel w' e2 e3 e5
    exact ⟨w', e1, hp.1, hp.2 e6 e7 e8⟩

theorem store_sound (hE : EnvOk P E) (r : HRel σ h w.heap) {t : TypeId} {x : TI} (ht : TOk P t x) {i o b c : Nat} (hs : σ i = some (b, c)) {v : AV} {xv : Value} (hv : conc σ v = some xv) {u : AV} {h' : H} (hst : storeA x h i o v = some (u, h')) :
    ∃ w', (storeVar t ⟨b, o, none⟩ xv).run P w = .ok () w' ∧ u = undefA ∧ HRel σ h' w'.heap ∧ Ext σ h w σ h' w' := by
  unfold storeA at hst
  split at hst
  · rename_i cs e ext hg
    cases hc : (Nat.beq v.cells.length x.size && allOne v.cells) with
    | false => rw [hc] at hst; cases hst
    | true =>
      rw [hc] at hst; simp only [cond_true] at hst
      simp only [Bool.and_eq_true] at hc
      have hsz := Nat.eq_of_beq_eq_true hc.1
      cases hw : write o v.cells cs with
      | none => simp [hw] at hst
      | some cs2 =>
        simp [hw, putO_eq] at hst
        obtain ⟨rfl, rfl⟩ := hst
        have hcl := conc_cells hv
        obtain ⟨w', e1, e2, e3⟩ := write_block (P := P) r hg hs hcl hc.2 hw
        refine ⟨w', ?_, rfl, e2, e3⟩
        have hl := concL_length hcl
        have hs2 : xv.cells.size = x.size := by simp at hl; omega
        simp only [storeVar, Sem.run_bind, ht.size, Result.andThen_ok, hs2, ne_eq, not_true_eq_false, if_false]
        exact e1
  · cases hst

/-! append -/
theorem growBy_le (need : Nat) : ∀ (n c : Nat), c < need → Builtin.growBy need n c ≤ 2 * need + 1000
  | 0, c, h => by simp [Builtin.growBy]; omega
  | n + 1, c, h => by
    unfold Builtin.growBy
    split
    · omega
    · by_cases h2 : c + (c + 768) / 4 < need
      · exact growBy_le need n _ h2
      · cases n with
        | zero => simp [Builtin.growBy]; omega
        | succ n => unfold Builtin.growBy; rw [if_pos (by omega)]; omega
theorem nextslicecap_le {need old : Nat} (h : old < need) : Builtin.nextslicecap need old ≤ 2 * need + 1000 := by
  unfold Builtin.nextslicecap
  split
  · omega
  · split
    · omega
    · exact growBy_le need 4 old h

theorem firstCells_sound (r : HRel σ h w.heap) {x : AV} {xv : Value} (hx : conc σ x = some xv) {size n : Nat} {l : List AV} (hl : firstCellsA h size n x = some l) :
    ∃ xs, (Builtin.firstCells size n xv).run P w = .ok ⟨xs⟩ w ∧ concL σ l = some xs := by
  unfold firstCellsA at hl
  split at hl
  · rename_i i o len c
    obtain ⟨b, c', s1, rfl⟩ := conc_slice hx
    split at hl
    · rename_i cs e ext wr hg
      obtain ⟨b', c'', x', h1, h2, h3⟩ := r.objs i _ hg
      rw [s1] at h1; cases h1
      obtain ⟨cs', fz, ll, rr, rfl, hll, hcs, _, _⟩ := h3.inv_cells
      have hlen := concL_length hll
      obtain ⟨_, e2⟩ := sub_eq hl
      refine ⟨(ll.drop o).take (n * size), ?_, concL_sub hll hl⟩
      simp only [Builtin.firstCells, loadCells]
      rw [run_cells h2 (n * size) 0 #[] ((ll.drop o).take (n * size))]
      · simp
      · rw [hcs]; simp only [Nat.add_zero]
        rcases e2 with e2 | e2
        · rw [List.drop_append_of_le_length (by omega), List.take_append_of_le_length (by simp; omega)]
        · rw [e2]; simp
      · rcases e2 with e2 | e2
        · simp; omega
        · simp [e2]
    · cases hl
  · obtain ⟨_, _, rfl⟩ := conc_sliceNil hx
    cases hl
    exact ⟨[], by simp [Builtin.firstCells], by simp [concL]⟩
  · rename_i s
    have := conc_str hx; subst this
    cases ht : takeN n s with
    | none => simp [ht] at hl
    | some m =>
      simp [ht] at hl; subst hl
      obtain ⟨rfl, _⟩ := takeN_eq ht
      refine ⟨(s.take n).map fun b => .int .u8 (Int.ofNat b.toNat), ?_, concL_cellsOfBytes σ _⟩
      simp [Builtin.firstCells, extract_mk]
  · cases hl

theorem lenOf_sound {x : AV} {xv : Value} (hx : conc σ x = some xv) {n : Nat} (hl : lenOfA x = some n) : (Builtin.lenOf xv).run P w = .ok n w := by
  cases x <;> simp only [lenOfA] at hl <;> try (cases hl; done)
  · have := conc_str hx; subst this; cases hl; simp [Builtin.lenOf, size_mk]
  · rename_i a len c
    cases hl
    rcases a with _ | ⟨i, o⟩
    · obtain ⟨_, _, rfl⟩ := conc_sliceNil hx; simp [Builtin.lenOf]
    · obtain ⟨_, _, _, rfl⟩ := conc_slice hx; simp [Builtin.lenOf]

theorem HRel.rename (r : HRel σ h w.heap) {i b c : Nat} {o₀ : AObj} (hi : h.t.get i = some o₀) (hs : σ i = some (b, c)) (o : AObj) (x : Obj) (hx : ORel (upd σ h.next (b, c)) c o x)
    (w' : World) (hsz : w'.heap.size = w.heap.size) (hb : w'.heap[b]? = some x) (hk : ∀ k, k ≠ b → w'.heap[k]? = w.heap[k]?) :
    HRel (upd σ h.next (b, c)) ⟨h.next + 1, T.set (some o) (T.set none h.t i) h.next⟩ w'.heap ∧ (w'.os = w.os → w'.tape = w.tape → w'.output = w.output → Ext σ h w (upd σ h.next (b, c)) ⟨h.next + 1, T.set (some o) (T.set none h.t i) h.next⟩ w') := by
  have hsub : Sub σ (upd σ h.next (b, c)) := sub_upd _ (r.fresh _ (Nat.le_refl _))
  have hlt := r.lt hi
  have old : ∀ j o', j ≠ h.next → (T.set (some o) (T.set none h.t i) h.next).get j = some o' → j ≠ i ∧ h.t.get j = some o' := fun j o' hj hg => by
    rw [get_set, if_neg hj, get_set] at hg
    by_cases e : j = i
    · subst e; simp at hg
    · simp [e] at hg; exact ⟨e, hg⟩
  have notb : ∀ j o' c', j ≠ i → h.t.get j = some o' → σ j = some (b, c') → False := fun j o' c' hj hg hsj => hj (r.inj j i o' o₀ b c' c hg hi hsj hs)
  refine ⟨⟨fun j hj => ?_, fun j o' hj => ?_, fun j k o₁ o₂ b' c₁ c₂ hj hk' hsj hsk => ?_⟩, fun h1 h2 h3 => ⟨h1, h2, h3, by omega, by simp, fun j hj => ?_, fun k hk' hn => ?_, fun j o' k c' hj hsj hk' => ?_⟩⟩
  · simp only at hj; rw [upd_ne σ _ (by omega)]; exact r.fresh j (by omega)
  · by_cases e : j = h.next
    · subst e
      simp only [get_set, if_true] at hj
      cases hj
      exact ⟨b, c, x, upd_self _ _ _, hb, hx⟩
    · obtain ⟨e1, e2⟩ := old j o' e hj
      obtain ⟨b', c', x', g1, g2, g3⟩ := r.objs j o' e2
      refine ⟨b', c', x', by rw [upd_ne σ _ e]; exact g1, ?_, g3.mono hsub⟩
      rw [hk b' (fun q => by subst q; exact notb j o' c' e1 e2 g1)]; exact g2
  · by_cases ej : j = h.next <;> by_cases ek : k = h.next
    · omega
    · subst ej
      rw [upd_self] at hsj; cases hsj
      rw [upd_ne σ _ ek] at hsk
      obtain ⟨e1, e2⟩ := old k o₂ ek hk'
      exact (notb k o₂ c₂ e1 e2 hsk).elim
    · subst ek
      rw [upd_self] at hsk; cases hsk
      rw [upd_ne σ _ ej] at hsj
      obtain ⟨e1, e2⟩ := old j o₁ ej hj
      exact (notb j o₁ c₁ e1 e2 hsj).elim
    · rw [upd_ne σ _ ej] at hsj; rw [upd_ne σ _ ek] at hsk
      exact r.inj j k o₁ o₂ b' c₁ c₂ (old j o₁ ej hj).2 (old k o₂ ek hk').2 hsj hsk
  · rw [upd_ne σ _ (by omega)]
  · exact hk k (fun q => by subst q; exact hn i o₀ c hi hs)
  · by_cases e : j = h.next
    · subst e; rw [upd_self] at hsj; cases hsj; exact ⟨i, o₀, c, hi, hs⟩
    · rw [upd_ne σ _ e] at hsj; exact ⟨j, o', c', (old j o' e hj).2, hsj⟩

end
end Go.Ev
