/- The evaluator's soundness: copy, maps that are written, iterators, unsafe strings. -/
import Derived.Test.YtaodaeehndocgaaGreatEvL
set_option linter.unusedSimpArgs false
set_option linter.unusedVariables false
namespace Go.Ev

section
variable {P : Program} {E : Env} {σ : Sg} {w : World} {h : H}

theorem copy_sound (hE : EnvOk P E) (r : HRel σ h w.heap) {t : TypeId} {d s : AV} {dv sv : Value} (hdv : conc σ d = some dv) (hsv : conc σ s = some sv) {v : AV} {h' : H} (hc : copyA E t d s h = some (v, h')) (ts : List TypeId) (ty : TypeId) :
    ∃ w' y, (Builtin.copy_ ⟨t :: ts⟩ ty #[dv, sv]).run P w = .ok y w' ∧ conc σ v = some y ∧ HRel σ h' w'.heap ∧ Ext σ h w σ h' w' := by
  unfold copyA at hc
  split at hc
  · rename_i ti base dLen cap m hts0 hm
    have hts := hE.ts _ _ hts0
    have hn := lenOf_sound (P := P) (w := w) hsv hm
    split at hc
    · rename_i e hd
      cases hy0 : E.ts.get e with
      | none => simp [hy0] at hc
      | some y =>
        have hty := hE.ts _ _ hy0
        simp only [hy0, fN_eq] at hc
        cases hf : firstCellsA h y.size (Nat.min m dLen) s with
        | none => simp [hf] at hc
        | some new =>
          obtain ⟨nx, hnx1, hnx2⟩ := firstCells_sound (P := P) r hsv hf
          simp only [hf] at hc
          cases hcc : (allOne new && Nat.beq new.length (Nat.min m dLen * y.size)) with
          | false => rw [hcc] at hc; cases hc
          | true =>
            rw [hcc] at hc; simp only [cond_true] at hc
            simp only [Bool.and_eq_true] at hcc
            have e1 : (⟨t :: ts⟩ : Array TypeId)[0]? = some t := rfl
            rcases base with _ | ⟨i, o⟩
            · obtain ⟨k, _, rfl⟩ := conc_sliceNil hdv
              cases hc
              refine ⟨w, goInt (Nat.min m dLen), ?_, by simp [conc, goInt], r, Ext.refl _ _ _⟩
              unfold Builtin.copy_
              have e3 : (#[Value.slice none dLen k, sv] : Array Value)[0]? = some (Value.slice none dLen k) := rfl
              have e4 : (#[Value.slice none dLen k, sv] : Array Value)[1]? = some sv := rfl
              simp only [e1, e3, e4, Sem.run_bind, hts.run, hd, Result.andThen_ok, hn, hty.size, hnx1, Sem.run_pure]
            · obtain ⟨b, c', s1, rfl⟩ := conc_slice hdv
              simp only at hc
              split at hc
              · rename_i cs e' ext hgi
                cases hw : write o new cs with
                | none => simp [hw] at hc
                | some cs2 =>
                  simp only [hw, putO_eq] at hc
                  cases hc
                  obtain ⟨w', q1, q2, q3⟩ := write_block (P := P) r hgi s1 hnx2 hcc.1 hw
                  refine ⟨w', goInt (Nat.min m dLen), ?_, by simp [conc, goInt], q2, q3⟩
                  unfold Builtin.copy_
                  have e3 : (#[Value.slice (some ⟨b, o, none⟩) dLen (cap.getD c'), sv] : Array Value)[0]? = some (Value.slice (some ⟨b, o, none⟩) dLen (cap.getD c')) := rfl
                  have e4 : (#[Value.slice (some ⟨b, o, none⟩) dLen (cap.getD c'), sv] : Array Value)[1]? = some sv := rfl
                  simp only [e1, e3, e4, Sem.run_bind, hts.run, hd, Result.andThen_ok, hn, hty.size, hnx1, Sem.run_pure]
                  rw [q1]; rfl
              · cases hc
    · cases hc
  · cases hc

/-! maps -/
theorem sameBits_of {d : TypeDesc} {x y : Value} (h : Instr.sameNow d x y = some true) : Instr.sameBits 10000 y x = true := by
  cases d <;> cases x <;> cases y <;> simp [Instr.sameNow] at h
  · subst h; simp [Instr.sameBits]
  · obtain ⟨rfl, rfl⟩ := h; simp [Instr.sameBits]
  · rename_i a b
    have e : a = b := by
      rw [beq_toListBytes] at h
      have h := eq_of_beq h
      rw [ByteArray.toList_eq, ByteArray.toList_eq] at h
      obtain ⟨⟨a⟩⟩ := a; obtain ⟨⟨b⟩⟩ := b
      simp at h; subst h; rfl
    subst e
    simp only [Instr.sameBits, beq_toListBytes, beq_self_eq_true]
theorem run_stays {d : TypeDesc} {x y : Value} (h : Instr.sameNow d x y = some true) : (Instr.keyThatStays y x).run P w = .ok x w := by
  simp [Instr.keyThatStays, sameBits_of h]

theorem concE_mod {f : AV × AV × Nat → AV × AV × Nat} {g : MapEntry → MapEntry} (hfg : ∀ q e, conc σ q.1 = some e.key → conc σ q.2.1 = some e.val → q.2.2 = e.born → conc σ (f q).1 = some (g e).key ∧ conc σ (f q).2.1 = some (g e).val ∧ (f q).2.2 = (g e).born) :
    ∀ {es : List (AV × AV × Nat)} {l : List MapEntry} (i : Nat), concE σ es = some l → concE σ (modA f i es) = some (l.modify i g)
  | [], l, i, hl => by simp [concE] at hl; subst hl; cases i <;> simp [modA, concE]
  | e :: es, l, 0, hl => by
    obtain ⟨k, v, l', h1, h2, h3, rfl⟩ := concE_cons.1 hl
    obtain ⟨q1, q2, q3⟩ := hfg e { key := k, val := v, born := e.2.2 } h1 h2 rfl
    simp only [modA, List.modify_zero_cons]
    refine concE_cons.2 ⟨_, _, _, q1, q2, h3, ?_⟩
    rw [q3]
  | e :: es, l, i + 1, hl => by
    obtain ⟨k, v, l', h1, h2, h3, rfl⟩ := concE_cons.1 hl
    simp only [modA, List.modify_succ_cons]
    exact concE_cons.2 ⟨k, v, _, h1, h2, concE_mod hfg i h3, rfl⟩
theorem concE_snoc : ∀ {es : List (AV × AV × Nat)} {l : List MapEntry} {k v : AV} {kx vx : Value} {b : Nat}, concE σ es = some l → conc σ k = some kx → conc σ v = some vx → concE σ (es ++ [(k, v, b)]) = some (l ++ [{ key := kx, val := vx, born := b }])
  | [], l, k, v, kx, vx, b, hl, hk, hv => by simp [concE] at hl; subst hl; simp [concE, hk, hv]
  | e :: es, l, k, v, kx, vx, b, hl, hk, hv => by
    obtain ⟨k', v', l', h1, h2, h3, rfl⟩ := concE_cons.1 hl
    exact concE_cons.2 ⟨k', v', _, h1, h2, concE_snoc h3 hk hv, rfl⟩
theorem concE_erase : ∀ {es : List (AV × AV × Nat)} {l : List MapEntry} (i : Nat), concE σ es = some l → concE σ (eraseA i es) = some (l.eraseIdx i)
  | [], l, i, hl => by simp [concE] at hl; subst hl; cases i <;> simp [eraseA, concE]
  | e :: es, l, 0, hl => by
    obtain ⟨k, v, l', h1, h2, h3, rfl⟩ := concE_cons.1 hl
    simpa [eraseA] using h3
  | e :: es, l, i + 1, hl => by
    obtain ⟨k, v, l', h1, h2, h3, rfl⟩ := concE_cons.1 hl
    simp only [eraseA, List.eraseIdx_cons_succ]
    exact concE_cons.2 ⟨k, v, _, h1, h2, concE_erase i h3, rfl⟩

theorem toList_modify' (a : Array MapEntry) (i : Nat) (f : MapEntry → MapEntry) : (a.modify i f).toList = a.toList.modify i f := by
  apply List.ext_getElem?
  intro j
  rw [Array.getElem?_toList, Array.getElem?_modify, List.getElem?_modify, Array.getElem?_toList]
  split <;> simp_all

theorem mapUpdate_sound (hE : EnvOk P E) (r : HRel σ h w.heap) {t : TypeId} {m k v : AV} {mx kx vx : Value} (hm : conc σ m = some mx) (hk : conc σ k = some kx) (hv : conc σ v = some vx) {u : AV} {h' : H} (hu : mapUpdateA E t m k v h = some (u, h')) :
    ∃ w', (Instr.mapUpdate t mx kx vx).run P w = .ok () w' ∧ u = undefA ∧ HRel σ h' w'.heap ∧ Ext σ h w σ h' w' := by
  unfold mapUpdateA at hu
  split at hu
  · rename_i e rr hkt
    obtain ⟨kt, d, u1, u2, u3⟩ := keyT_sound hE hkt
    obtain ⟨b, c, s1, rfl⟩ := conc_map hm
    split at hu
    · rename_i es cl hg
      obtain ⟨b', c', x', h1, h2, h3⟩ := r.objs _ _ hg
      rw [s1] at h1; cases h1
      obtain ⟨es', rfl, hes⟩ := h3.inv_map
      have hob := run_getObj (P := P) h2 (by intro _ _ _ e; cases e)
      cases hf : findA k es 0 with
      | none => simp [hf] at hu
      | some fr =>
        rcases find_sound hk u3 hes hf with ⟨e1, e2⟩ | ⟨j, v', bn, y', kx', e1, e2, e3, e4, q, q1, q2, q3, q4, q5⟩
        · subst e1
          simp only [hf, fL_eq, fN_eq, putO_eq] at hu
          cases hu
          obtain ⟨g1, g2⟩ := put_set r hg s1 h2 (.map (es ++ [(k, v, cl)]) (cl + 1)) (.map (es'.push { key := kx, val := vx, born := cl }) (cl + 1)) ⟨rfl, by rw [concE_snoc hes hk hv]; simp⟩
          refine ⟨_, ?_, rfl, g1, g2⟩
          simp only [Instr.mapUpdate, Sem.run_bind, run_underlying u1, Result.andThen_ok, hob, checkKey_ok' hk u2 u3, findKey_of u2 e2]
          exact run_setObj h2 (by intro _ _ _ e; cases e) _
        · subst e1
          simp only [hf, fL_eq, fN_eq, putO_eq] at hu
          cases hu
          obtain ⟨g1, g2⟩ := put_set r hg s1 h2 (.map (modA (fun q => (k, v, q.2.2)) (0 + j) es) cl) (.map (es'.modify (0 + j) fun e => { e with key := kx, val := vx }) cl) ⟨rfl, by
            rw [toList_modify']
            exact concE_mod (f := fun q => (k, v, q.2.2)) (g := fun e => { e with key := kx, val := vx }) (fun q e _ _ h3 => ⟨hk, hv, h3⟩) _ hes⟩
          refine ⟨_, ?_, rfl, g1, g2⟩
          have hq : es'[0 + j]? = some q := by simpa using q1
          simp only [Instr.mapUpdate, Sem.run_bind, run_underlying u1, Result.andThen_ok, hob, checkKey_ok' hk u2 u3, findKey_of u2 e4, hq, Option.map_some, Option.getD_some, run_stays q5]
          exact run_setObj h2 (by intro _ _ _ e; cases e) _
    · cases hu
  · cases hu

theorem mapEntry_sound (hE : EnvOk P E) (r : HRel σ h w.heap) {t : TypeId} {m k : AV} {mx kx : Value} (hm : conc σ m = some mx) (hk : conc σ k = some kx) {u : AV} {h' : H} (hu : mapEntryA E t m k h = some (u, h')) :
    ∃ w' y, (Instr.mapEntry t mx kx).run P w = .ok y w' ∧ conc σ u = some y ∧ HRel σ h' w'.heap ∧ Ext σ h w σ h' w' := by
  unfold mapEntryA at hu
  split at hu
  · rename_i e rr hkt
    obtain ⟨b, c, s1, rfl⟩ := conc_map hm
    split at hu
    · rename_i es cl y hg hy0
      have hty := hE.ts _ _ hy0
      obtain ⟨z, hz1, hz2⟩ := hty.zero
      obtain ⟨kt, d, u1, u2, u3⟩ := keyT_sound hE hkt
      obtain ⟨b', c', x', h1, h2, h3⟩ := r.objs _ _ hg
      rw [s1] at h1; cases h1
      obtain ⟨es', rfl, hes⟩ := h3.inv_map
      have hob := run_getObj (P := P) h2 (by intro _ _ _ e; cases e)
      cases hf : findA k es 0 with
      | none => simp [hf] at hu
      | some fr =>
        rcases find_sound hk u3 hes hf with ⟨e1, e2⟩ | ⟨j, v', bn, y', kx', e1, e2, e3, e4, q, q1, q2, q3, q4, q5⟩
        · subst e1
          simp only [hf, fL_eq, fN_eq, putO_eq] at hu
          cases hu
          obtain ⟨g1, g2⟩ := put_set r hg s1 h2 (.map (es ++ [(k, y.zero, cl)]) (cl + 1)) (.map (es'.push { key := kx, val := z, born := cl }) (cl + 1)) ⟨rfl, by rw [concE_snoc hes hk (hz2 σ)]; simp⟩
          refine ⟨_, .tuple #[z, goInt cl], ?_, by simp [conc, concL, hz2, goInt], g1, g2⟩
          simp only [Instr.mapEntry, Sem.run_bind, run_underlying u1, Result.andThen_ok, hob, checkKey_ok' hk u2 u3, findKey_of u2 e2, hz1]
          rw [run_setObj h2 (by intro _ _ _ e; cases e)]; rfl
        · subst e1
          simp only [hf, fL_eq, fN_eq, putO_eq] at hu
          cases hu
          obtain ⟨g1, g2⟩ := put_set r hg s1 h2 (.map (modA (fun q => (k, q.2.1, q.2.2)) (0 + j) es) cl) (.map (es'.modify (0 + j) fun e => { e with key := kx }) cl) ⟨rfl, by
            rw [toList_modify']
            exact concE_mod (f := fun q => (k, q.2.1, q.2.2)) (g := fun e => { e with key := kx }) (fun q e _ h2 h3 => ⟨hk, h2, h3⟩) _ hes⟩
          have hq : es'[0 + j]? = some q := by simpa using q1
          refine ⟨_, .tuple #[y', goInt bn], ?_, by simp [conc, concL, e3, goInt], g1, g2⟩
          simp only [Instr.mapEntry, Sem.run_bind, run_underlying u1, Result.andThen_ok, hob, checkKey_ok' hk u2 u3, findKey_of u2 e4, hq, Option.map_some, Option.getD_some, run_stays q5, q3]
          rw [run_setObj h2 (by intro _ _ _ e; cases e)]; rfl
    · cases hu
  · cases hu

theorem born_sound {b : Nat} : ∀ {es : List (AV × AV × Nat)} {l : List MapEntry} {i j : Nat}, concE σ es = some l → bornA b es i = some j → ∃ k, j = i + k ∧ l.findIdx? (fun e => (e.born : Int) == (b : Int)) = some k
  | [], l, i, j, hl, hb => by simp [bornA] at hb
  | e :: es, l, i, j, hl, hb => by
    obtain ⟨k, v, l', h1, h2, h3, rfl⟩ := concE_cons.1 hl
    simp only [bornA] at hb
    cases hq : Nat.beq e.2.2 b with
    | true =>
      simp [hq] at hb
      have := Nat.eq_of_beq_eq_true hq
      exact ⟨0, hb.symm, by simp [List.findIdx?_cons, this]⟩
    | false =>
      simp [hq] at hb
      obtain ⟨k', e1, e2⟩ := born_sound h3 hb
      have hne : e.2.2 ≠ b := fun q => by simp [q] at hq
      have hne' : ((e.2.2 : Int) == (b : Int)) = false := by simp; omega
      refine ⟨k' + 1, by omega, ?_⟩
      rw [List.findIdx?_cons, hne']
      simp [e2]

theorem entryStore_sound (r : HRel σ h w.heap) {t : TypeId} {m s v : AV} {mx sx vx : Value} (hm : conc σ m = some mx) (hs : conc σ s = some sx) (hv : conc σ v = some vx) {u : AV} {h' : H} (hu : entryStoreA m s v h = some (u, h')) :
    ∃ w', (Instr.entryStore t mx sx vx).run P w = .ok () w' ∧ u = undefA ∧ HRel σ h' w'.heap ∧ Ext σ h w σ h' w' := by
  unfold entryStoreA at hu
  split at hu
  · rename_i rr b hn
    obtain ⟨bb, c, s1, rfl⟩ := conc_map hm
    obtain ⟨k, rfl⟩ := natOf_sound hs hn
    split at hu
    · rename_i es cl hg
      obtain ⟨b', c', x', h1, h2, h3⟩ := r.objs _ _ hg
      rw [s1] at h1; cases h1
      obtain ⟨es', rfl, hes⟩ := h3.inv_map
      have hob := run_getObj (P := P) h2 (by intro _ _ _ e; cases e)
      cases hf : bornA b es 0 with
      | none => simp [hf] at hu
      | some j =>
        simp only [hf, fL_eq, putO_eq] at hu
        cases hu
        obtain ⟨j', e1, e2⟩ := born_sound hes hf
        have e1 : j = j' := by omega
        subst e1
        obtain ⟨g1, g2⟩ := put_set r hg s1 h2 (.map (modA (fun q => (q.1, v, q.2.2)) j es) cl) (.map (es'.modify j fun e => { e with val := vx }) cl) ⟨rfl, by
          rw [toList_modify']
          exact concE_mod (f := fun q => (q.1, v, q.2.2)) (g := fun e => { e with val := vx }) (fun q e h1 _ h3 => ⟨h1, hv, h3⟩) _ hes⟩
        refine ⟨_, ?_, rfl, g1, g2⟩
        have hidx : es'.findIdx? (fun e => (e.born : Int) == (Int.ofNat b)) = some j := by
          have q : es' = es'.toList.toArray := by simp
          rw [q, List.findIdx?_toArray]; exact e2
        simp only [Instr.entryStore, Sem.run_bind, hob, Result.andThen_ok, asInt, asIntOf, Sem.run_pure, hidx]
        exact run_setObj h2 (by intro _ _ _ e; cases e) _
    · cases hu
  · cases hu

theorem delete_sound (hE : EnvOk P E) (r : HRel σ h w.heap) {t : TypeId} {m k : AV} {mx kx : Value} (hm : conc σ m = some mx) (hk : conc σ k = some kx) {u : AV} {h' : H} (hu : deleteA E t m k h = some (u, h')) (ts : List TypeId) (ty : TypeId) :
    ∃ w', (Builtin.delete_ ⟨t :: ts⟩ ty #[mx, kx]).run P w = .ok undef w' ∧ u = undefA ∧ HRel σ h' w'.heap ∧ Ext σ h w σ h' w' := by
  unfold deleteA at hu
  have e1 : (⟨t :: ts⟩ : Array TypeId)[0]? = some t := rfl
  split at hu
  · rename_i e rr hkt
    obtain ⟨kt, d, u1, u2, u3⟩ := keyT_sound hE hkt
    obtain ⟨b, c, s1, rfl⟩ := conc_map hm
    have e3 : (#[Value.map (some b), kx] : Array Value)[0]? = some (Value.map (some b)) := rfl
    have e4 : (#[Value.map (some b), kx] : Array Value)[1]? = some kx := rfl
    split at hu
    · rename_i es cl hg
      obtain ⟨b', c', x', h1, h2, h3⟩ := r.objs _ _ hg
      rw [s1] at h1; cases h1
      obtain ⟨es', rfl, hes⟩ := h3.inv_map
      have hob := run_getObj (P := P) h2 (by intro _ _ _ e; cases e)
      cases hf : findA k es 0 with
      | none => simp [hf] at hu
      | some fr =>
        rcases find_sound hk u3 hes hf with ⟨e1', e2⟩ | ⟨j, v', bn, y', kx', e1', e2, e3', e4', q, q1, q2, q3, q4, q5⟩
        · subst e1'
          simp only [hf] at hu
          cases hu
          have hself : HRel σ h (setW w b (.map es' cl)).heap ∧ Ext σ h w σ h (setW w b (.map es' cl)) := by
            have hlt : b < w.heap.size := (Array.getElem?_eq_some_iff.1 h2).1
            have : (setW w b (.map es' cl)).heap = w.heap := by
              simp only [setW]
              apply Array.ext_getElem?
              intro k
              rw [Array.getElem?_setIfInBounds]
              split
              · subst_vars; first | exact h2.symm | (rw [if_pos hlt]; exact h2.symm)
              · rfl
            refine ⟨by rw [this]; exact r, ⟨rfl, rfl, rfl, by rw [this]; exact Nat.le_refl _, Nat.le_refl _, fun _ _ => rfl, fun _ _ _ => by rw [this], fun i o _ c hi hs _ => ⟨i, o, c, hi, hs⟩⟩⟩
          refine ⟨_, ?_, rfl, hself.1, hself.2⟩
          simp only [Builtin.delete_, e1, e3, e4, Sem.run_bind, run_underlying u1, Result.andThen_ok, hob, checkKey_ok' hk u2 u3, findKey_of u2 e2]
          rw [run_setObj h2 (by intro _ _ _ e; cases e)]; rfl
        · subst e1'
          simp only [hf, fL_eq, putO_eq] at hu
          cases hu
          obtain ⟨g1, g2⟩ := put_set r hg s1 h2 (.map (eraseA (0 + j) es) cl) (.map (es'.eraseIdxIfInBounds (0 + j)) cl) ⟨rfl, by
            rw [concE_erase _ hes]; simp⟩
          refine ⟨_, ?_, rfl, g1, g2⟩
          simp only [Builtin.delete_, e1, e3, e4, Sem.run_bind, run_underlying u1, Result.andThen_ok, hob, checkKey_ok' hk u2 u3, findKey_of u2 e4']
          rw [run_setObj h2 (by intro _ _ _ e; cases e)]; rfl
    · cases hu
  · cases hu

end
end Go.Ev
