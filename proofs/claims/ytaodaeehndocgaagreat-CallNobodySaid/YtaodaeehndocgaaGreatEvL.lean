/- The evaluator's soundness: append, copy, maps that are written, iterators. -/
import Derived.Test.YtaodaeehndocgaaGreatEvK
set_option linter.unusedSimpArgs false
set_option linter.unusedVariables false
namespace Go.Ev

section
variable {P : Program} {E : Env} {σ : Sg} {w : World} {h : H}

theorem cut_cap' (need old : Nat) (e : TypeId) (t : Nat) : need ≤ (Question.appendCap need old e).cut t := by simp [Question.cut]

/-- the call of append that makes a new row -/
theorem run_grow (hE : EnvOk P E) {t u elem : TypeId} {ts tu te : TI} (hts : TOk P t ts) (htu : TOk P u tu) (hte : TOk P elem te) (hd : ts.desc = .slice elem) (hnu : ∀ k, tu.desc ≠ .int k)
    {base : Option Addr} {len cap n : Nat} {xv : Value} (hn : (Builtin.lenOf xv).run P w = .ok n w) {old new : List Value}
    (ho : ∀ w', w'.heap = w.heap → (Builtin.firstCells te.size len (.slice base len cap)).run P w' = .ok ⟨old⟩ w')
    (hnw : ∀ w', w'.heap = w.heap → (Builtin.firstCells te.size n xv).run P w' = .ok ⟨new⟩ w')
    (hc : cap < len + n) (hb : (len + n) * te.bytes ≤ 1000000) (hb2 : len + n ≤ 1000000) (ty : TypeId) :
    ∃ z newCap, (∀ σ, concL σ te.zero.cells = some z) ∧ len + n ≤ newCap ∧
      (Builtin.append_ #[t, u] ty #[.slice base len cap, xv]).run P w = .ok (.slice (some ⟨w.heap.size, 0, none⟩) (len + n) newCap)
        { w with drawn := w.drawn + 1, heap := w.heap.push (.cells ⟨old ++ new ++ rep (newCap - (len + n)) z⟩ elem (0, 0)) } := by
  obtain ⟨z, hz1, hz2⟩ := zero_cells hte
  obtain ⟨i, hi1, hi2⟩ := hte.bytes
  let newCap := (Question.appendCap (len + n) cap elem).cut (w.tape w.drawn (.appendCap (len + n) cap elem))
  refine ⟨z.cells.toList, newCap, hz2, cut_cap' _ _ _ _, ?_⟩
  have hzeros : (match tu.desc with | .int _ => true | _ => false) = false := by
    cases hq : tu.desc <;> first | rfl | (exact absurd hq (hnu _))
  have hx2 : ¬ (((len + n : Nat) : Int) > IntKind.i64.max) := by rw [imax]; omega
  have hns : ¬ (Builtin.nextslicecap (len + n) cap * i.bytes > 2 ^ 48) := by
    rw [hi2]
    have h1 := nextslicecap_le hc
    have h2 : te.bytes ≤ 1000000 := Nat.le_trans (Nat.le_mul_of_pos_left _ (by omega)) hb
    have h3 : Builtin.nextslicecap (len + n) cap * te.bytes ≤ (2 * (len + n) + 1000) * te.bytes := Nat.mul_le_mul_right _ h1
    rw [Nat.add_mul, Nat.mul_assoc] at h3
    omega
  have hrest : Builtin.zeroCells z.cells (newCap - (len + n)) = ⟨rep (newCap - (len + n)) z.cells.toList⟩ := by
    rw [← Array.toList_inj]
    have := rep_range z.cells (newCap - (len + n))
    simp only [Builtin.zeroCells]
    rw [Array.toList_map, Array.toList_range]
    exact this
  unfold Builtin.append_
  simp only [Sem.run_bind, hts.run, hd, Result.andThen_ok, hte.size, htu.run]
  have e1 : (#[t, u] : Array TypeId)[0]? = some t := rfl
  have e2 : (#[t, u] : Array TypeId)[1]? = some u := rfl
  have e3 : (#[Value.slice base len cap, xv] : Array Value)[0]? = some (Value.slice base len cap) := rfl
  have e4 : (#[Value.slice base len cap, xv] : Array Value)[1]? = some xv := rfl
  simp only [e1, e2, e3, e4, Sem.run_bind, hts.run, hd, Result.andThen_ok, hte.size, htu.run, Sem.run_pure]
  have hle : ¬ (len + n ≤ cap) := by omega
  have hx3 : ¬ (((len + n : Nat) : Int) > IntKind.i64.max ∧ (False ∨ i.bytes = 0)) := fun q => hx2 q.1
  simp only [Bool.false_eq_true, if_false, Sem.run_bind, hn, Result.andThen_ok, if_neg hle, hi1, if_neg hx3, if_neg hns, run_choose, Question.forced, run_askRoom]
  have hw : ({ w with drawn := w.drawn + 1 } : World).heap = w.heap := rfl
  simp only [ho _ hw, hnw _ hw, hz1, Result.andThen_ok, Bool.not_false, if_true, newRow, Sem.run_bind, Sem.run_pure]
  show Result.andThen _ _ = _
  have e9 : (⟨old⟩ : Array Value) ++ ⟨new⟩ ++ Builtin.zeroCells z.cells (newCap - (len + n)) = ⟨old ++ new ++ rep (newCap - (len + n)) z.cells.toList⟩ := by
    rw [hrest]; simp
  simp only [newCap] at e9
  simp only [e9]
  rfl

theorem rep_length {α : Type} (l : List α) : ∀ n, (rep n l).length = n * l.length
  | 0 => by simp [rep]
  | n + 1 => by simp [rep, rep_length l n, Nat.add_mul]; omega

theorem append_sound (hE : EnvOk P E) (r : HRel σ h w.heap) {t u : TypeId} {s x : AV} {sv xv : Value} (hsv : conc σ s = some sv) (hxv : conc σ x = some xv) {v : AV} {h' : H} (ha : appendA E t u s x h = some (v, h')) (ty : TypeId) :
    ∃ σ' w' y, (Builtin.append_ #[t, u] ty #[sv, xv]).run P w = .ok y w' ∧ conc σ' v = some y ∧ HRel σ' h' w'.heap ∧ Ext σ h w σ' h' w' := by
  unfold appendA at ha
  split at ha
  · rename_i ts tu base len cap n hts0 htu0 hlen0
    have hts := hE.ts _ _ hts0
    have htu := hE.ts _ _ htu0
    have hn := lenOf_sound (P := P) (w := w) hxv hlen0
    split at ha
    · cases ha
    · rename_i elem hd hnd
      have hnu : ∀ k, tu.desc ≠ .int k := fun k e => hnd k e
      cases hte0 : E.ts.get elem with
      | none => simp [hte0] at ha
      | some te =>
        have hte := hE.ts _ _ hte0
        simp only [hte0] at ha
        cases hf : firstCellsA h te.size n x with
        | none => simp [hf] at ha
        | some new =>
          obtain ⟨nx, hnx1, hnx2⟩ := firstCells_sound (P := P) r hxv hf
          simp only [hf, fN_eq] at ha
          cases hc : (Nat.ble ((len + n) * te.bytes) 1000000 && Nat.ble (len + n) 1000000 && allOne new && Nat.beq new.length (n * te.size)) with
          | false => rw [hc] at ha; cases ha
          | true =>
            rw [hc] at ha; simp only [cond_true] at ha
            simp only [Bool.and_eq_true] at hc
            have b1 := Nat.le_of_ble_eq_true hc.1.1.1
            have b2 := Nat.le_of_ble_eq_true hc.1.1.2
            have b3 := hc.1.2
            have b4 := Nat.eq_of_beq_eq_true hc.2
            have hnl := concL_length hnx2
            have hnx1' : ∀ w' : World, w'.heap = w.heap → (Builtin.firstCells te.size n xv).run P w' = .ok ⟨nx⟩ w' := by
              intro w' hw'
              obtain ⟨nx', q1, q2⟩ := firstCells_sound (P := P) (w := w') (by rw [hw']; exact r) hxv hf
              rw [hnx2] at q2; cases q2; exact q1
            have hzl : te.zero.cells.length = te.size := hte.zlen
            -- where a new row is made
            have grow : ∀ (hh : H) (old : List AV) (ox : List Value) (bs : Option Addr) (cp : Nat), sv = .slice bs len cp → cp < len + n → HRel σ hh w.heap → Ext σ h w σ hh w →
                concL σ old = some ox → old.length = len * te.size → (∀ w' : World, w'.heap = w.heap → (Builtin.firstCells te.size len sv).run P w' = .ok ⟨ox⟩ w') →
                (fL (old ++ new) fun cs => newO hh (.cells cs elem (some te.size) true) fun j hh => some (AV.slice (some (j, 0)) (len + n) none, hh)) = some (v, h') →
                ∃ σ' w' y, (Builtin.append_ #[t, u] ty #[sv, xv]).run P w = .ok y w' ∧ conc σ' v = some y ∧ HRel σ' h' w'.heap ∧ Ext σ h w σ' h' w' := by
              intro hh old ox bs cp hsv' hcp rr ex ho hol hfo hres
              rw [fL_eq, newO_eq] at hres
              cases hres
              subst hsv'
              obtain ⟨z, newCap, hz, hcap, hrun⟩ := run_grow hE hts htu hte hd hnu hn hfo hnx1' hcp b1 b2 ty
              have hzz := concL_length (hz σ)
              have hol' := concL_length ho
              obtain ⟨g1, g2⟩ := rr.alloc (.cells (old ++ new) elem (some te.size) true) (.cells ⟨ox ++ nx ++ rep (newCap - (len + n)) z⟩ elem (0, 0)) newCap (by
                refine ⟨ox ++ nx, concL_mono (sub_upd _ (rr.fresh _ (Nat.le_refl _))) _ _ (concL_append ho hnx2), ⟨rep (newCap - (len + n)) z, rfl⟩, rfl, ?_, fun _ o _ => by simp⟩
                simp only [extOk]
                show (ox ++ nx ++ rep (newCap - (len + n)) z).length = _
                simp only [List.length_append, rep_length]
                rw [hol', hol, hnl, b4, hzz, hzl, ← Nat.add_mul, ← Nat.add_mul]
                congr 1; omega)
              refine ⟨_, _, _, hrun, ?_, g1, ex.trans (g2 _ rfl rfl rfl rfl)⟩
              simp [conc, upd_self, hcap]
            rcases base with _ | ⟨i, o⟩
            · cases cap with
              | none => cases ha
              | some c =>
                obtain ⟨_, e1, rfl⟩ := conc_sliceNil hsv
                cases e1
                simp only at ha
                cases hk : Nat.ble (len + n) c with
                | true =>
                  simp only [hk, cond_true] at ha
                  cases ha
                  have hle := Nat.le_of_ble_eq_true hk
                  refine ⟨σ, w, .slice none (len + n) c, ?_, by simp [conc], r, Ext.refl _ _ _⟩
                  unfold Builtin.append_
                  have e1 : (#[t, u] : Array TypeId)[0]? = some t := rfl
                  have e2 : (#[t, u] : Array TypeId)[1]? = some u := rfl
                  have e3 : (#[Value.slice none len c, xv] : Array Value)[0]? = some (Value.slice none len c) := rfl
                  have e4 : (#[Value.slice none len c, xv] : Array Value)[1]? = some xv := rfl
                  simp only [e1, e2, e3, e4, Sem.run_bind, hts.run, hd, Result.andThen_ok, hte.size, htu.run, Sem.run_pure, Bool.false_eq_true, if_false, hn, if_pos hle, Bool.not_false, if_true, hnx1]
                | false =>
                  simp only [hk, cond_false] at ha
                  have hgt : c < len + n := by
                    rcases Nat.lt_or_ge c (len + n) with q | q
                    · exact q
                    · rw [Nat.ble_eq_true_of_le q] at hk; cases hk
                  cases hl0 : Nat.beq len 0 with
                  | false => simp [hl0] at ha
                  | true =>
                    simp only [hl0, cond_true] at ha
                    have hl0 := Nat.eq_of_beq_eq_true hl0
                    exact grow h [] [] none c rfl hgt r (Ext.refl _ _ _) (by simp [concL]) (by simp [hl0]) (fun w' _ => by simp [Builtin.firstCells]) ha
            · cases hgi : h.t.get i with
              | none => simp [hgi] at ha
              | some ob =>
                cases ob <;> simp only [hgi] at ha <;> try (cases ha; done)
                rename_i cs e ext wr
                obtain ⟨b, c', s1, hsvx, hlc⟩ := conc_slice' hsv
                obtain ⟨b', c'', x', g1, g2, g3⟩ := r.objs i _ hgi
                rw [s1] at g1; cases g1
                have eadd : ∀ k, (⟨b, o, none⟩ : Addr).add k = ⟨b, o + k, none⟩ := fun k => add_addr b o k
                -- where it is written in place
                have inplace : ∀ (w' : World), len + n ≤ cap.getD c' → (storeCells ⟨b, o + len * te.size, none⟩ nx).run P w = .ok () w' →
                    (Builtin.append_ #[t, u] ty #[sv, xv]).run P w = .ok (.slice (some ⟨b, o, none⟩) (len + n) (cap.getD c')) w' := by
                  intro w' hle hst
                  subst hsvx
                  unfold Builtin.append_
                  have e1 : (#[t, u] : Array TypeId)[0]? = some t := rfl
                  have e2 : (#[t, u] : Array TypeId)[1]? = some u := rfl
                  have e3 : (#[Value.slice (some ⟨b, o, none⟩) len (cap.getD c'), xv] : Array Value)[0]? = some (Value.slice (some ⟨b, o, none⟩) len (cap.getD c')) := rfl
                  have e4 : (#[Value.slice (some ⟨b, o, none⟩) len (cap.getD c'), xv] : Array Value)[1]? = some xv := rfl
                  simp only [e1, e2, e3, e4, Sem.run_bind, hts.run, hd, Result.andThen_ok, hte.size, htu.run, Sem.run_pure, Bool.false_eq_true, if_false, hn, if_pos hle, Bool.not_false, if_true, hnx1, eadd]
                  rw [hst]; rfl
                cases hk : fitsA cap len (len + n) with
                | true =>
                  rw [hk] at ha; simp only [cond_true] at ha
                  have hle : len + n ≤ cap.getD c' := by
                    cases cap with
                    | some c => exact Nat.le_of_ble_eq_true hk
                    | none =>
                      have h1 := Nat.le_of_ble_eq_true hk
                      have h2 := hlc rfl
                      simp; omega
                  cases wr with
                  | true =>
                    simp only [cond_true] at ha
                    cases hw : write (o + len * te.size) new cs with
                    | none => simp [hw] at ha
                    | some cs2 =>
                      simp only [hw, putO_eq] at ha
                      cases ha
                      obtain ⟨w', q1, q2, q3⟩ := write_block (P := P) r hgi s1 hnx2 b3 hw
                      refine ⟨σ, w', _, inplace w' hle q1, ?_, q2, q3⟩
                      cases cap with
                      | some c => simp [conc, s1]
                      | none => simp at hle; simp [conc, s1, hle]
                  | false =>
                    simp only [cond_false] at ha
                    cases hn0 : Nat.beq n 0 with
                    | false => simp [hn0] at ha
                    | true =>
                      simp only [hn0, cond_true] at ha
                      cases ha
                      have hn0 := Nat.eq_of_beq_eq_true hn0
                      have hnx0 : nx = [] := by
                        have : nx.length = 0 := by rw [hnl, b4, hn0]; simp
                        exact List.length_eq_zero_iff.1 this
                      refine ⟨σ, w, _, inplace w hle (by rw [hnx0]; simp [storeCells]), ?_, r, Ext.refl _ _ _⟩
                      cases cap with
                      | some c => simp [conc, s1]
                      | none => simp at hle; simp [conc, s1, hle]
                | false =>
                  rw [hk] at ha; simp only [cond_false] at ha
                  cases hsb : sub o (len * te.size) cs with
                  | none => simp [hsb] at ha
                  | some old =>
                    simp only [hsb] at ha
                    obtain ⟨cs', fz, l, rr, rfl, hl, hcs, hext, hfz⟩ := g3.inv_cells
                    have hold := concL_sub hl hsb
                    obtain ⟨eold, hran⟩ := sub_eq hsb
                    have hlen := concL_length hl
                    have holdlen : old.length = len * te.size := by
                      rw [eold]
                      rcases hran with q | q
                      · simp; omega
                      · simp [q]
                    have hfo : ∀ w' : World, w'.heap = w.heap → (Builtin.firstCells te.size len sv).run P w' = .ok ⟨(l.drop o).take (len * te.size)⟩ w' := by
                      intro w' hw'
                      have hfa : firstCellsA h te.size len (.slice (some (i, o)) len cap) = some old := by simp [firstCellsA, hgi, hsb]
                      obtain ⟨ox, q1, q2⟩ := firstCells_sound (P := P) (w := w') (by rw [hw']; exact r) hsv hfa
                      rw [hold] at q2; cases q2; exact q1
                    cases cap with
                    | some c =>
                      simp only at ha
                      have hgt : c < len + n := by
                        rcases Nat.lt_or_ge c (len + n) with q | q
                        · exact q
                        · have hk : Nat.ble (len + n) c = false := hk
                          rw [Nat.ble_eq_true_of_le q] at hk; cases hk
                      exact grow h old _ _ c hsvx hgt r (Ext.refl _ _ _) hold holdlen hfo ha
                    | none =>
                      simp only at ha
                      cases hcc : (Nat.beq o 0 && Nat.beq cs.length (len * te.size) && wr && extIs ext te.size && Nat.beq e elem) with
                      | false => rw [hcc] at ha; cases ha
                      | true =>
                        rw [hcc] at ha; simp only [cond_true, putO_eq] at ha
                        simp only [Bool.and_eq_true] at hcc
                        have c1 := Nat.eq_of_beq_eq_true hcc.1.1.1.1
                        have c2 := Nat.eq_of_beq_eq_true hcc.1.1.1.2
                        have c3 := hcc.1.1.2
                        have c4 := hcc.1.2
                        have c5 := Nat.eq_of_beq_eq_true hcc.2
                        subst c1 c3
                        cases ext with
                        | none => cases c4
                        | some z =>
                          have c4 := Nat.eq_of_beq_eq_true c4
                          subst c4
                          simp only [extOk] at hext
                          by_cases hfit : len + n ≤ c'
                          · -- in place
                            simp only [Option.getD_none] at inplace
                            obtain ⟨w', cur', e1, e2, e3, e4, e5, e6, e7, e8⟩ := run_storeCells (P := P) (b := b) (o := 0 + len * te.size) (e := e) (fz := fz) nx 0 cs' w g2 (by
                              rw [hnl, b4, hext]
                              have := Nat.mul_le_mul_right te.size hfit
                              rw [Nat.add_mul] at this; omega) (hfz rfl) (allOne_conc hnx2 b3)
                            rw [fL_eq, newO_eq] at ha
                            cases ha
                            have hcl : cs'.size = l.length + rr.length := by rw [← Array.length_toList, hcs]; simp
                            have hcur : cur'.toList = l ++ nx ++ rr.drop nx.length := by
                              rw [e4, hcs]
                              have q1 : 0 + len * te.size + 0 = l.length := by omega
                              rw [q1]
                              rw [List.take_left', List.drop_append]
                              · simp
                              · rfl
                            have hcsz : cur'.size = cs'.size := by
                              have : nx.length ≤ rr.length := by
                                have h9 : (len + n) * te.size ≤ cs'.size := by rw [hext]; exact Nat.mul_le_mul_right _ hfit
                                rw [Nat.add_mul] at h9
                                omega
                              rw [← Array.length_toList, hcur]; simp; omega
                            obtain ⟨k1, k2⟩ := r.rename hgi s1 (.cells (old ++ new) elem (some te.size) true) (.cells cur' e fz) (by
                              have hll : (l.drop 0).take (len * te.size) = l := by
                                rw [List.drop_zero]; exact List.take_of_length_le (by omega)
                              rw [hll] at hold
                              refine ⟨l ++ nx, concL_mono (sub_upd _ (r.fresh _ (Nat.le_refl _))) _ _ (concL_append hold hnx2), ⟨rr.drop nx.length, hcur⟩, c5, ?_, fun _ k hk' => hfz rfl k (by omega)⟩
                              simp only [extOk]
                              rw [hcsz, hext]) w' e2 e3 e5
                            refine ⟨_, w', _, inplace w' hfit e1, ?_, k1, k2 e6 e7 e8⟩
                            simp [conc, upd_self, hfit]
                          · obtain ⟨k1, k2⟩ := r.kill i
                            exact grow ⟨h.next, T.set none h.t i⟩ old _ _ c' hsvx (by omega) k1 k2 hold holdlen hfo ha
    · cases ha
  · cases ha

end
end Go.Ev
