/- The evaluator's soundness: iterators, texts that share bytes, closing. -/
import Derived.Test.YtaodaeehndocgaaGreatEvM
set_option linter.unusedSimpArgs false
set_option linter.unusedVariables false
namespace Go.Ev

def VSim (P : Program) (σ : Sg) (h : H) (w : World) (s : Sem Value) (v : AV) (h' : H) : Prop :=
  ∃ σ' w' x, s.run P w = .ok x w' ∧ conc σ' v = some x ∧ HRel σ' h' w'.heap ∧ Ext σ h w σ' h' w'

section
variable {P : Program} {E : Env} {σ : Sg} {w : World} {h : H}

theorem blt_true {a b : Nat} : Nat.blt a b = true ↔ a < b := by rw [Nat.blt_eq]
theorem ORel.inv_strIter {c : Nat} {s : List UInt8} {p : Nat} {x : Obj} (h : ORel σ c (.strIter s p) x) : x = .stringIter ⟨⟨s⟩⟩ p := by
  cases x <;> simp only [ORel] at h
  obtain ⟨rfl, rfl⟩ := h; rfl
theorem ORel.inv_mapIter {c : Nat} {m : Option Nat} {since last : Nat} {seen : List Nat} {x : Obj} (h : ORel σ c (.mapIter m since seen last) x) : ∃ m', x = .mapIter m' since ⟨seen⟩ last ∧ conc σ (.map m) = some (.map m') := by
  cases x <;> simp only [ORel] at h
  obtain ⟨h1, rfl, h3, rfl⟩ := h
  refine ⟨_, ?_, h1⟩
  rw [← h3]

theorem new_sound (r : HRel σ h w.heap) (ob : AObj) (x : Obj) (hx : ORel (upd σ h.next (w.heap.size, 0)) 0 ob x) :
    HRel (upd σ h.next (w.heap.size, 0)) ⟨h.next + 1, T.set (some ob) h.t h.next⟩ (w.heap.push x) ∧ Ext σ h w (upd σ h.next (w.heap.size, 0)) ⟨h.next + 1, T.set (some ob) h.t h.next⟩ { w with heap := w.heap.push x } := by
  obtain ⟨g1, g2⟩ := r.alloc ob x 0 hx
  exact ⟨g1, g2 { w with heap := w.heap.push x } rfl rfl rfl rfl⟩

theorem range_sound (hE : EnvOk P E) (r : HRel σ h w.heap) {t : TypeId} {a : AV} {x : Value} (hx : conc σ a = some x) {u : AV} {h' : H} (hu : rangeA E t a h = some (u, h')) :
    VSim P σ h w (Instr.range t x) u h' := by
  unfold rangeA at hu
  cases hg : E.ts.get t with
  | none => simp [hg] at hu
  | some ti =>
    have ht := hE.ts _ _ hg
    simp only [hg] at hu
    split at hu
    · rename_i s hd
      have := conc_str hx; subst this
      simp only [newO_eq] at hu; cases hu
      obtain ⟨g1, g2⟩ := new_sound r (.strIter s 0) (.stringIter ⟨⟨s⟩⟩ 0) ⟨rfl, rfl⟩
      exact ⟨_, _, .pointer (some ⟨w.heap.size, 0, none⟩), by simp [Instr.range, ht.run, hd], by simp [conc, upd_self], g1, g2⟩
    · rename_i k e hd
      have := conc_mapNil hx; subst this
      simp only [newO_eq] at hu; cases hu
      obtain ⟨g1, g2⟩ := new_sound r (.mapIter none 0 [] 0) (.mapIter none 0 #[] 0) ⟨by simp [conc], rfl, rfl, rfl⟩
      exact ⟨_, _, .pointer (some ⟨w.heap.size, 0, none⟩), by simp [Instr.range, ht.run, hd], by simp [conc, upd_self], g1, g2⟩
    · rename_i k e m hd
      obtain ⟨b, c, s1, rfl⟩ := conc_map hx
      split at hu
      · rename_i es cl hm
        obtain ⟨b', c', x', h1, h2, h3⟩ := r.objs _ _ hm
        rw [s1] at h1; cases h1
        obtain ⟨es', rfl, hes⟩ := h3.inv_map
        have hob := run_getObj (P := P) h2 (by intro _ _ _ e; cases e)
        simp only [newO_eq] at hu; cases hu
        have hfr : upd σ h.next (w.heap.size, 0) m = some (b, c) := sub_upd _ (r.fresh _ (Nat.le_refl _)) _ _ s1
        obtain ⟨g1, g2⟩ := new_sound r (.mapIter (some m) cl [] cl) (.mapIter (some b) cl #[] cl) ⟨by simp [conc, hfr], rfl, rfl, rfl⟩
        exact ⟨_, _, .pointer (some ⟨w.heap.size, 0, none⟩), by simp [Instr.range, ht.run, hd, hob], by simp [conc, upd_self], g1, g2⟩
      · cases hu
    · cases hu

theorem next_sound (r : HRel σ h w.heap) {a : AV} {x : Value} (hx : conc σ a = some x) {b : Bool} (ty : TypeId) {u : AV} {h' : H} (hu : nextA a b h = some (u, h')) :
    VSim P σ h w (Instr.next x b ty) u h' := by
  have over : ∀ {s : Sem Value}, s.run P w = .ok (.tuple #[.bool false]) w → VSim P σ h w s (.tuple [.bool false]) h := fun e => ⟨σ, w, _, e, by simp [conc, concL], r, Ext.refl _ _ _⟩
  unfold nextA at hu
  split at hu
  · rename_i rr
    obtain ⟨bk, c, s1, rfl⟩ := conc_ptr hx
    split at hu
    · rename_i s pos hg
      obtain ⟨b', c', x', h1, h2, h3⟩ := r.objs _ _ hg
      rw [s1] at h1; cases h1
      obtain rfl := h3.inv_strIter
      have hob := run_getObj (P := P) h2 (by intro _ _ _ e; cases e)
      cases b with
      | false => cases hu
      | true =>
        simp only [cond_true] at hu
        cases hlt : Nat.blt pos s.length with
        | false =>
          simp [hlt] at hu
          obtain ⟨rfl, rfl⟩ := hu
          refine over ?_
          have : ¬ pos < s.length := fun q => by rw [blt_true.2 q] at hlt; cases hlt
          simp [Instr.next, hob, size_mk, this]
        | true =>
          simp only [hlt, cond_true, fN_eq, putO_eq] at hu
          have hl : pos < s.length := blt_true.1 hlt
          cases hd : Utf8.decode ⟨⟨s⟩⟩ pos with
          | mk ch wd =>
            simp only [hd, fI_eq] at hu
            cases hu
            obtain ⟨g1, g2⟩ := put_set r hg s1 h2 (.strIter s (pos + wd)) (.stringIter ⟨⟨s⟩⟩ (pos + wd)) ⟨rfl, rfl⟩
            refine ⟨σ, _, .tuple #[.bool true, goInt pos, .int .i32 ch], ?_, by simp [conc, concL, goInt], g1, g2⟩
            simp only [Instr.next, Sem.run_bind, hob, Result.andThen_ok, size_mk, hl, if_true, hd]
            rw [run_setObj h2 (by intro _ _ _ e; cases e)]; rfl
    · rename_i since seen last hg
      obtain ⟨b', c', x', h1, h2, h3⟩ := r.objs _ _ hg
      rw [s1] at h1; cases h1
      obtain ⟨m', rfl, hm⟩ := h3.inv_mapIter
      have hob := run_getObj (P := P) h2 (by intro _ _ _ e; cases e)
      cases b with
      | true => cases hu
      | false =>
        simp only [cond_false] at hu
        cases hu
        have := conc_mapNil hm; cases this
        exact over (by simp [Instr.next, hob])
    · rename_i m since seen last hg
      obtain ⟨b', c', x', h1, h2, h3⟩ := r.objs _ _ hg
      rw [s1] at h1; cases h1
      obtain ⟨m', rfl, hm⟩ := h3.inv_mapIter
      obtain ⟨mb, mc, ms1, e⟩ := conc_map hm
      cases e
      have hob := run_getObj (P := P) h2 (by intro _ _ _ e; cases e)
      cases b with
      | true => cases hu
      | false =>
        simp only [cond_false] at hu
        split at hu
        · rename_i es cl hmg
          obtain ⟨b2, c2, x2, k1, k2, k3⟩ := r.objs _ _ hmg
          rw [ms1] at k1; cases k1
          obtain ⟨es', rfl, hes⟩ := k3.inv_map
          have hmo := run_getObj (P := P) k2 (by intro _ _ _ e; cases e)
          split at hu
          · cases hu
            simp only [concE, Option.some.injEq] at hes
            have hes : es' = #[] := by rw [← Array.toList_inj, ← hes]
            subst hes
            refine over ?_
            simp [Instr.next, hob, hmo, Question.forced, Question.cut]
          · rename_i k v bn
            obtain ⟨kx, vx, l', q1, q2, q3, q4⟩ := concE_cons.1 hes
            simp only [concE, Option.some.injEq] at q3
            subst q3
            have hes : es' = #[{ key := kx, val := vx, born := bn }] := by rw [← Array.toList_inj, q4]
            subst hes
            cases hbn : Nat.blt bn since with
            | false => simp [hbn] at hu
            | true =>
              have hbn := blt_true.1 hbn
              simp only [blt_true.2 hbn, cond_true, putO_eq] at hu
              cases hu
              obtain ⟨g1, g2⟩ := put_set r hg s1 h2 (.mapIter (some m) since [bn] cl) (.mapIter (some mb) since #[bn] cl) ⟨by simp [conc, ms1], rfl, rfl, rfl⟩
              refine ⟨σ, _, .tuple #[.bool true, kx, vx], ?_, by simp [conc, concL, q1, q2], g1, g2⟩
              have hn : ¬ since ≤ bn := by omega
              simp [Instr.next, hob, hmo, hbn, hn, Question.forced, Question.cut, run_setObj h2]
          · rename_i k v bn b'
            obtain ⟨kx, vx, l', q1, q2, q3, q4⟩ := concE_cons.1 hes
            simp only [concE, Option.some.injEq] at q3
            subst q3
            have hes : es' = #[{ key := kx, val := vx, born := bn }] := by rw [← Array.toList_inj, q4]
            subst hes
            cases hbn : (Nat.beq bn b' && Nat.blt bn last) with
            | false => simp [hbn] at hu
            | true =>
              simp only [hbn, cond_true] at hu
              cases hu
              simp only [Bool.and_eq_true] at hbn
              have e1 := Nat.eq_of_beq_eq_true hbn.1
              have e2 := blt_true.1 hbn.2
              subst e1
              refine over ?_
              have hn : ¬ last ≤ bn := by omega
              simp [Instr.next, hob, hmo, e2, hn, Question.forced, Question.cut]
          · cases hu
        · cases hu
    · cases hu
  · cases hu

theorem close_sound (r : HRel σ h w.heap) {rr c : Nat} {buf : List AV} (hg : h.t.get rr = some (.chan c buf false)) {x : Value} (hx : conc σ (.chan (some rr)) = some x) (ats : Array TypeId) (ty : TypeId) :
    VSim P σ h w (Builtin.close_ ats ty #[x]) undefA ⟨h.next, T.set (some (.chan c buf true)) h.t rr⟩ := by
  obtain ⟨b, c', s1, rfl⟩ := conc_chan hx
  obtain ⟨b', c', x', h1, h2, h3⟩ := r.objs _ _ hg
  rw [s1] at h1; cases h1
  obtain ⟨buf', s, rc, rfl, hb⟩ := h3.inv_chan
  have hob := run_getObj (P := P) h2 (by intro _ _ _ e; cases e)
  obtain ⟨g1, g2⟩ := put_set r hg s1 h2 (.chan c buf true) (.chan c buf' true s rc false) ⟨rfl, hb, rfl, rfl⟩
  refine ⟨σ, _, .tuple #[], ?_, by simp [conc, concL, undefA], g1, g2⟩
  obtain ⟨k, hk1, hk2⟩ : ∃ k : Obj → Sem Value, Builtin.close_ ats ty #[.chan (some b)] = (getObj b >>= k) ∧ k (.chan c buf' false s rc false) = (setObj b (.chan c buf' true s rc false) >>= fun _ => pure (.tuple #[])) := ⟨_, rfl, rfl⟩
  rw [hk1]
  simp only [Sem.run_bind, hob, Result.andThen_ok, hk2]
  rw [run_setObj h2 (by intro _ _ _ e; cases e)]; rfl

/-! a text that shares its bytes -/
theorem run_loadBytes {b : Nat} {e : TypeId} {fz : Nat × Nat} {cs : Array Value} (hb : w.heap[b]? = some (.cells cs e fz)) :
    ∀ (ns : List Nat) (o : Nat) (acc : List UInt8) (tl : List Value), cs.toList.drop o = ns.map (fun n => Value.int .u8 (Int.ofNat n)) ++ tl →
    (loadBytes ⟨b, o, none⟩ ⟨⟨acc⟩⟩ ns.length).run P w = .ok ⟨⟨acc ++ ns.map UInt8.ofNat⟩⟩ w
  | [], o, acc, tl, h => by simp [loadBytes]
  | n :: ns, o, acc, tl, h => by
    have h1 : cs[o]? = some (.int .u8 (Int.ofNat n)) := by
      have : (cs.toList.drop o)[0]? = some (.int .u8 (Int.ofNat n)) := by rw [h]; simp
      simpa using this
    have h2 : cs.toList.drop (o + 1) = ns.map (fun n => Value.int .u8 (Int.ofNat n)) ++ tl := by
      rw [← List.drop_drop, h]; simp
    have ih := run_loadBytes hb ns (o + 1) (acc ++ [UInt8.ofNat n]) tl h2
    have hp : (⟨⟨acc⟩⟩ : ByteArray).push (UInt8.ofNat n) = ⟨⟨acc ++ [UInt8.ofNat n]⟩⟩ := by simp [ByteArray.push]
    simp only [List.length_cons, loadBytes, Sem.run_bind, run_load, cell_of hb, h1, Result.andThen_ok, add_addr, Int.ofNat_eq_natCast, Int.toNat_natCast]
    rw [show Nat.toUInt8 n = UInt8.ofNat n from rfl, hp, ih]
    simp

theorem depth_pos (P : Program) : ∃ d, P.depth = d + 1 := ⟨_, rfl⟩

theorem unsafeString_sound (hE : EnvOk P E) (r : HRel σ h w.heap) {t : TypeId} {p n : AV} {px nx : Value} (hp : conc σ p = some px) (hn : conc σ n = some nx) {u : AV} {h' : H} (hu : unsafeStringA E t p n h = some (u, h')) (ts : List TypeId) (ty : TypeId) :
    VSim P σ h w (Builtin.unsafeString_ ⟨t :: ts⟩ ty #[px, nx]) u h' := by
  have hts : (⟨t :: ts⟩ : Array TypeId)[0]? = some t := rfl
  unfold unsafeStringA at hu
  split at hu
  · rename_i hnn
    rename Option (Nat × Nat) => a
    cases hu
    have hnn : natOf n = some 0 := by assumption
    obtain ⟨k, rfl⟩ := natOf_sound hn hnn
    refine ⟨σ, w, .string .empty, ?_, by simp [conc]; rfl, r, Ext.refl _ _ _⟩
    rcases a with _ | ⟨i, o⟩
    · have : px = .pointer none := by simp [conc] at hp; exact hp.symm
      subst this
      refine Eq.trans (congrArg (fun s => Sem.run P s w) (show Builtin.unsafeString_ ⟨t :: ts⟩ ty #[.pointer none, .int k (Int.ofNat 0)] = asInt (.int k (Int.ofNat 0)) >>= _ from rfl)) ?_
      simp [asInt, asIntOf, hts, imax]
    · obtain ⟨b, c, s1, rfl⟩ := conc_ptr hp
      refine Eq.trans (congrArg (fun s => Sem.run P s w) (show Builtin.unsafeString_ ⟨t :: ts⟩ ty #[.pointer (some ⟨b, o, none⟩), .int k (Int.ofNat 0)] = asInt (.int k (Int.ofNat 0)) >>= _ from rfl)) ?_
      simp [asInt, asIntOf, hts, imax]
  · rename_i m i hm0 hnn
    obtain ⟨k, rfl⟩ := natOf_sound hn hnn
    obtain ⟨b, c, s1, rfl⟩ := conc_ptr hp
    split at hu
    · rename_i cs e ext wr hg
      cases hbs : (E.bs t e && Nat.ble m 1000000) with
      | false => rw [hbs] at hu; cases hu
      | true =>
        rw [hbs] at hu; simp only [cond_true] at hu
        simp only [Bool.and_eq_true] at hbs
        obtain ⟨z1, tu, z2, z3⟩ := hE.bs t e hbs.1
        have hle := Nat.le_of_ble_eq_true hbs.2
        cases hsub : sub 0 m cs with
        | none => simp [hsub] at hu
        | some l =>
          cases hby : bytesOf l with
          | none => simp [hsub, hby] at hu
          | some s =>
            simp only [hsub, hby, putO_eq] at hu
            cases hu
            obtain ⟨b', c', x', h1, h2, h3⟩ := r.objs i _ hg
            rw [s1] at h1; cases h1
            obtain ⟨cs', fz, ll, rr, rfl, hll, hcs, hext, hfz⟩ := h3.inv_cells
            have hlen := concL_length hll
            obtain ⟨e1, e2⟩ := sub_eq hsub
            have hm : m ≠ 0 := fun q => by subst q; exact hm0 rfl
            have hml : m ≤ cs.length := by rcases e2 with e2 | e2 <;> omega
            have hcl : cs'.size = ll.length + rr.length := by rw [← Array.length_toList, hcs]; simp
            obtain ⟨ns, en, es⟩ := bytes_sound (concL_sub hll hsub) hby
            simp only [List.drop_zero] at en
            have hnl : ns.length = m := by
              have := congrArg List.length en
              simp at this; omega
            have hcd : cs'.toList.drop 0 = ns.map (fun n => Value.int .u8 (Int.ofNat n)) ++ (ll.drop m ++ rr) := by
              rw [← en, hcs, List.drop_zero, ← List.append_assoc, List.take_append_drop]
            have hlb := run_loadBytes (P := P) h2 ns 0 [] _ hcd
            rw [hnl, ← es] at hlb
            have hva : (variablesAt ⟨b, 0, none⟩ tu m).run P w = .ok true w := by
              obtain ⟨d, hd⟩ := depth_pos P
              simp only [variablesAt, program, Sem.run_bind, Sem.run, Result.andThen_ok, run_shape, shape_of h2, z1, Nat.div_one, Sem.run_pure]
              have : liesAt P P.depth e cs'.size 0 tu m = true := by
                have hmc : m ≤ cs'.size := by omega
                rw [hd] at z3 ⊢
                unfold liesAt
                rw [hd]
                unfold rowAt
                simp [z1, hmc, z3]
              rw [this]
            have hlt : b < w.heap.size := (Array.getElem?_eq_some_iff.1 h2).1
            have hfrz : ∃ fz', (w.freeze ⟨b, 0, none⟩ m) = setW w b (.cells cs' e fz') := by
              refine ⟨if fz.1 == fz.2 then (0, 0 + m) else (min fz.1 0, max fz.2 (0 + m)), ?_⟩
              simp only [World.freeze, if_neg hm, setW]
              congr 1
              apply Array.ext_getElem?
              intro k
              rw [Array.getElem?_modify, Array.getElem?_setIfInBounds]
              by_cases hk : b = k
              · subst hk
                simp only [if_true, h2, hlt]
                rfl
              · simp only [if_neg hk]
            obtain ⟨fz', hfrz⟩ := hfrz
            obtain ⟨g1, g2⟩ := put_set r hg s1 h2 (.cells cs e ext false) (.cells cs' e fz') ⟨ll, hll, ⟨rr, hcs⟩, rfl, by simpa using hext, fun q => by cases q⟩
            refine ⟨σ, setW w b (.cells cs' e fz'), .string ⟨⟨s⟩⟩, ?_, by simp [conc], g1, g2⟩
            have hni : ¬ ((m : Int) < 0) := by omega
            have hnx : ¬ ((m : Int) > 9223372036854775807) := by omega
            have hnz : ¬ ((m : Int) = 0) := by omega
            refine Eq.trans (congrArg (fun s => Sem.run P s w) (show Builtin.unsafeString_ ⟨t :: ts⟩ ty #[.pointer (some ⟨b, 0, none⟩), .int k (Int.ofNat m)] = asInt (.int k (Int.ofNat m)) >>= _ from rfl)) ?_
            simp only [asInt, asIntOf, Sem.run_bind, Sem.run_pure, Result.andThen_ok, hts, imax, Int.ofNat_eq_natCast, hni, hnx, hnz, if_false, elemOf, run_underlying z2, hva, if_true, Int.toNat_natCast]
            rw [show (ByteArray.empty) = (⟨⟨[]⟩⟩ : ByteArray) from rfl, hlb]
            simp only [Result.andThen_ok, run_freeze, hfrz, Sem.run_pure, Sem.run_bind, List.nil_append]
    · cases hu
  · cases hu

end
end Go.Ev
