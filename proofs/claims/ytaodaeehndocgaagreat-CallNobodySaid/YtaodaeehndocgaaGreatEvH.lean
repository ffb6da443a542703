/- The evaluator's soundness: all operations that leave memory alone. -/
import Derived.Test.YtaodaeehndocgaaGreatEvG
set_option linter.unusedSimpArgs false
set_option linter.unusedVariables false
namespace Go.Ev

section
variable {P : Program} {E : Env} {σ : Sg} {w : World}

/-! keys -/
/-- the key's type is one that is treated -/
def keyOk (d : TypeDesc) (k : AV) : Prop :=
  match d, k with
  | .int _, .int _ _ => True
  | .string, .str _ => True
  | _, _ => False
theorem keyT_sound (hE : EnvOk P E) {t e : TypeId} {k : AV} (h : keyT E t k = some e) :
    ∃ kt d, P.underlying t = some (.map kt e) ∧ P.underlying kt = some d ∧ keyOk d k := by
  unfold keyT at h
  cases hg : E.ts.get t with
  | none => simp [hg] at h
  | some x =>
    have ht := hE.ts _ _ hg
    simp only [hg] at h
    split at h
    · rename_i kt e' hd
      cases hk : E.ts.get kt with
      | none => simp [hk] at h
      | some y =>
        have hty := hE.ts _ _ hk
        simp only [hk] at h
        split at h
        · rename_i hd2; cases h; exact ⟨kt, y.desc, by rw [ht.und, hd], hty.und, by rw [hd2]; trivial⟩
        · rename_i hd2; cases h; exact ⟨kt, y.desc, by rw [ht.und, hd], hty.und, by rw [hd2]; trivial⟩
        · cases h
    · cases h

theorem keyEq_sound {d : TypeDesc} {a b : AV} {x y : Value} (hx : conc σ a = some x) (hy : conc σ b = some y) (hk : keyOk d a) {r : Bool} (h : keyEq a b = some r) : Instr.sameNow d x y = some r := by
  unfold keyEq at h
  split at h
  · have e1 := conc_int hx; have e2 := conc_int hy; subst e1 e2
    split at h
    · rename_i hkk; subst hkk
      cases h
      cases d <;> simp [keyOk] at hk
      simp [Instr.sameNow, eqI_eq]
    · cases h
  · have e1 := conc_str hx; have e2 := conc_str hy; subst e1 e2
    cases h
    cases d <;> simp [keyOk] at hk
    simp only [Instr.sameNow, eqL_eq, beq_toListBytes, toList_mk]
  · cases h

theorem find_sound {d : TypeDesc} {k : AV} {x : Value} (hx : conc σ k = some x) (hk : keyOk d k) :
    ∀ {es : List (AV × AV × Nat)} {l : List MapEntry} {i : Nat} {r : Option (Nat × AV × Nat)}, concE σ es = some l → findA k es i = some r →
      (r = none ∧ Instr.findNow d x l i = some none) ∨
      (∃ j v b y kx, r = some (i + j, v, b) ∧ es[j]? = some (kx, v, b) ∧ conc σ v = some y ∧ Instr.findNow d x l i = some (some (i + j, y)) ∧ ∃ q, l[j]? = some q ∧ q.val = y ∧ q.born = b ∧ conc σ kx = some q.key ∧ Instr.sameNow d x q.key = some true)
  | [], l, i, r, hl, h => by
    simp [concE] at hl; subst hl
    simp [findA] at h; subst h
    exact .inl ⟨rfl, rfl⟩
  | (k', v, b) :: es, l, i, r, hl, h => by
    obtain ⟨kx, y, l', h1, h2, h3, rfl⟩ := concE_cons.1 hl
    simp only [findA] at h
    cases hq : keyEq k k' with
    | none => simp [hq] at h
    | some q =>
      have hs := keyEq_sound hx h1 hk hq
      cases q with
      | true =>
        simp [hq] at h; subst h
        exact .inr ⟨0, v, b, y, k', rfl, rfl, h2, by simp [Instr.findNow, hs], _, rfl, rfl, rfl, h1, hs⟩
      | false =>
        simp only [hq] at h
        rcases find_sound hx hk h3 h with ⟨e1, e2⟩ | ⟨j, v', b', y', kx', e1, e2, e3, e4, q, e5, e6⟩
        · exact .inl ⟨e1, by simp [Instr.findNow, hs, e2]⟩
        · refine .inr ⟨j + 1, v', b', y', kx', ?_, by simpa using e2, e3, ?_, q, by simpa using e5, e6⟩
          · rw [e1]; congr 2; omega
          · simp [Instr.findNow, hs, e4]; omega

theorem checkKey_ok {d : TypeDesc} {kt : TypeId} {k : AV} {x : Value} (hx : conc σ k = some x) (hd : P.underlying kt = some d) (hk : keyOk d k) (b : Bool) (n : Nat) : (Instr.checkKey b (n + 1) kt x).run P w = .ok () w := by
  cases k <;> simp only [keyOk] at hk <;> try (cases d <;> exact hk.elim)
  · have e := conc_int hx; subst e
    cases d <;> simp only [keyOk] at hk
    simp [Instr.checkKey, run_underlying hd]
  · have e := conc_str hx; subst e
    cases d <;> simp only [keyOk] at hk
    simp [Instr.checkKey, run_underlying hd]
theorem checkKey_ok' {d : TypeDesc} {kt : TypeId} {k : AV} {x : Value} (hx : conc σ k = some x) (hd : P.underlying kt = some d) (hk : keyOk d k) (b : Bool) : (Instr.checkKey b 10000 kt x).run P w = .ok () w := checkKey_ok hx hd hk b 9999
theorem findKey_of {d : TypeDesc} {kt : TypeId} {x : Value} {l : List MapEntry} {r : Option (Nat × Value)} (hd : P.underlying kt = some d) (h : Instr.findNow d x l 0 = some r) : (Instr.findKey kt x l).run P w = .ok r w := by
  simp [Instr.findKey, run_underlying hd, h]

theorem ORel.inv_map {c : Nat} {es : List (AV × AV × Nat)} {cl : Nat} {x : Obj} (h : ORel σ c (.map es cl) x) : ∃ es', x = .map es' cl ∧ concE σ es = some es'.toList := by
  cases x <;> simp only [ORel] at h
  obtain ⟨rfl, h⟩ := h
  exact ⟨_, rfl, h⟩
theorem ORel.inv_chan {c : Nat} {n : Nat} {buf : List AV} {cl : Bool} {x : Obj} (h : ORel σ c (.chan n buf cl) x) : ∃ buf' s r, x = .chan n buf' cl s r false ∧ concL σ buf = some buf'.toList := by
  cases x <;> simp only [ORel] at h
  obtain ⟨rfl, h, rfl, rfl⟩ := h
  exact ⟨_, _, _, rfl, h⟩

theorem run_getObj {r : Nat} {o : Obj} (h : w.heap[r]? = some o) (hn : ∀ c e f, o ≠ .cells c e f) : (getObj r).run P w = .ok o w := by
  simp only [getObj, Sem.run, h]

theorem lookup_sound (hE : EnvOk P E) {hp : H} (r : HRel σ hp w.heap) {t : TypeId} {m k : AV} {mx kx : Value} (hm : conc σ m = some mx) (hk : conc σ k = some kx) {ok : Bool} {v : AV} (h : lookupA E t m k ok hp = some v) :
    ∃ x, (Instr.lookup t mx kx ok).run P w = .ok x w ∧ conc σ v = some x := by
  unfold lookupA at h
  cases hkt : keyT E t k with
  | none => simp [hkt] at h
  | some e =>
    obtain ⟨kt, d, u1, u2, u3⟩ := keyT_sound hE hkt
    simp only [hkt] at h
    cases hg : E.ts.get e with
    | none => simp [hg] at h
    | some y =>
      have ht := hE.ts _ _ hg
      obtain ⟨z, hz1, hz2⟩ := ht.zero
      simp only [hg] at h
      have out : ∀ (v' : AV) (x' : Value) (b : Bool), conc σ v' = some x' → cond ok (some (AV.tuple [v', .bool b])) (some v') = some v → conc σ v = some (if ok then .tuple #[x', .bool b] else x') := by
        intro v' x' b hv' he
        cases ok with
        | true => simp at he; subst he; simp [conc, concL, hv']
        | false => simp at he; subst he; simpa using hv'
      unfold Instr.lookup
      simp only [Sem.run_bind, run_underlying u1, Result.andThen_ok]
      cases m <;> (try simp only at h) <;> try (cases h; done)
      rename_i rr
      cases rr with
      | none =>
        have := conc_mapNil hm; subst this
        refine ⟨_, ?_, out _ z false (hz2 σ) h⟩
        have f0 : Instr.findNow d kx ([] : List MapEntry) 0 = some none := rfl
        simp [checkKey_ok' hk u2 u3, findKey_of u2 f0, hz1]
      | some rr =>
        obtain ⟨b, c, s1, rfl⟩ := conc_map hm
        cases hgr : hp.t.get rr with
        | none => simp [hgr] at h
        | some ob =>
          obtain ⟨b', c', x', h1, h2, h3⟩ := r.objs rr ob hgr
          rw [s1] at h1; cases h1
          cases ob <;> simp only [hgr] at h <;> try (cases h; done)
          rename_i es cl
          obtain ⟨es', rfl, hes⟩ := h3.inv_map
          have hob := run_getObj (P := P) h2 (by intro _ _ _ e; cases e)
          cases hf : findA k es 0 with
          | none => simp [hf] at h
          | some fr =>
            rcases find_sound hk u3 hes hf with ⟨e1, e2⟩ | ⟨j, v', bn, y', kx', e1, e2, e3, e4, _⟩
            · subst e1
              simp only [hf] at h
              refine ⟨_, ?_, out _ z false (hz2 σ) h⟩
              simp [hob, checkKey_ok' hk u2 u3, findKey_of u2 e2, hz1]
            · subst e1
              simp only [hf] at h
              refine ⟨_, ?_, out _ y' true e3 h⟩
              simp [hob, checkKey_ok' hk u2 u3, findKey_of u2 e4]

/-! conversions -/
theorem shape_of {b : Nat} {cs : Array Value} {e : TypeId} {fz : Nat × Nat} (h : w.heap[b]? = some (.cells cs e fz)) : w.shape? b = some (e, cs.size) := by simp [World.shape?, h]

theorem bytes_sound : ∀ {cs : List AV} {l : List Value} {s : List UInt8}, concL σ cs = some l → bytesOf cs = some s → ∃ ns : List Nat, l = ns.map (fun n => Value.int .u8 (Int.ofNat n)) ∧ s = ns.map UInt8.ofNat
  | [], l, s, hl, h => by rw [concL_nil] at hl; subst hl; simp [bytesOf] at h; subst h; exact ⟨[], rfl, rfl⟩
  | v :: cs, l, s, hl, h => by
    obtain ⟨x, l', hx, hl', rfl⟩ := concL_cons.1 hl
    cases v with
    | int k n =>
      cases k <;> first | (simp [bytesOf] at h; done) | skip
      cases n with
      | negSucc m => simp [bytesOf] at h
      | ofNat m =>
        simp only [bytesOf] at h
        cases hb : bytesOf cs with
        | none => simp [hb] at h
        | some r =>
          simp [hb] at h; subst h
          have := conc_int hx; subst this
          obtain ⟨ns, rfl, rfl⟩ := bytes_sound hl' hb
          exact ⟨m :: ns, rfl, rfl⟩
    | _ => simp [bytesOf] at h

theorem run_bytesToString : ∀ (ns : List Nat) (s : ByteArray), (forIn (m := Sem) (ns.map (fun n => Value.int .u8 (Int.ofNat n))) s fun c __s =>
      match c with
      | .int .u8 n => pure (ForInStep.yield (__s.push (UInt8.ofNat n.toNat)))
      | _ => do
        stuck "bytesToString: byte expected"
        pure (ForInStep.yield __s)).run P w = .ok ⟨s.data ++ (ns.map UInt8.ofNat).toArray⟩ w
  | [], s => by simp
  | n :: ns, s => by
    rw [List.map_cons, List.forIn_cons]
    simp only [Sem.run_bind, Sem.run_pure, Result.andThen_ok]
    rw [run_bytesToString ns]
    simp only [Result.ok.injEq, and_true]
    congr 1
    simp

theorem conv_sound (hE : EnvOk P E) {hp : H} (r : HRel σ hp w.heap) {src dst : TypeId} {a : AV} {x : Value} (hx : conc σ a = some x) {v : AV} (h : convR E src dst a hp = some v) :
    ∃ y, (convert src dst x).run P w = .ok y w ∧ conc σ v = some y := by
  unfold convR at h
  cases hs : E.ts.get src with
  | none => simp [hs] at h
  | some s =>
    have hts := hE.ts _ _ hs
    cases hd : E.ts.get dst with
    | none => simp [hs, hd] at h
    | some d =>
      have htd := hE.ts _ _ hd
      simp only [hs, hd] at h
      split at h
      · rename_i k k' n hdd
        have e := conc_int hx; subst e
        rw [intV_eq, wrapA_eq] at h; cases h
        exact ⟨_, by unfold convert; simp only [Sem.run_bind, hts.run, htd.run, Result.andThen_ok, hdd]; cases s.desc <;> rfl, by simp [conc]⟩
      · rename_i b hdd
        have e := conc_str hx; subst e
        cases h
        exact ⟨_, by unfold convert; simp only [Sem.run_bind, hts.run, htd.run, Result.andThen_ok, hdd]; cases s.desc <;> rfl, by simp [conc]⟩
      · rename_i a n cc hdd
        split at h
        · rename_i e hsd
          cases he : E.ts.get e with
          | none => simp [he] at h
          | some y =>
            have hty := hE.ts _ _ he
            simp only [he] at h
            split at h
            · rename_i hyd
              unfold convert
              simp only [Sem.run_bind, hts.run, htd.run, Result.andThen_ok, hdd, hsd]
              cases a with
              | none =>
                obtain ⟨k, _, rfl⟩ := conc_sliceNil hx
                cases h
                refine ⟨.string ⟨⟨[]⟩⟩, ?_, by simp [conc]⟩
                simp [hty.run, hyd, Conv.bytesToString]
                rfl
              | some p =>
                obtain ⟨i, o⟩ := p
                obtain ⟨b, c', s1, rfl⟩ := conc_slice hx
                simp only at h
                cases hgr : hp.t.get i with
                | none => simp [hgr] at h
                | some ob =>
                  obtain ⟨b', c'', x', h1, h2, h3⟩ := r.objs i ob hgr
                  rw [s1] at h1; cases h1
                  cases ob <;> simp only [hgr] at h <;> try (cases h; done)
                  rename_i cs ee ext wr
                  cases hsub : sub o n cs with
                  | none => simp [hsub] at h
                  | some l =>
                    simp only [hsub] at h
                    cases hby : bytesOf l with
                    | none => simp [hby] at h
                    | some st =>
                      simp [hby] at h; subst h
                      obtain ⟨cs', fz, l', rr, rfl, hl, hcs, _, _⟩ := h3.inv_cells
                      have hlen := concL_length hl
                      have hm := concL_sub hl hsub
                      obtain ⟨_, e2⟩ := sub_eq hsub
                      obtain ⟨ns, hns, rfl⟩ := bytes_sound hm hby
                      refine ⟨.string ⟨⟨ns.map UInt8.ofNat⟩⟩, ?_, by simp [conc]⟩
                      have hload : (loadCells ⟨b, o, none⟩ n).run P w = .ok ((l'.drop o).take n).toArray w := by
                        unfold loadCells
                        rw [run_cells h2 n 0 #[] ((l'.drop o).take n)]
                        · simp
                        · rw [hcs]; simp only [Nat.add_zero]
                          rcases e2 with e2 | e2
                          · rw [List.drop_append_of_le_length (by omega), List.take_append_of_le_length (by simp; omega)]
                          · rw [e2]; simp
                        · rcases e2 with e2 | e2
                          · simp; omega
                          · simp [e2]
                      simp only [Sem.run_bind, hty.run, hyd, Result.andThen_ok, Conv.bytesToString, hload, hns]
                      have := run_bytesToString (P := P) (w := w) ns ByteArray.empty
                      rw [← Array.forIn_toList]
                      simp only [List.toList_toArray]
                      refine (congrArg (fun r : Result ByteArray => r.andThen fun a w' => Sem.run P (pure (Value.string a)) w') this).trans ?_
                      simp
            · cases h
        · cases h
      · rename_i i hdd
        split at h
        · rename_i t cs0 cs1 e wr hsd hgr
          cases hb : E.bx t e with
          | false => simp [hb] at h
          | true =>
            simp [hb] at h; subst h
            obtain ⟨⟨ii, hi1, hi2⟩, hc0, _⟩ := hE.bx t e hb
            obtain ⟨b, c, s1, rfl⟩ := conc_ptr hx
            obtain ⟨b', c'', x', h1, h2, h3⟩ := r.objs i _ hgr
            rw [s1] at h1; cases h1
            obtain ⟨cs', fz, l', rr, rfl, hl, hcs, hext, _⟩ := h3.inv_cells
            simp only [extOk] at hext
            refine ⟨_, ?_, hx⟩
            have hcv : (convert src dst (.pointer (some ⟨b, 0, none⟩))).run P w = (Conv.unsafePointer src dst (.pointer (some ⟨b, 0, none⟩))).run P w := by
              unfold convert
              simp only [Sem.run_bind, hts.run, htd.run, Result.andThen_ok, hdd, hsd]
            rw [hcv]
            show (Conv.unsafePointer src dst (.pointer (some ⟨b, 0, none⟩))).run P w = _
            unfold Conv.unsafePointer
            have hseen : (Conv.seenAt ⟨b, 0, none⟩).run P w = .ok ⟨b, 0, none⟩ w := by
              simp [Conv.seenAt, viewAt, shape_of h2]
            have hin : (cellsIn b).run P w = .ok (some cs'.size) w := by simp [cellsIn, shape_of h2]
            have hz : (sizeOf t).run P w = .ok ii.size w := by simp [sizeOf, typeInfo, hi1]
            simp [hts.run, htd.run, hdd, hsd, hseen, hin, hz, hi2, hext]
        · cases h
      · rename_i u i hdd
        split at h
        · rename_i cs e wr hsd hgr
          cases he : E.ts.get e with
          | none => simp [he] at h
          | some y =>
            have hty := hE.ts _ _ he
            simp only [he] at h
            cases hb : (E.bx u e && Nat.beq cs.length y.size) with
            | false => rw [hb] at h; cases h
            | true =>
              rw [hb] at h; simp only [cond_true] at h
              simp only [Bool.and_eq_true] at hb
              cases h
              have hsz := Nat.eq_of_beq_eq_true hb.2
              obtain ⟨⟨ii, hi1, hi2⟩, hc0, hlie⟩ := hE.bx u e hb.1
              obtain ⟨b, c, s1, rfl⟩ := conc_ptr hx
              obtain ⟨b', c'', x', h1, h2, h3⟩ := r.objs i _ hgr
              rw [s1] at h1; cases h1
              obtain ⟨cs', fz, l', rr, rfl, hl, hcs, hext, _⟩ := h3.inv_cells
              simp only [extOk] at hext
              refine ⟨_, ?_, hx⟩
              have hcv : (convert src dst (.pointer (some ⟨b, 0, none⟩))).run P w = (Conv.unsafePointer src dst (.pointer (some ⟨b, 0, none⟩))).run P w := by
                unfold convert
                simp only [Sem.run_bind, hts.run, htd.run, Result.andThen_ok, hdd, hsd]
              rw [hcv]
              show (Conv.unsafePointer src dst (.pointer (some ⟨b, 0, none⟩))).run P w = _
              unfold Conv.unsafePointer
              have hseen : (Conv.seenAt ⟨b, 0, none⟩).run P w = .ok ⟨b, 0, none⟩ w := by
                simp [Conv.seenAt, viewAt, shape_of h2]
              have hz : (sizeOf u).run P w = .ok ii.size w := by simp [sizeOf, typeInfo, hi1]
              have hco : P.cellsOf e = y.size := by
                obtain ⟨j, _, hj1, hj2, _⟩ := hty.info
                simp [Program.cellsOf, hj1, hj2]
              have hva : (variablesAt ⟨b, 0, none⟩ u 1).run P w = .ok true w := by
                have : cs'.size / P.cellsOf e = 1 := by rw [hext, hsz, hco]; exact Nat.div_self (by rw [← hco]; omega)
                simp [variablesAt, shape_of h2, this, hlie]
              simp [hts.run, htd.run, hdd, hsd, hseen, hz, hi2, hva]
        · cases h
      · cases h

end
end Go.Ev
