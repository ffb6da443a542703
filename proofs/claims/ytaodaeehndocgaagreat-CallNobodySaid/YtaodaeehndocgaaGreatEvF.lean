/- The evaluator's soundness: equality, parts, slices, conversions. -/
import Derived.Test.YtaodaeehndocgaaGreatEvE
set_option linter.unusedSimpArgs false
set_option linter.unusedVariables false
namespace Go.Ev

section
variable {P : Program} {t : TypeId} (w : World) (d : Nat)
theorem eq_bool (h : P.underlying t = some .bool) (a b : Bool) : (Op.equalIn (d + 1) t (.bool a) (.bool b)).run P w = .ok (a == b) w := by simp [Op.equalIn, run_underlying h]
theorem eq_int {k' : IntKind} (h : P.underlying t = some (.int k')) (k : IntKind) (a b : Int) : (Op.equalIn (d + 1) t (.int k a) (.int k b)).run P w = .ok (a == b) w := by simp [Op.equalIn, run_underlying h]
theorem eq_str (h : P.underlying t = some .string) (a b : ByteArray) : (Op.equalIn (d + 1) t (.string a) (.string b)).run P w = .ok (a == b) w := by simp [Op.equalIn, run_underlying h]
theorem eq_ptr1 {e : TypeId} (h : P.underlying t = some (.pointer e)) (b : Option Addr) : (Op.equalIn (d + 1) t (.pointer none) (.pointer b)).run P w = .ok b.isNone w := by simp [Op.equalIn, run_underlying h]
theorem eq_ptr2 {e : TypeId} (h : P.underlying t = some (.pointer e)) (a : Addr) : (Op.equalIn (d + 1) t (.pointer (some a)) (.pointer none)).run P w = .ok false w := by simp [Op.equalIn, run_underlying h]
theorem eq_ptr3 {e : TypeId} (h : P.underlying t = some (.pointer e)) (n : Nat) (hn : n ≠ 0) (hs : (sizeOf e).run P w = .ok n w) (a b : Addr) (hab : a.block = b.block) : (Op.equalIn (d + 1) t (.pointer (some a)) (.pointer (some b))).run P w = .ok (a == b) w := by
  have e1 : (sameAddr a b).run P w = .ok (a == b) w := by simp [sameAddr, hab]
  rw [Op.equalIn]
  simp only [Sem.run_bind, run_underlying h, Result.andThen_ok, hs, ne_eq, hn, not_false_eq_true, if_true, e1]
theorem eq_if1 {ms : Array (String × TypeId)} (h : P.underlying t = some (.interface ms)) (u : TypeId) (v : Value) : (Op.equalIn (d + 1) t .nilIface (.iface u v)).run P w = .ok false w := by simp [Op.equalIn, run_underlying h]
theorem eq_if2 {ms : Array (String × TypeId)} (h : P.underlying t = some (.interface ms)) (u : TypeId) (v : Value) : (Op.equalIn (d + 1) t (.iface u v) .nilIface).run P w = .ok false w := by simp [Op.equalIn, run_underlying h]
theorem eq_sl1 {e : TypeId} (h : P.underlying t = some (.slice e)) (n c : Nat) (b : Option Addr) (m k : Nat) : (Op.equalIn (d + 1) t (.slice none n c) (.slice b m k)).run P w = .ok b.isNone w := by simp [Op.equalIn, run_underlying h]
theorem eq_sl2 {e : TypeId} (h : P.underlying t = some (.slice e)) (a : Addr) (n c : Nat) (m k : Nat) : (Op.equalIn (d + 1) t (.slice (some a) n c) (.slice none m k)).run P w = .ok false w := by simp [Op.equalIn, run_underlying h]
theorem eq_map1 {e f : TypeId} (h : P.underlying t = some (.map e f)) (b : Option Nat) : (Op.equalIn (d + 1) t (.map none) (.map b)).run P w = .ok b.isNone w := by simp [Op.equalIn, run_underlying h]
theorem eq_map2 {e f : TypeId} (h : P.underlying t = some (.map e f)) (b : Nat) : (Op.equalIn (d + 1) t (.map (some b)) (.map none)).run P w = .ok false w := by simp [Op.equalIn, run_underlying h]
theorem eq_chan {e : ChanDir} {f : TypeId} (h : P.underlying t = some (.chan e f)) (a b : Option Nat) : (Op.equalIn (d + 1) t (.chan a) (.chan b)).run P w = .ok (a == b) w := by simp [Op.equalIn, run_underlying h]
theorem eq_fn0 {a b : Array TypeId} {c : Bool} (h : P.underlying t = some (.func a b c)) : (Op.equalIn (d + 1) t .nilFunc .nilFunc).run P w = .ok true w := by simp [Op.equalIn, run_underlying h]
theorem eq_fn1 {a b : Array TypeId} {c : Bool} (h : P.underlying t = some (.func a b c)) (f : Fn) (x y : Array Value) : (Op.equalIn (d + 1) t .nilFunc (.func f x y)).run P w = .ok false w := by simp [Op.equalIn, run_underlying h]
theorem eq_fn2 {a b : Array TypeId} {c : Bool} (h : P.underlying t = some (.func a b c)) (f : Fn) (x y : Array Value) : (Op.equalIn (d + 1) t (.func f x y) .nilFunc).run P w = .ok false w := by simp [Op.equalIn, run_underlying h]
end

section
variable {P : Program} {E : Env} {σ : Sg} {w : World}

theorem eqCell_sound {t : TypeId} {x : TI} (ht : TOk P t x) {a b : AV} {y z : Value} (ha : conc σ a = some y) (hb : conc σ b = some z) {r : Bool} (h : eqCell x.desc a b = some r) (d : Nat) :
    (Op.equalIn (d + 1) t y z).run P w = .ok r w := by
  unfold eqCell at h
  split at h
  · rename_i hd
    have e1 := conc_bool ha; have e2 := conc_bool hb; subst e1 e2
    cases h
    exact eq_bool w d (by rw [ht.und, hd]) _ _
  · rename_i k m k' n hd
    have e1 := conc_int ha; have e2 := conc_int hb; subst e1 e2
    split at h
    · rename_i hk; subst hk
      cases h
      rw [eqI_eq]; exact eq_int w d (by rw [ht.und, hd]) _ _ _
    · cases h
  · rename_i hd
    have e1 := conc_str ha; have e2 := conc_str hb; subst e1 e2
    cases h
    rw [eq_str w d (by rw [ht.und, hd]), beq_toListBytes, toList_mk, toList_mk, eqL_eq]
  · cases h

theorem eqCell_agg {x : TI} {a b : AV} {r : Bool} (h : eqCell x.desc a b = some r) : aggD x.desc = false := by
  unfold eqCell at h
  split at h <;> first | (rename_i hd; rw [hd]; rfl) | cases h

theorem part_one {t : TypeId} {x : TI} (ht : TOk P t x) (hagg : x.agg = false) {cs : Array Value} {o : Nat} {y : Value} (h : cs[o]? = some y) : (part t cs o).run P w = .ok y w := by
  simp [part, ht.isAgg, hagg, h]

theorem eqFields_sound (hE : EnvOk P E) {xs ys : List AV} {l m : List Value} (hx : concL σ xs = some l) (hy : concL σ ys = some m) (d : Nat) :
    ∀ {fs : List Field} {r : Bool}, eqFields E xs ys fs = some r → (Op.eqFields (d + 1) ⟨l⟩ ⟨m⟩ fs).run P w = .ok r w
  | [], r, h => by simp [eqFields] at h; subst h; simp [Op.eqFields]
  | f :: fs, r, h => by
    simp only [eqFields] at h
    split at h
    · cases h
    · rename_i hn
      split at h
      · rename_i t a b h1 h2 h3
        have ht := hE.ts _ _ h1
        obtain ⟨p, hp1, hp2⟩ := concL_nth hx h2
        obtain ⟨q, hq1, hq2⟩ := concL_nth hy h3
        have hag : t.agg = false := by
          rw [ht.agg]
          cases hc : eqCell t.desc a b with
          | none => simp [hc] at h
          | some r' => exact eqCell_agg hc
        have e1 : (part f.type (⟨l⟩ : Array Value) f.offset).run P w = .ok p w := part_one ht hag (by simpa using hp1)
        have e2 : (part f.type (⟨m⟩ : Array Value) f.offset).run P w = .ok q w := part_one ht hag (by simpa using hq1)
        cases hc : eqCell t.desc a b with
        | none => simp [hc] at h
        | some r' =>
          have e3 := eqCell_sound (w := w) ht hp2 hq2 hc d
          simp only [Op.eqFields, ne_eq, hn, not_false_eq_true, if_true, Sem.run_bind, e1, e2, e3, Result.andThen_ok]
          cases r' with
          | false => simp [hc] at h; subst h; simp
          | true => simp [hc] at h; simpa using eqFields_sound hE hx hy d h
      · cases h

theorem eqArr_sound {t : TypeId} {x : TI} (ht : TOk P t x) (hsz : x.size = 1) (d : Nat) (l m : List Value) :
    ∀ {xs ys : List AV} {l' m' : List Value} {k : Nat} {r : Bool}, concL σ xs = some l' → concL σ ys = some m' → l.drop k = l' → m.drop k = m' → eqArr x.desc xs ys = some r →
      ∀ (R : Bool → Result Bool), (forIn (List.range' k l'.length) ((none, ()) : Option Bool × Unit) fun i _ => do
          let b ← Op.equalIn (d + 1) t (← part t (⟨l⟩ : Array Value) (i * 1)) (← part t (⟨m⟩ : Array Value) (i * 1))
          if (!b) = true then pure (ForInStep.done (some false, ())) else pure (ForInStep.yield (none, ())) : Sem (Option Bool × Unit)).run P w = .ok (if r then none else some false, ()) w := by
  intro xs
  induction xs with
  | nil =>
    intro ys l' m' k r hx hy h1 h2 h R
    rw [concL_nil] at hx; subst hx
    cases ys with
    | nil => simp [eqArr] at h; subst h; simp
    | cons b ys => simp [eqArr] at h
  | cons a xs ih =>
    intro ys l' m' k r hx hy h1 h2 h R
    cases ys with
    | nil => simp [eqArr] at h
    | cons b ys =>
      obtain ⟨p, l'', hp, hl, rfl⟩ := concL_cons.1 hx
      obtain ⟨q, m'', hq, hm, rfl⟩ := concL_cons.1 hy
      simp only [eqArr] at h
      cases hc : eqCell x.desc a b with
      | none => simp [hc] at h
      | some r' =>
        have hag : x.agg = false := by rw [ht.agg]; exact eqCell_agg hc
        have g1 : l[k]? = some p := by have : (l.drop k)[0]? = some p := by rw [h1]; rfl
                                       simpa using this
        have g2 : m[k]? = some q := by have : (m.drop k)[0]? = some q := by rw [h2]; rfl
                                       simpa using this
        have e1 : (part t (⟨l⟩ : Array Value) k).run P w = .ok p w := part_one ht hag (by simpa using g1)
        have e2 : (part t (⟨m⟩ : Array Value) k).run P w = .ok q w := part_one ht hag (by simpa using g2)
        have e3 := eqCell_sound (w := w) ht hp hq hc d
        have d1 : l.drop (k + 1) = l'' := by have : (l.drop k).drop 1 = l'' := by rw [h1]; rfl
                                             rw [List.drop_drop] at this; exact this
        have d2 : m.drop (k + 1) = m'' := by have : (m.drop k).drop 1 = m'' := by rw [h2]; rfl
                                             rw [List.drop_drop] at this; exact this
        rw [List.length_cons, List.range'_succ, List.forIn_cons]
        simp only [Nat.mul_one, Sem.run_bind, e1, e2, e3, Result.andThen_ok]
        cases r' with
        | false => simp [hc] at h; subst h; simp
        | true =>
          simp [hc] at h
          have := ih hl hm d1 d2 h R
          simp only [Nat.mul_one] at this
          simpa using this

set_option maxHeartbeats 1000000 in
theorem eqV_at (hE : EnvOk P E) {t : TypeId} {a b : AV} {x y : Value} (hx : conc σ a = some x) (hy : conc σ b = some y) {r : Bool} (h : eqV E t a b = some r) (d : Nat) :
    (Op.equalIn (d + 1 + 1) t x y).run P w = .ok r w ∧ (∀ op p q, (eqGuard op t p q x y).run P w = .ok () w) := by
  unfold eqV at h
  cases hg : E.ts.get t with
  | none => simp [hg] at h
  | some i =>
    have ht := hE.ts _ _ hg
    simp only [hg] at h
    have guard : (∀ cs, x ≠ .agg cs) → (x = .nilIface → y ≠ .nilIface) → ∀ op p q, (eqGuard op t p q x y).run P w = .ok () w := by
      intro h1 h2 op p q
      cases op <;> (first | (simp [eqGuard]; done) | skip)
      all_goals
        cases x <;> cases y <;> first | (exact absurd rfl (h1 _)) | (exact absurd rfl (h2 rfl)) | simp [eqGuard]
    split at h
    · rename_i hd
      have e1 := conc_bool hx; have e2 := conc_bool hy; subst e1 e2
      cases h
      exact ⟨eq_bool w (d + 1) (by rw [ht.und, hd]) _ _, guard (by intro _ e; cases e) (by intro e; cases e)⟩
    · rename_i b hd
      simp only [conc] at hx; cases hx
      cases h
      refine ⟨?_, guard (by intro _ e; cases e) (by intro e; cases e)⟩
      rcases b with _ | ⟨i, o⟩
      · simp only [conc] at hy; cases hy; exact eq_ptr1 w (d + 1) (by rw [ht.und, hd]) _
      · obtain ⟨_, _, _, rfl⟩ := conc_ptr hy; exact eq_ptr1 w (d + 1) (by rw [ht.und, hd]) _
    · rename_i p hd
      obtain ⟨i, o⟩ := p
      obtain ⟨_, _, _, rfl⟩ := conc_ptr hx
      simp only [conc] at hy; cases hy
      cases h
      exact ⟨eq_ptr2 w (d + 1) (by rw [ht.und, hd]) _, guard (by intro _ e; cases e) (by intro e; cases e)⟩
    · rename_i e a' o b' p hd
      cases he : E.ts.get e with
      | none => simp [he] at h
      | some ei =>
        have hte := hE.ts _ _ he
        simp only [he] at h
        split at h
        · cases h
        · rename_i hsz
          split at h
          · rename_i hab; subst hab
            obtain ⟨b₁, c₁, s1, rfl⟩ := conc_ptr hx
            obtain ⟨b₂, c₂, s2, rfl⟩ := conc_ptr hy
            rw [s1] at s2; cases s2
            cases h
            refine ⟨?_, guard (by intro _ e; cases e) (by intro e; cases e)⟩
            rw [eq_ptr3 w (d + 1) (by rw [ht.und, hd]) ei.size hsz (hte.size w) ⟨b₁, o, none⟩ ⟨b₁, p, none⟩ rfl]
            congr 1
            rw [Bool.eq_iff_iff]; simp
          · cases h
    · rename_i hd
      simp only [conc] at hx; cases hx
      obtain ⟨_, _, rfl⟩ := conc_iface hy
      cases h
      exact ⟨eq_if1 w (d + 1) (by rw [ht.und, hd]) _ _, guard (by intro _ e; cases e) (by intro _ e; cases e)⟩
    · rename_i hd
      simp only [conc] at hy; cases hy
      obtain ⟨_, _, rfl⟩ := conc_iface hx
      cases h
      exact ⟨eq_if2 w (d + 1) (by rw [ht.und, hd]) _ _, guard (by intro _ e; cases e) (by intro e; cases e)⟩
    · rename_i b _ _ hd
      obtain ⟨_, _, rfl⟩ := conc_sliceNil hx
      cases h
      refine ⟨?_, guard (by intro _ e; cases e) (by intro e; cases e)⟩
      rcases b with _ | ⟨i, o⟩
      · obtain ⟨_, _, rfl⟩ := conc_sliceNil hy; exact eq_sl1 w (d + 1) (by rw [ht.und, hd]) _ _ _ _ _
      · obtain ⟨_, _, _, rfl⟩ := conc_slice hy; exact eq_sl1 w (d + 1) (by rw [ht.und, hd]) _ _ _ _ _
    · rename_i p _ _ _ _ hd
      obtain ⟨i, o⟩ := p
      obtain ⟨_, _, _, rfl⟩ := conc_slice hx
      obtain ⟨_, _, rfl⟩ := conc_sliceNil hy
      cases h
      exact ⟨eq_sl2 w (d + 1) (by rw [ht.und, hd]) _ _ _ _ _, guard (by intro _ e; cases e) (by intro e; cases e)⟩
    · rename_i b hd
      have e1 := conc_mapNil hx; subst e1
      cases h
      refine ⟨?_, guard (by intro _ e; cases e) (by intro e; cases e)⟩
      rcases b with _ | i
      · have := conc_mapNil hy; subst this; exact eq_map1 w (d + 1) (by rw [ht.und, hd]) _
      · obtain ⟨_, _, _, rfl⟩ := conc_map hy; exact eq_map1 w (d + 1) (by rw [ht.und, hd]) _
    · rename_i hd
      obtain ⟨_, _, _, rfl⟩ := conc_map hx
      have e1 := conc_mapNil hy; subst e1
      cases h
      exact ⟨eq_map2 w (d + 1) (by rw [ht.und, hd]) _, guard (by intro _ e; cases e) (by intro e; cases e)⟩
    · rename_i b hd
      simp only [conc] at hx; cases hx
      cases h
      refine ⟨?_, guard (by intro _ e; cases e) (by intro e; cases e)⟩
      rcases b with _ | i
      · simp only [conc] at hy; cases hy; exact eq_chan w (d + 1) (by rw [ht.und, hd]) _ _
      · obtain ⟨_, _, _, rfl⟩ := conc_chan hy; exact eq_chan w (d + 1) (by rw [ht.und, hd]) _ _
    · rename_i hd
      obtain ⟨_, _, _, rfl⟩ := conc_chan hx
      simp only [conc] at hy; cases hy
      cases h
      exact ⟨eq_chan w (d + 1) (by rw [ht.und, hd]) _ _, guard (by intro _ e; cases e) (by intro e; cases e)⟩
    · rename_i hd
      simp only [conc] at hx hy; cases hx; cases hy; cases h
      exact ⟨eq_fn0 w (d + 1) (by rw [ht.und, hd]), guard (by intro _ e; cases e) (by intro e; cases e)⟩
    · rename_i hd
      obtain ⟨_, _, _, _, rfl⟩ := conc_func hy
      simp only [conc] at hx; cases hx; cases h
      exact ⟨eq_fn1 w (d + 1) (by rw [ht.und, hd]) _ _ _, guard (by intro _ e; cases e) (by intro e; cases e)⟩
    · rename_i hd
      obtain ⟨_, _, _, _, rfl⟩ := conc_func hx
      simp only [conc] at hy; cases hy; cases h
      exact ⟨eq_fn2 w (d + 1) (by rw [ht.und, hd]) _ _ _, guard (by intro _ e; cases e) (by intro e; cases e)⟩
    · rename_i fs xs ys hd
      cases hb : E.be t with
      | false => simp [hb] at h
      | true =>
        obtain ⟨b1, b2⟩ := hE.be t hb
        simp only [hb, cond_true] at h
        obtain ⟨l, hl, rfl⟩ := conc_agg hx
        obtain ⟨m, hm, rfl⟩ := conc_agg hy
        have hu : P.underlying t = some (.struct fs) := by rw [ht.und, hd]
        have hf : P.fieldsOf t = fs := by simp [Program.fieldsOf, hu]
        refine ⟨?_, fun op p q => run_eqGuard_agg w op t p q _ _ b1⟩
        rw [run_equalIn_struct w (d + 1) t _ _ (by rw [hf, hu]) b2, hf]
        exact eqFields_sound hE hl hm d h
    · rename_i n e xs ys hd
      cases he : E.ts.get e with
      | none => simp [he] at h
      | some ei =>
        have hte := hE.ts _ _ he
        simp only [he] at h
        cases hb : (E.be t && (Nat.beq xs.length n && (Nat.beq ys.length n && Nat.beq ei.size 1))) with
        | false => rw [hb] at h; cases h
        | true =>
          rw [hb] at h; simp only [cond_true] at h
          simp only [Bool.and_eq_true] at hb
          obtain ⟨hb0, hb1, hb2, hb3⟩ := hb
          have hn := Nat.eq_of_beq_eq_true hb1
          have hsz := Nat.eq_of_beq_eq_true hb3
          obtain ⟨b1, b2⟩ := hE.be t hb0
          obtain ⟨l, hl, rfl⟩ := conc_agg hx
          obtain ⟨m, hm, rfl⟩ := conc_agg hy
          have hll := concL_length hl
          refine ⟨?_, fun op p q => run_eqGuard_agg w op t p q _ _ b1⟩
          have key := eqArr_sound (w := w) hte hsz d l m (k := 0) hl hm (by simp) (by simp) h (fun b => .ok b w)
          rw [Op.equalIn]
          simp only [Sem.run_bind, ht.run, hd, Result.andThen_ok, hte.size, hsz, Std.Legacy.Range.forIn_eq_forIn_range', Std.Legacy.Range.size, Nat.sub_zero, Nat.add_sub_cancel, Nat.div_one]
          have hln : n = l.length := by omega
          rw [hln]
          rw [key]
          cases r <;> simp
    · cases h
theorem eqV_sound (hE : EnvOk P E) {t : TypeId} {a b : AV} {x y : Value} (hx : conc σ a = some x) (hy : conc σ b = some y) {r : Bool} (h : eqV E t a b = some r) :
    (Op.equal t x y).run P w = .ok r w ∧ (∀ op p q, (eqGuard op t p q x y).run P w = .ok () w) := eqV_at hE hx hy h 9998

end
end Go.Ev
