/- The evaluator's soundness: regions that draw their order: one operation, whichever is next. -/
import Derived.Test.YtaodaeehndocgaaGreatEvV
set_option linter.unusedSimpArgs false
set_option linter.unusedVariables false
namespace Go.Ev

/-- new blocks that are not yet in the evaluator's heap -/
def Un (ps : List PE) (rs : List RR) (L : Array Bool) (x : Nat) (o : AObj) : Prop :=
  L.getD x false = true ∧ (∃ vs v, rs[x]? = some ⟨vs, v, some o⟩) ∧ ∀ e req, ps[e]? = some (.eff req) → L.getD e false = true → x ∉ req

structure Inv (ops : Array Oper) (ps : List PE) (rs : List RR) (hs : List H) (nt : Nat) (tm0 : T AV) (σ0 : Sg) (h0 : H) (w0 : World) (L : Array Bool) (h : H) (σ : Sg) (w : World) (tm : T AV) (tmps : Array Value) : Prop where
  size : L.size = ops.size
  dc : ∀ j, L.getD j false = true → ∀ i, bef (masks ops.toList []) i j = true → L.getD i false = true
  hk : hs[(List.range ops.size).countP fun i => effAt ps i && L.getD i false]? = some h
  rel : HRel σ h w.heap
  ext : Ext σ0 h0 w0 σ h w
  nx : h0.next + ops.size ≤ h.next
  al : ∀ x o, Un ps rs L x o → ∃ b c obj, σ (h0.next + x) = some (b, c) ∧ w0.heap.size ≤ b ∧ w.heap[b]? = some obj ∧ ORel σ c o obj ∧ ∀ i o' c', h.t.get i = some o' → σ i = some (b, c') → False
  inj : ∀ x y o o' b c c', Un ps rs L x o → Un ps rs L y o' → σ (h0.next + x) = some (b, c) → σ (h0.next + y) = some (b, c') → x = y
  nd : ∀ x, x < ops.size → L.getD x false = false → σ (h0.next + x) = none
  tmk : TmOk ops rs tm0 (fun i => L.getD i false = true) tm
  tr : TRel σ nt tm tmps

section
variable {P : Program} {E : Env} {ops : Array Oper} {ps : List PE} {rs : List RR} {hs : List H} {nt : Nat} {tm0 : T AV} {σ0 : Sg} {h0 : H} {w0 : World} {L : Array Bool} {h : H} {σ : Sg} {w : World} {tm : T AV} {tmps : Array Value}

theorem Inv.merge (inv : Inv ops ps rs hs nt tm0 σ0 h0 w0 L h σ w tm tmps) {req : List Nat} {hm : H} (hreq : ∀ x ∈ req, ∀ o vs v, rs[x]? = some ⟨vs, v, some o⟩ → Un ps rs L x o) (hme : mergeF h0.next rs h req = some hm) :
    HRel σ hm w.heap ∧ Ext σ0 h0 w0 σ hm w ∧ hm.next = h.next ∧
    ∀ i o b c, hm.t.get i = some o → σ i = some (b, c) → (∃ i o c, h.t.get i = some o ∧ σ i = some (b, c)) ∨ ∃ x ∈ req, ∃ o c, Un ps rs L x o ∧ σ (h0.next + x) = some (b, c) := by
  obtain ⟨h1, h2⟩ := mergeF_spec hme
  have old : ∀ i o, hm.t.get i = some o → h.t.get i = some o ∨ ∃ x ∈ req, i = h0.next + x ∧ Un ps rs L x o := fun i o hi => by
    rcases h2 i o hi with q | ⟨x, hx, e, vs, v, q⟩
    · exact .inl q
    · exact .inr ⟨x, hx, e, hreq x hx _ _ _ q⟩
  have img : ∀ i o b c, hm.t.get i = some o → σ i = some (b, c) → (∃ i o c, h.t.get i = some o ∧ σ i = some (b, c)) ∨ ∃ x ∈ req, ∃ o c, Un ps rs L x o ∧ σ (h0.next + x) = some (b, c) := fun i o b c hi hsi => by
    rcases old i o hi with q | ⟨x, hx, rfl, q⟩
    · exact .inl ⟨i, o, c, q, hsi⟩
    · exact .inr ⟨x, hx, o, c, q, hsi⟩
  refine ⟨⟨fun i hi => inv.rel.fresh i (by omega), fun i o hi => ?_, fun i j o o' b c c' hi hj hsi hsj => ?_⟩, ⟨inv.ext.os, inv.ext.tape, inv.ext.output, inv.ext.size, by rw [h1]; exact inv.ext.next, inv.ext.old, inv.ext.keeps, fun i o b c hi hsi hb => ?_⟩, h1, img⟩
  · rcases old i o hi with q | ⟨x, hx, rfl, q⟩
    · exact inv.rel.objs i o q
    · obtain ⟨b, c, obj, a1, a2, a3, a4, a5⟩ := inv.al x o q
      exact ⟨b, c, obj, a1, a3, a4⟩
  · rcases old i o hi with q | ⟨x, hx, rfl, q⟩ <;> rcases old j o' hj with q' | ⟨y, hy, rfl, q'⟩
    · exact inv.rel.inj i j o o' b c c' q q' hsi hsj
    · obtain ⟨b', c₁, obj, a1, a2, a3, a4, a5⟩ := inv.al y o' q'
      rw [a1] at hsj; cases hsj
      exact (a5 i o _ q hsi).elim
    · obtain ⟨b', c₁, obj, a1, a2, a3, a4, a5⟩ := inv.al x o q
      rw [a1] at hsi; cases hsi
      exact (a5 j o' _ q' hsj).elim
    · rw [inv.inj x y o o' b c c' q q' hsi hsj]
  · rcases img i o b c hi hsi with ⟨i', o', c', q1, q2⟩ | ⟨x, hx, o', c', q1, q2⟩
    · exact inv.ext.img i' o' b c' q1 q2 hb
    · obtain ⟨b', c₁, obj, a1, a2, a3, a4, a5⟩ := inv.al x o' q1
      rw [a1] at q2; cases q2
      omega

theorem getD_set {L : Array Bool} {j : Nat} (hj : j < L.size) (i : Nat) : (L.setIfInBounds j true).getD i false = if i = j then true else L.getD i false := by
  by_cases e : i = j
  · subst e; simp [hj]
  · rw [if_neg e]
    simp [Array.getElem?_setIfInBounds_ne (Ne.symm e)]
theorem mem_directs {o : Oper} {d : Nat} : d ∈ directs o ↔ ∃ e ∈ o.after, Region.binds .any e = true ∧ e.on = d := by
  unfold directs
  simp only [List.mem_filterMap, Array.mem_toList_iff]
  constructor
  · rintro ⟨e, he, q⟩
    split at q
    · rename_i hb; cases q; exact ⟨e, he, hb, rfl⟩
    · cases q
  · rintro ⟨e, he, hb, rfl⟩
    exact ⟨e, he, by rw [if_pos hb]⟩

theorem stepA_noDefer {rc : AF → H → Option (AV × H)} {op : Op} {vs : List AV} {r : AV × H} (hs : stepA E rc (effA E op vs h) = some r) (c : Call) : op ≠ .defer c := by
  intro q
  cases he : effA E op vs h with
  | none => rw [he] at hs; cases hs
  | some p =>
    obtain ⟨n, h₀⟩ := p
    obtain ⟨f, args, rfl⟩ := effA_noDefer q he
    rw [he] at hs; cases hs

set_option maxHeartbeats 1000000 in
theorem draw_step (hE : EnvOk P E) {rc : AF → H → Option (AV × H)} (hrc : RC P rc) {fin : List Nat} (pf : PF ops ps fin)
    (facts : ∀ i, i < ops.size → HasFact E rc ops ps nt h0.next tm0 hs rs i)
    (same : ∀ (j : Nat) (o : Oper) (ks req : List Nat) (rr : RR) (vs : List AV), ops[j]? = some o → ps[j]? = some (.light ks req) → rs[j]? = some rr → rr.vs = some vs → sameAt E h0.next o.op vs rr.v hs rs req ks = true)
    (inv : Inv ops ps rs hs nt tm0 σ0 h0 w0 L h σ w tm tmps) {j : Nat} (hj : j ∈ Region.ready .any ops L)
    (f : FuncId) (k : List Item) (d : List Deferred) (kd : CallKind) (ro : Option Nat) (rest : List Nat) :
    ∃ h' σ' w' tm' tmps', Inv ops ps rs hs nt tm0 σ0 h0 w0 (L.setIfInBounds j true) h' σ' w' tm' tmps' ∧
      ∀ cs, Steps P (lone ⟨f, tmps, .inRegion ops (j :: rest) :: k, d, .run, kd, ro⟩ cs w) (lone ⟨f, tmps', .inRegion ops rest :: k, d, .run, kd, ro⟩ cs w') := by
  obtain ⟨hun, o, ho, haft⟩ := mem_ready.1 hj
  have hjn : j < ops.size := (Array.getElem?_eq_some_iff.1 ho).1
  have hjL : j < L.size := by rw [inv.size]; exact hjn
  have hDj : L.getD j false = false := by
    simp [hjL] at hun ⊢; exact hun
  obtain ⟨o', p, rr, tmj, hj0, F⟩ := facts j hjn
  have : o' = o := by have := F.fo; rw [ho] at this; cases this; rfl
  subst this
  -- all that is ahead is done
  have hpre : ∀ i, bef (masks ops.toList []) i j = true → L.getD i false = true := fun i hi => by
    obtain ⟨d', hd1, hd2⟩ := (bef_iff ho (pf.dir j _ ho) i).1 hi
    obtain ⟨e, he, hb, rfl⟩ := mem_directs.1 hd1
    have := haft e he hb
    rcases hd2 with rfl | q
    · exact this
    · exact inv.dc _ this i q
  have hpost : ∀ i, L.getD i false = true → bef (masks ops.toList []) j i = false := fun i hi => by
    cases hb : bef (masks ops.toList []) j i with
    | false => rfl
    | true => have := inv.dc i hi j hb; rw [hDj] at this; cases this
  have hblt : ∀ (n i : Nat), i < ops.size → ∀ m, bef (masks ops.toList []) m i = true → i < n → m < i := by
    intro n
    induction n with
    | zero => intro i _ m _ q; omega
    | succ n ih =>
      intro i hi m hm hn
      obtain ⟨d', hd1, hd2⟩ := (bef_iff (Array.getElem?_eq_getElem hi) (pf.dir i _ (Array.getElem?_eq_getElem hi)) m).1 hm
      have hlt := pf.dir i _ (Array.getElem?_eq_getElem hi) d' hd1
      rcases hd2 with rfl | q
      · exact hlt
      · have := ih d' (by omega) m q (by omega); omega
  -- the slots that it looks at are as in the text's order
  have hagree : ∀ t ∈ o'.looksAt ops, tm.get t = tmj.get t := fun t ht => by
    by_cases hex : ∃ i a, ops[i]? = some a ∧ a.dst = some t ∧ i ≠ j
    · obtain ⟨i, a, ha, hd, hne⟩ := hex
      have hin : i < ops.size := (Array.getElem?_eq_some_iff.1 ha).1
      rcases (pf.slots i j a o' t hne ha ho hd).2 ht with q | q
      · have hD := hpre i q
        have hlt := hblt (j + 1) j hjn i q (by omega)
        obtain ⟨r1, g1, g2⟩ := inv.tmk.one i hD
        obtain ⟨r2, g3, g4⟩ := F.ftm.one i hlt
        rw [g1] at g3; cases g3
        rw [g2 a t ha hd, g4 a t ha hd]
      · have hlt := hblt (i + 1) i hin j q (by omega)
        have hnD : L.getD i false = false := by
          cases hb : L.getD i false with
          | false => rfl
          | true => have := hpost i hb; rw [q] at this; cases this
        rw [inv.tmk.two t fun i' b hi' hb hbd => ?_, F.ftm.two t fun i' b hi' hb hbd => ?_]
        · by_cases e : i' = i
          · subst e; omega
          · exact (pf.slots i' i b a t e hb ha hbd).1 hd
        · by_cases e : i' = i
          · subst e; rw [hnD] at hi'; cases hi'
          · exact (pf.slots i' i b a t e hb ha hbd).1 hd
    · rw [inv.tmk.two t fun i' b hi' hb hbd => ?_, F.ftm.two t fun i' b hi' hb hbd => ?_]
      · exact hex ⟨i', b, hb, hbd, by omega⟩
      · exact hex ⟨i', b, hb, hbd, fun q => by subst q; rw [hDj] at hi'; cases hi'⟩
  have hw := wanted_same (ops := ops) (o := o') hagree
  have hv := args_same (ops := ops) (o := o') hagree
  have hwm := wanted_sound inv.tr ops o'
  -- what is done behind it
  have hL' := getD_set hjL
  have hdc' : ∀ i, (L.setIfInBounds j true).getD i false = true → ∀ m, bef (masks ops.toList []) m i = true → (L.setIfInBounds j true).getD m false = true := fun i hi m hm => by
    rw [hL'] at hi ⊢
    split
    · rfl
    · split at hi
      · rename_i e; subst e; exact hpre m hm
      · exact inv.dc i hi m hm
  have hcnt : (List.range ops.size).countP (fun i => effAt ps i && (L.setIfInBounds j true).getD i false) = (List.range ops.size).countP (fun i => effAt ps i && L.getD i false) + if isEff p = true then 1 else 0 := by
    rw [countP_one (f := fun i => effAt ps i && L.getD i false) (j := j) (fun i hi => by rw [hL', if_neg hi]) (by simp [hDj])]
    congr 1
    rw [hL', if_pos rfl, effAt_of F.fp]
    simp [hjn]
  have htm' : ∀ tm', (∀ t, tm'.get t = if o'.dst = some t then some rr.v else tm.get t) → TmOk ops rs tm0 (fun i => (L.setIfInBounds j true).getD i false = true) tm' := fun tm' hg => by
    refine ⟨fun i hi => ?_, fun t ht => ?_⟩
    · rw [hL'] at hi
      split at hi
      · rename_i e; subst e
        refine ⟨rr, F.frr, fun a d' ha hd => ?_⟩
        rw [ho] at ha; cases ha
        rw [hg, if_pos hd]
      · rename_i e
        obtain ⟨r1, g1, g2⟩ := inv.tmk.one i hi
        refine ⟨r1, g1, fun a d' ha hd => ?_⟩
        rw [hg, if_neg (pf.slots i j a o' d' e ha ho hd).1]
        exact g2 a d' ha hd
    · rw [hg, if_neg (ht j o' (by rw [hL', if_pos rfl]) ho)]
      exact inv.tmk.two t fun i a hi ha => ht i a (by rw [hL']; split <;> first | rfl | exact hi) ha
  obtain ⟨tm', htg, htr⟩ : ∃ tm', (∀ t, tm'.get t = if o'.dst = some t then some rr.v else tm.get t) ∧ ∀ σ tmps x, TRel σ nt tm tmps → conc σ rr.v = some x → TRel σ nt tm' (putT o'.dst x tmps) := by
    have hex : ∃ y, putDst nt o'.dst rr.v tm some = some y := by
      cases hd : o'.dst with
      | none => exact ⟨tm, rfl⟩
      | some d' =>
        have := blt_true.2 (F.dst d' hd)
        simp only [putDst, this, cond_true, setK_set]
        exact ⟨_, rfl⟩
    obtain ⟨y, hy⟩ := hex
    obtain ⟨t1, q1, q2⟩ := putDst_eq hy
    obtain ⟨_, t2, q3, q4⟩ := putDst_get hy
    cases q1; cases q3
    exact ⟨_, q4, q2⟩
  -- the effects that are done, where it is one
  have hrank : isEff p = true → (List.range ops.size).countP (fun i => effAt ps i && L.getD i false) = rank ps j := fun hp => by
    refine countP_cut (fun i hi => ?_) (fun i hi => ?_) ops.size (by omega)
    · cases he : effAt ps i with
      | false => simp
      | true => simp only [Bool.true_and]; exact hpre i (pf.effs i j hi hjn he (by rw [effAt_of F.fp]; exact hp))
    · cases he : effAt ps i with
      | false => simp
      | true =>
        simp only [Bool.true_and]
        by_cases e : i = j
        · subst e; exact hDj
        · cases hb : L.getD i false with
          | false => rfl
          | true =>
            have hin : i < ops.size := by
              rcases Nat.lt_or_ge i ops.size with q | q
              · exact q
              · rw [← inv.size] at q; simp [Array.getElem?_eq_none q] at hb
            have := hpost i hb
            rw [pf.effs j i (by omega) hin (by rw [effAt_of F.fp]; exact hp) he] at this
            cases this
  have hreqE : ∀ req, p = .eff req → ∀ x ∈ req, ∀ o vs v, rs[x]? = some ⟨vs, v, some o⟩ → Un ps rs L x o := fun req hp x hx o vs v hr => by
    subst hp
    obtain ⟨q1, q2⟩ := pf.eff j req F.fp x hx
    refine ⟨hpre x q1, ⟨vs, v, hr⟩, fun e req' he hD hx' => ?_⟩
    obtain ⟨q3, q4⟩ := pf.eff e req' he x hx'
    have hee : effAt ps e = true := by rw [effAt_of he]; rfl
    have hen : e < ops.size := by have := (List.getElem?_eq_some_iff.1 he).1; have := pf.len; omega
    rcases Nat.lt_trichotomy e j with hlt | rfl | hgt
    · have := q2 e hlt hee; rw [q3] at this; cases this
    · rw [hDj] at hD; cases hD
    · have := hpost e hD
      rw [pf.effs j e hgt hen (by rw [effAt_of F.fp]; rfl) hee] at this; cases this
  -- new blocks behind it, where it makes none
  have hUn : rr.ob = none → ∀ x o, Un ps rs (L.setIfInBounds j true) x o → Un ps rs L x o ∧ ∀ req, p = .eff req → x ∉ req := fun hob x o hx => by
    obtain ⟨q1, q2, q3⟩ := hx
    rw [hL'] at q1
    by_cases e : x = j
    · subst e
      obtain ⟨vs, v, q2⟩ := q2
      rw [F.frr] at q2; cases q2; cases hob
    · rw [if_neg e] at q1
      refine ⟨⟨q1, q2, fun e' req he hD => q3 e' req he (by rw [hL']; split <;> first | rfl | exact hD)⟩, fun req hp => ?_⟩
      subst hp
      exact q3 j req F.fp (by rw [hL', if_pos rfl])
  have hnd' : ∀ x, x < ops.size → (L.setIfInBounds j true).getD x false = false → x ≠ j ∧ L.getD x false = false := fun x hx q => by
    rw [hL'] at q
    split at q
    · cases q
    · rename_i e; exact ⟨e, q⟩
  -- an effect's end: memory h', behind hm
  have effEnd : ∀ {req : List Nat} {hm h' : H} {σ' : Sg} {w' : World} {tmps' : Array Value}, p = .eff req → rr.ob = none → mergeF h0.next rs hj0 req = some hm → hs[rank ps j + 1]? = some h' →
      HRel σ' h' w'.heap → Ext σ hm w σ' h' w' → TRel σ' nt tm' tmps' → Inv ops ps rs hs nt tm0 σ0 h0 w0 (L.setIfInBounds j true) h' σ' w' tm' tmps' := by
    intro req hm h' σ' w' tmps' hp hob hme hh' hrel hext htr'
    have hpe : isEff p = true := by rw [hp]; rfl
    have hr := hrank hpe
    have hjh : hj0 = h := by
      have h1 := F.fh
      have h2 := inv.hk
      rw [hr, h1] at h2; cases h2; rfl
    subst hjh
    obtain ⟨m1, m2, m3, m4⟩ := inv.merge (hreqE req hp) hme
    have hsub : Sub σ σ' := hext.sub m1
    have hbne : ∀ x o, Un ps rs (L.setIfInBounds j true) x o → ∃ b c obj, σ (h0.next + x) = some (b, c) ∧ σ' (h0.next + x) = some (b, c) ∧ w0.heap.size ≤ b ∧ w.heap[b]? = some obj ∧ ORel σ c o obj ∧ ∀ i o' c', hm.t.get i = some o' → σ i = some (b, c') → False := fun x o hx => by
      obtain ⟨u1, u2⟩ := hUn hob x o hx
      obtain ⟨b, c, obj, a1, a2, a3, a4, a5⟩ := inv.al x o u1
      refine ⟨b, c, obj, a1, hsub _ _ a1, a2, a3, a4, fun i o' c' hi hsi => ?_⟩
      rcases m4 i o' b c' hi hsi with ⟨i', o'', c'', g1, g2⟩ | ⟨y, hy, o'', c'', g1, g2⟩
      · exact a5 i' o'' c'' g1 g2
      · have := inv.inj x y o o'' b c c'' u1 g1 a1 g2
        subst this
        exact u2 req hp hy
    refine ⟨by simp [inv.size], hdc', ?_, hrel, m2.trans hext, by have := hext.next; have := inv.nx; omega, fun x o hx => ?_, fun x y o o₂ b c c' hx hy hsx hsy => ?_, fun x hx hq => ?_, htm' tm' htg, htr'⟩
    · rw [hcnt, if_pos hpe, hr]; exact hh'
    · obtain ⟨b, c, obj, a0, a1, a2, a3, a4, a5⟩ := hbne x o hx
      have hlt : b < w.heap.size := (Array.getElem?_eq_some_iff.1 a3).1
      refine ⟨b, c, obj, a1, a2, ?_, a4.mono hsub, fun i o' c' hi hsi => ?_⟩
      · rw [hext.keeps b hlt a5]; exact a3
      · obtain ⟨i', o'', c'', g1, g2⟩ := hext.img i o' b c' hi hsi hlt
        exact a5 i' o'' c'' g1 g2
    · obtain ⟨b₁, c₁, _, a0, a1, _⟩ := hbne x o hx
      obtain ⟨b₂, c₂, _, a0', a1', _⟩ := hbne y o₂ hy
      rw [hsx] at a1; cases a1
      rw [hsy] at a1'; cases a1'
      exact inv.inj x y o o₂ _ _ _ (hUn hob x o hx).1 (hUn hob y o₂ hy).1 a0 a0'
    · obtain ⟨g1, g2⟩ := hnd' x hx hq
      rw [hext.old _ (by have := inv.nx; omega)]
      exact inv.nd x hx g2
  -- an operation that leaves memory alone
  have sameEnd : ∀ {tmps' : Array Value}, isEff p = false → rr.ob = none → TRel σ nt tm' tmps' → Inv ops ps rs hs nt tm0 σ0 h0 w0 (L.setIfInBounds j true) h σ w tm' tmps' := by
    intro tmps' hpe hob htr'
    refine ⟨by simp [inv.size], hdc', ?_, inv.rel, inv.ext, inv.nx, fun x o hx => inv.al x o (hUn hob x o hx).1, fun x y o o₂ b c c' hx hy hsx hsy => inv.inj x y o o₂ b c c' (hUn hob x o hx).1 (hUn hob y o₂ hy).1 hsx hsy,
      fun x hx hq => inv.nd x hx (hnd' x hx hq).2, htm' tm' htg, htr'⟩
    rw [hcnt, hpe]; exact inv.hk
  rcases F.came with ⟨c1, vs, c2, c3, c4⟩ | ⟨c1, c2, c3, c4, c5⟩
  · -- it is wanted
    rw [← hw] at c1
    rw [← hv] at c2
    have hcv := aevL_sound inv.tr c2
    have hws : Region.wanted o' (yielded ops tmps) = true := by rw [← hwm]; exact c1
    cases p with
    | eff req =>
      obtain ⟨hob, hm, h', q1, q2, q3⟩ := c4
      have hr := hrank rfl
      have hjh : hj0 = h := by
        have h1 := F.fh
        have h2 := inv.hk
        rw [hr, h1] at h2; cases h2; rfl
      subst hjh
      obtain ⟨m1, m2, m3, m4⟩ := inv.merge (hreqE req rfl) q1
      cases he : effA E o'.op vs hm with
      | none => rw [he] at q2; simp only [stepA] at q2; cases q2
      | some pp =>
        obtain ⟨n, h₀⟩ := pp
        have hnd := stepA_noDefer q2
        rw [he] at q2
        have hs' := eff_sound hE m1 hcv he
        obtain ⟨σ', w', x, a1, a2, a3, a4⟩ := apply_sound hE hrc m1 (f := f) (tm := tmps) (it := .inRegion ops (j :: rest)) (k := k) (d := d) (kd := kd) (ro := ro)
          (by intro _ _ _ _ q; cases q) (fun cs => stG_op ho hws (.inr hnd)) hs' q2
        refine ⟨h', σ', w', tm', putT o'.dst x tmps, effEnd rfl hob q1 q3 a2 a3 (htr σ' tmps x (inv.tr.mono (a3.sub m1)) a1), fun cs => ?_⟩
        have := a4 cs
        rw [putK ho] at this; exact this
    | alloc =>
      obtain ⟨ob, mk, q1, q2⟩ := c4
      have hmk := F.made vs ob mk rfl c3 q1
      obtain ⟨x, w', obj, c, b1, b2, b3, b4, b5, b6⟩ := alloc_sound (w := w) hE hcv q1
      have hnone := inv.nd j hjn hDj
      have hsub : Sub σ (upd σ (h0.next + j) (w.heap.size, c)) := sub_upd _ hnone
      obtain ⟨e1, e2⟩ := b6 (upd σ (h0.next + j) (w.heap.size, c)) (h0.next + j) hsub (upd_self _ _ _)
      have hne : ∀ i o, h.t.get i = some o → i ≠ h0.next + j := fun i o hi q => by
        obtain ⟨b, c', x', g1, _⟩ := inv.rel.objs i o hi
        rw [q, hnone] at g1; cases g1
      have hlt : ∀ i o b c', h.t.get i = some o → σ i = some (b, c') → b < w.heap.size := fun i o b c' hi hsi => by
        obtain ⟨b', c'', x', g1, g2, _⟩ := inv.rel.objs i o hi
        rw [hsi] at g1; cases g1
        exact (Array.getElem?_eq_some_iff.1 g2).1
      have hheap : ∀ b, b < w.heap.size → w'.heap[b]? = w.heap[b]? := fun b hb => by
        rw [b5, Array.getElem?_push, if_neg (by omega)]
      have hnd : ∀ c, o'.op ≠ .defer c := fun c q => by rw [q] at q1; cases q1
      have hcase : ∀ x o, Un ps rs (L.setIfInBounds j true) x o → (x = j ∧ o = ob) ∨ (x ≠ j ∧ Un ps rs L x o) := fun x o hx => by
        obtain ⟨u1, u2, u3⟩ := hx
        by_cases e : x = j
        · subst e
          obtain ⟨vs', v', u2⟩ := u2
          rw [F.frr] at u2; cases u2; simp only at q2; cases q2
          exact .inl ⟨rfl, rfl⟩
        · rw [hL', if_neg e] at u1
          exact .inr ⟨e, u1, u2, fun e' req he hD => u3 e' req he (by rw [hL']; split <;> first | rfl | exact hD)⟩
      have hobj : ∀ x o, Un ps rs L x o → ∃ b c obj, σ (h0.next + x) = some (b, c) ∧ b < w.heap.size ∧ w0.heap.size ≤ b ∧ w.heap[b]? = some obj ∧ ORel σ c o obj ∧ ∀ i o' c', h.t.get i = some o' → σ i = some (b, c') → False := fun x o hx => by
        obtain ⟨b, c, obj, a1, a2, a3, a4, a5⟩ := inv.al x o hx
        exact ⟨b, c, obj, a1, (Array.getElem?_eq_some_iff.1 a3).1, a2, a3, a4, a5⟩
      refine ⟨h, upd σ (h0.next + j) (w.heap.size, c), w', tm', putT o'.dst x tmps, ⟨by simp [inv.size], hdc', ?_, ⟨fun i hi => ?_, fun i o hi => ?_, fun i i' o o₂ b c₁ c₂ hi hi' hsi hsi' => ?_⟩, ⟨b2.trans inv.ext.os, b3.trans inv.ext.tape, b4.trans inv.ext.output, ?_, inv.ext.next, fun i hi => ?_, fun b hb hn => ?_, fun i o b c₁ hi hsi hb => ?_⟩, inv.nx,
        fun x o hx => ?_, fun x y o o₂ b c₁ c₂ hx hy hsx hsy => ?_, fun x hx hq => ?_, htm' tm' htg, htr _ tmps x (inv.tr.mono hsub) (by rw [hmk]; exact e2)⟩, fun cs => .one (step_lone_go ?_)⟩
      · rw [hcnt]; simpa [isEff] using inv.hk
      · rw [upd_ne σ _ (by have := inv.nx; omega)]; exact inv.rel.fresh i hi
      · obtain ⟨b, c', x', g1, g2, g3⟩ := inv.rel.objs i o hi
        refine ⟨b, c', x', by rw [upd_ne σ _ (hne i o hi)]; exact g1, ?_, g3.mono hsub⟩
        rw [hheap b (hlt i o b c' hi g1)]; exact g2
      · rw [upd_ne σ _ (hne i o hi)] at hsi
        rw [upd_ne σ _ (hne i' o₂ hi')] at hsi'
        exact inv.rel.inj i i' o o₂ b c₁ c₂ hi hi' hsi hsi'
      · rw [b5]; simp; have := inv.ext.size; omega
      · rw [upd_ne σ _ (by omega)]; exact inv.ext.old i hi
      · rw [hheap b (by have := inv.ext.size; omega)]; exact inv.ext.keeps b hb hn
      · rw [upd_ne σ _ (hne i o hi)] at hsi
        exact inv.ext.img i o b c₁ hi hsi hb
      · rcases hcase x o hx with ⟨rfl, rfl⟩ | ⟨hxj, hu⟩
        · refine ⟨w.heap.size, c, obj, upd_self _ _ _, inv.ext.size, by rw [b5]; simp, e1, fun i o' c' hi hsi => ?_⟩
          rw [upd_ne σ _ (hne i o' hi)] at hsi
          have := hlt i o' _ c' hi hsi
          omega
        · obtain ⟨b, c', obj', a1, a2, a3, a4, a5, a6⟩ := hobj x o hu
          refine ⟨b, c', obj', by rw [upd_ne σ _ (by omega)]; exact a1, a3, by rw [hheap b a2]; exact a4, a5.mono hsub, fun i o' c'' hi hsi => ?_⟩
          rw [upd_ne σ _ (hne i o' hi)] at hsi
          exact a6 i o' c'' hi hsi
      · rcases hcase x o hx with ⟨rfl, rfl⟩ | ⟨hxj, hu⟩ <;> rcases hcase y o₂ hy with ⟨rfl, rfl⟩ | ⟨hyj, hu'⟩
        · rfl
        · rw [upd_self] at hsx; cases hsx
          rw [upd_ne σ _ (by omega)] at hsy
          obtain ⟨b, c', obj', a1, a2, _⟩ := hobj y o₂ hu'
          rw [hsy] at a1; cases a1; omega
        · rw [upd_self] at hsy; cases hsy
          rw [upd_ne σ _ (by omega)] at hsx
          obtain ⟨b, c', obj', a1, a2, _⟩ := hobj x o hu
          rw [hsx] at a1; cases a1; omega
        · rw [upd_ne σ _ (by omega)] at hsx hsy
          exact inv.inj x y o o₂ b c₁ c₂ hu hu' hsx hsy
      · obtain ⟨g1, g2⟩ := hnd' x hx hq
        rw [upd_ne σ _ (by omega)]; exact inv.nd x hx g2
      · rw [stG_op ho hws (.inr hnd), ← putK ho]
        simp [stepG.apply, b1, Sem.runT_eq]
    | light ks req =>
      obtain ⟨hob, _⟩ := c4
      have hsm := same j o' ks req rr vs ho F.fp F.frr c3
      obtain ⟨l1, l2⟩ := pf.light j ks req F.fp
      have hle : (List.range ops.size).countP (fun i => effAt ps i && L.getD i false) ≤ ops.size := by
        have := List.countP_le_length (p := fun i => effAt ps i && L.getD i false) (l := List.range ops.size)
        simpa using this
      have hk : (List.range ops.size).countP (fun i => effAt ps i && L.getD i false) ∈ ks := by
        rcases l1 _ hle with q | q | q
        · exact q
        · have : (List.range ops.size).countP (fun i => effAt ps i && bef (masks ops.toList []) i j) ≤ (List.range ops.size).countP (fun i => effAt ps i && L.getD i false) :=
            List.countP_mono_left fun i _ hq => by
              simp only [Bool.and_eq_true] at hq ⊢
              exact ⟨hq.1, hpre i hq.2⟩
          omega
        · have : (List.range ops.size).countP (fun i => effAt ps i && L.getD i false) ≤ (List.range ops.size).countP (fun i => effAt ps i && !bef (masks ops.toList []) j i) :=
            List.countP_mono_left fun i _ hq => by
              simp only [Bool.and_eq_true] at hq ⊢
              exact ⟨hq.1, by rw [hpost i hq.2]; rfl⟩
          omega
      obtain ⟨h₁, hm, q1, q2, q3⟩ := sameAt_spec hsm _ hk
      have hjh : h₁ = h := by
        have h2 := inv.hk
        rw [q1] at h2; cases h2; rfl
      subst hjh
      have hreqL : ∀ x ∈ req, ∀ o vs v, rs[x]? = some ⟨vs, v, some o⟩ → Un ps rs L x o := fun x hx o vs v hr => by
        obtain ⟨u1, u2⟩ := l2 x hx
        refine ⟨hpre x u1, ⟨vs, v, hr⟩, fun e req' he hD hx' => ?_⟩
        obtain ⟨u3, u4⟩ := pf.eff e req' he x hx'
        have hen : e < ops.size := by have := (List.getElem?_eq_some_iff.1 he).1; have := pf.len; omega
        have := u2 e hen (by rw [effAt_of he]; rfl) u3
        rw [hpost e hD] at this; cases this
      obtain ⟨m1, m2, m3, m4⟩ := inv.merge hreqL q2
      obtain ⟨x, a1, a2⟩ := light_sound hE m1 hcv q3
      have hnd : ∀ c, o'.op ≠ .defer c := fun c q => by rw [q] at q3; cases q3
      refine ⟨_, σ, w, tm', putT o'.dst x tmps, sameEnd rfl hob (htr σ tmps x inv.tr a2), fun cs => .one (step_lone_go ?_)⟩
      rw [stG_op ho hws (.inr hnd), ← putK ho]
      simp [stepG.apply, a1, Sem.runT_eq]
  · -- it is not wanted
    rw [← hw] at c1
    have hws : Region.wanted o' (yielded ops tmps) = false := by rw [← hwm]; exact c1
    have htr' := htr σ tmps undef inv.tr (by rw [c3]; exact conc_undef σ)
    cases p with
    | eff req =>
      obtain ⟨hm, q1, q2⟩ := c5
      have hr := hrank rfl
      have hjh : hj0 = h := by
        have h1 := F.fh
        have h2 := inv.hk
        rw [hr, h1] at h2; cases h2; rfl
      subst hjh
      obtain ⟨m1, m2, m3, m4⟩ := inv.merge (hreqE req rfl) q1
      exact ⟨hm, σ, w, tm', _, effEnd rfl c4 q1 q2 m1 (Ext.refl _ _ _) htr', fun cs => .one (st_opSkip ho hws)⟩
    | alloc => exact ⟨h, σ, w, tm', _, sameEnd rfl c4 htr', fun cs => .one (st_opSkip ho hws)⟩
    | light ks req => exact ⟨h, σ, w, tm', _, sameEnd rfl c4 htr', fun cs => .one (st_opSkip ho hws)⟩

theorem draw_run (hE : EnvOk P E) {rc : AF → H → Option (AV × H)} (hrc : RC P rc) {fin : List Nat} (pf : PF ops ps fin)
    (facts : ∀ i, i < ops.size → HasFact E rc ops ps nt h0.next tm0 hs rs i)
    (same : ∀ (j : Nat) (o : Oper) (ks req : List Nat) (rr : RR) (vs : List AV), ops[j]? = some o → ps[j]? = some (.light ks req) → rs[j]? = some rr → rr.vs = some vs → sameAt E h0.next o.op vs rr.v hs rs req ks = true)
    (f : FuncId) (k : List Item) (d : List Deferred) (kd : CallKind) (ro : Option Nat) : ∀ (fuel t : Nat) (L : Array Bool) (h : H) (σ : Sg) (w : World) (tm : T AV) (tmps : Array Value),
    Inv ops ps rs hs nt tm0 σ0 h0 w0 L h σ w tm tmps → (List.range ops.size).countP (fun i => !L.getD i false) = fuel →
    ∃ L' h' σ' w' tm' tmps', (∀ i, i < ops.size → L'.getD i false = true) ∧ Inv ops ps rs hs nt tm0 σ0 h0 w0 L' h' σ' w' tm' tmps' ∧
      ∀ cs, Steps P (lone ⟨f, tmps, .inRegion ops (Region.linearise.go .any ops fuel t L []) :: k, d, .run, kd, ro⟩ cs w) (lone ⟨f, tmps', .inRegion ops [] :: k, d, .run, kd, ro⟩ cs w')
  | 0, t, L, h, σ, w, tm, tmps, inv, hc => by
    refine ⟨L, h, σ, w, tm, tmps, fun i hi => ?_, inv, fun cs => by simpa [Region.linearise.go] using Steps.refl _ _⟩
    rw [List.countP_eq_zero] at hc
    have := hc i (by simpa using hi)
    simpa using this
  | fuel + 1, t, L, h, σ, w, tm, tmps, inv, hc => by
    -- the first that is not done is ready
    have hex : ∃ i, i < ops.size ∧ L.getD i false = false := by
      obtain ⟨i, hi, q⟩ := List.countP_pos_iff.1 (by omega : 0 < (List.range ops.size).countP (fun i => !L.getD i false))
      exact ⟨i, by simpa using hi, by simpa using q⟩
    have hfirst : ∀ m i, i ≤ m → i < ops.size → L.getD i false = false → ∃ j, j < ops.size ∧ L.getD j false = false ∧ ∀ i, i < j → L.getD i false = true := by
      intro m
      induction m with
      | zero => intro i hi h1 h2; have : i = 0 := by omega
                subst this; exact ⟨0, h1, h2, fun i hi => by omega⟩
      | succ m ih =>
        intro i hi h1 h2
        by_cases hq : ∃ i', i' < i ∧ L.getD i' false = false
        · obtain ⟨i', q1, q2⟩ := hq
          exact ih i' (by omega) (by omega) q2
        · refine ⟨i, h1, h2, fun i' hi' => ?_⟩
          cases hb : L.getD i' false with
          | true => rfl
          | false => exact absurd ⟨i', hi', hb⟩ hq
    obtain ⟨i₀, g1, g2⟩ := hex
    obtain ⟨j₀, g3, g4, g5⟩ := hfirst i₀ i₀ (Nat.le_refl _) g1 g2
    have hready : j₀ ∈ Region.ready .any ops L := by
      refine mem_ready.2 ⟨?_, ops[j₀], Array.getElem?_eq_getElem g3, fun e he hb => ?_⟩
      · have : j₀ < L.size := by rw [inv.size]; exact g3
        simp [this] at g4 ⊢; exact g4
      · exact g5 _ (pf.dir j₀ _ (Array.getElem?_eq_getElem g3) _ (mem_directs.2 ⟨e, he, hb, rfl⟩))
    have hgo : ∃ j t', j ∈ Region.ready .any ops L ∧ Region.linearise.go .any ops (fuel + 1) t L [] = j :: Region.linearise.go .any ops fuel t' (L.setIfInBounds j true) [] := by
      simp only [Region.linearise.go]
      change ∃ j t', j ∈ Region.ready .any ops L ∧ (match (Region.ready .any ops L)[t % (Region.ready .any ops L).length]? with
        | some i => Region.linearise.go .any ops fuel (t / (Region.ready .any ops L).length) (L.setIfInBounds i true) [i]
        | none => [].reverse) = _
      cases hi : (Region.ready .any ops L)[t % (Region.ready .any ops L).length]? with
      | none =>
        have hpos : 0 < (Region.ready .any ops L).length := List.length_pos_of_mem hready
        have := Nat.mod_lt t hpos
        rw [List.getElem?_eq_none_iff] at hi
        omega
      | some i =>
        refine ⟨i, t / (Region.ready .any ops L).length, List.mem_of_getElem? hi, ?_⟩
        simp only []
        rw [linearise_go_acc, List.reverse_singleton, List.singleton_append]
    obtain ⟨j, t', hj, hgo⟩ := hgo
    obtain ⟨h₁, σ₁, w₁, tm₁, tmps₁, inv₁, s₁⟩ := draw_step hE hrc pf facts same inv hj f k d kd ro (Region.linearise.go .any ops fuel t' (L.setIfInBounds j true) [])
    have hjm := mem_ready.1 hj
    obtain ⟨hun, o, ho, _⟩ := hjm
    have hjn : j < ops.size := (Array.getElem?_eq_some_iff.1 ho).1
    have hjL : j < L.size := by rw [inv.size]; exact hjn
    have hDj : L.getD j false = false := by
      simp [hjL] at hun ⊢; exact hun
    have hc' : (List.range ops.size).countP (fun i => !(L.setIfInBounds j true).getD i false) = fuel := by
      have := countP_one (f := fun i => !(L.setIfInBounds j true).getD i false) (g := fun i => !L.getD i false) (j := j) (fun i hi => by rw [getD_set hjL, if_neg hi]) (by rw [getD_set hjL, if_pos rfl]; rfl) ops.size
      rw [if_pos ⟨hjn, by simp only [hDj]; rfl⟩] at this
      omega
    obtain ⟨L', h', σ', w', tm', tmps', k1, k2, k3⟩ := draw_run hE hrc pf facts same f k d kd ro fuel t' _ h₁ σ₁ w₁ tm₁ tmps₁ inv₁ hc'
    refine ⟨L', h', σ', w', tm', tmps', k1, k2, fun cs => ?_⟩
    rw [hgo]
    exact (s₁ cs).trans (k3 cs)

end
end Go.Ev
