/- The evaluator's soundness: whole. -/
import Derived.Test.YtaodaeehndocgaaGreatEvW
set_option linter.unusedSimpArgs false
set_option linter.unusedVariables false
namespace Go.Ev
open Go.RowKit

section
variable {P : Program} {E : Env}

theorem TmOk.same {ops : Array Oper} {rs : List RR} {tm0 : T AV} {S S' : Nat → Prop} {a b : T AV} (ha : TmOk ops rs tm0 S a) (hb : TmOk ops rs tm0 S' b) (hS : ∀ i, i < ops.size → S i) (hS' : ∀ i, i < ops.size → S' i) (t : Nat) : a.get t = b.get t := by
  by_cases hex : ∃ (i : Nat) (o : Oper), ops[i]? = some o ∧ o.dst = some t
  · obtain ⟨i, o, ho, hd⟩ := hex
    have hi : i < ops.size := (Array.getElem?_eq_some_iff.1 ho).1
    obtain ⟨r1, g1, g2⟩ := ha.one i (hS i hi)
    obtain ⟨r2, g3, g4⟩ := hb.one i (hS' i hi)
    rw [g1] at g3; cases g3
    rw [g2 o t ho hd, g4 o t ho hd]
  · rw [ha.two t fun i o _ ho hd => hex ⟨i, o, ho, hd⟩, hb.two t fun i o _ ho hd => hex ⟨i, o, ho, hd⟩]

theorem TRel.same {σ : Sg} {nt : Nat} {a b : T AV} {tmps : Array Value} (r : TRel σ nt a tmps) (h : ∀ t, a.get t = b.get t) : TRel σ nt b tmps := by
  refine ⟨r.1, fun i => ?_⟩
  rw [← h i]; exact r.2 i

theorem draw_ok (hE : EnvOk P E) : DrawOk P E := by
  intro rc hrc fr h h' v id ops k σ cf w ht hret hb hf r
  obtain ⟨tm, tk, d, ro, rfl, h2, h3, h4, h7⟩ := hf.inv
  have hm : modeOf fr = .run := by simp [modeOf, hret]
  rw [hm]
  rw [ht] at h3
  obtain ⟨it, k', rfl, hi, hk3⟩ := h3.cons; clear h3
  have h3 := hk3
  cases it <;> simp only [IRel] at hi
  subst hi
  simp only [codeA, cond_true] at hb
  split at hb
  · cases hb
  · rename_i pl hpl
    cases hok : planOk ops pl with
    | false => rw [hok] at hb; cases hb
    | true =>
      rw [hok] at hb; simp only [cond_true] at hb
      have pf := pf_of hok
      obtain ⟨base, t⟩ := h
      simp only [fN_eq] at hb
      obtain ⟨tmE, hE', hs, rs, e1, e2, e3, e4, e5, e6, e7⟩ := regD_spec (tm0 := fr.tm) pf.len
        (fun i j a b d hij ha hb hd => (pf.slots i j a b d (by omega) ha hb hd).1)
        ops.toList pl.ps 0 fr.tm ⟨base + ops.size, t⟩ [⟨base + ops.size, t⟩] [] _ _ rfl rfl (Nat.zero_le _) rfl rfl rfl
        ⟨fun i hi => by omega, fun t _ => rfl⟩ (fun i hi => by omega) hb
      cases hsame : sameAll E base hs rs ops.toList pl.ps rs with
      | false => rw [hsame] at e1; cases e1
      | true =>
        rw [hsame] at e1; simp only [cond_true] at e1
        obtain ⟨hF, f1, f2⟩ := mergeA_eq e1
        have inv0 : Inv ops pl.ps rs hs fr.nt fr.tm σ ⟨base, t⟩ { w with drawn := w.drawn + 1 } (Array.replicate ops.size false) ⟨base + ops.size, t⟩ σ { w with drawn := w.drawn + 1 } fr.tm tm := by
          have hno : ∀ i, (Array.replicate ops.size false).getD i false = false := fun i => by
            simp [Array.getD_eq_getD_getElem?, Array.getElem?_replicate]; split <;> rfl
          refine ⟨by simp, (fun j hj => by rw [hno] at hj; cases hj), ?_, ⟨fun i hi => r.fresh i (by simp only at hi ⊢; omega), r.objs, r.inj⟩,
            ⟨rfl, rfl, rfl, Nat.le_refl _, by simp, fun _ _ => rfl, fun _ _ _ => rfl, fun i o _ c hi hs _ => ⟨i, o, c, hi, hs⟩⟩, by simp,
            (fun x o hx => by have := hx.1; rw [hno] at this; cases this), (fun x y o o' b c c' hx => by have := hx.1; rw [hno] at this; cases this),
            (fun x hx _ => r.fresh _ (by simp)), ⟨(fun i hi => by rw [hno] at hi; cases hi), fun _ _ => rfl⟩, h2⟩
          have : (List.range ops.size).countP (fun i => effAt pl.ps i && (Array.replicate ops.size false).getD i false) = 0 := by
            rw [List.countP_eq_zero]; intro i _; rw [hno]; simp
          rw [this, e5]; rfl
        have hcnt : (List.range ops.size).countP (fun i => !(Array.replicate ops.size false).getD i false) = ops.size := by
          have : (List.range ops.size).countP (fun i => !(Array.replicate ops.size false).getD i false) = (List.range ops.size).length := by
            rw [List.countP_eq_length]
            intro i hi
            have : i < ops.size := by simpa using hi
            simp [Array.getD_eq_getD_getElem?, Array.getElem?_replicate, this]
          rw [this]; simp
        obtain ⟨L', h₁, σ₁, w₁, tm₁, tmps₁, k1, inv₁, k3⟩ := draw_run hE hrc pf e7
          (fun j o ks req rr vs a1 a2 a3 a4 => sameAll_spec hsame j o ks req rr vs (by rw [Array.getElem?_toList]; exact a1) a2 a3 a4)
          fr.fn k' d (kindOf fr) ro ops.size (w.tape w.drawn (.order fr.fn id)) _ _ _ _ _ _ inv0 hcnt
        have hh : h₁ = hE' := by
          have h5 := inv₁.hk
          have : (List.range ops.size).countP (fun i => effAt pl.ps i && L'.getD i false) = rank pl.ps ops.size := by
            refine List.countP_congr fun i hi => ?_
            rw [k1 i (by simpa using hi), Bool.and_true]
          rw [this, e4] at h5; cases h5; rfl
        subst hh
        obtain ⟨m1, m2, m3, m4⟩ := inv₁.merge (req := pl.fin) (hm := hF) (fun x hx o vs v hr => by
          obtain ⟨q1, q2⟩ := pf.fin x hx
          have hxn : x < ops.size := by have := allocAt_lt q1; have := pf.len; omega
          refine ⟨k1 x hxn, ⟨vs, v, hr⟩, fun e req he hD hx' => ?_⟩
          obtain ⟨u3, _⟩ := pf.eff e req he x hx'
          have hen : e < ops.size := by have := (List.getElem?_eq_some_iff.1 he).1; have := pf.len; omega
          have := q2 e hen (by rw [effAt_of he]; rfl)
          rw [u3] at this; cases this) f1
        have hx : Ext σ ⟨base, t⟩ w σ₁ hF w₁ := m2.drew'
        have hsub := hx.sub r
        refine Done.next hrc (fr₁ := { fr with tm := tmE, todo := k }) (cf₁ := ⟨fr.fn, tmps₁, k', d, .run, kindOf fr, ro⟩) (fun cs _ => ?_) rfl rfl rfl hx f2 ?_ m1
        · refine Steps.head st_draw (Steps.trans ?_ (.one (st_regionEnd (ops := ops))))
          have hsch : Region.schedule (P.follows .mixedOrders) ops (w.tape w.drawn (.order fr.fn id)) = Region.linearise.go .any ops ops.size (w.tape w.drawn (.order fr.fn id)) (Array.replicate ops.size false) [] := by
            simp only [Region.schedule, hE.mixed, Bool.true_or, if_true]; rfl
          rw [hsch]
          exact k3 cs
        · have htr := inv₁.tr.same (TmOk.same inv₁.tmk e6 k1 (fun i hi => hi))
          have := FRel.mk' (fr := { fr with tm := tmE, todo := k }) (σ := σ₁) (tm := tmps₁) (k := k') (d := d) (ro := ro) htr (h3.mono hsub) (h4.mono hsub) (roundRel.mono (fr := fr) hsub h7)
          simpa [modeOf, hret, kindOf] using this

/-- a call that the evaluator carries out is carried out by the machine -/
theorem callF_sound (hE : EnvOk P E) {n : Nat} {f : FuncId} {args : List AV} {h h' : H} {v : AV} (hc : callF E n f args h = some (v, h')) {σ : Sg} {w : World} {xs : List Value} (hx : concL σ args = some xs) (r : HRel σ h w.heap) :
    Calls P f ⟨xs⟩ w fun e w' => ∃ σ' x, e = .returned x ∧ conc σ' v = some x ∧ HRel σ' h' w'.heap ∧ Ext σ h w σ' h' w' := by
  unfold callF at hc
  obtain ⟨fr, h1, h2, h3, h4, h5, h6⟩ := enter_rel hE hc
  obtain ⟨σ', w', x, a1, a2, a3, a4⟩ := run_sound hE (draw_ok hE) n fr h v h' h1 σ _ w (h6 σ xs hx) r
  intro cs
  simp only [Ends, h3] at a4
  obtain ⟨cf', s1, q1, q2, q3, q4, fn, q5, q6⟩ := a4 cs (fun _ q => by rw [h4] at q; cases q)
  rw [h4] at q4
  refine ⟨.returned x, w', cf', ⟨σ', x, rfl, a1, a2, a3⟩, s1, by rw [q1, h2], q2, q3, q4, fn, by rw [q1]; exact q5, q6⟩

/-- a call without arguments that comes to a plain value: memory that was there is left alone -/
theorem callF_plain (hE : EnvOk P E) {n : Nat} {f : FuncId} {h' : H} {b : Bool} (hc : callF E n f [] ⟨0, .nil⟩ = some (.bool b, h')) (w : World) :
    Calls P f #[] w fun e w' => e = .returned (.bool b) ∧ Below w.heap.size w w' := by
  have := callF_sound hE hc (σ := fun _ => none) (w := w) (xs := []) rfl ⟨fun _ _ => rfl, fun i o hi => by simp [get_nil] at hi, fun i j o o' b c c' hi => by simp [get_nil] at hi⟩
  refine this.mono fun e w' he => ?_
  obtain ⟨σ', x, rfl, h1, h2, h3⟩ := he
  simp only [conc, Option.some.injEq] at h1
  subst h1
  exact ⟨rfl, h3.below⟩

end
end Go.Ev
