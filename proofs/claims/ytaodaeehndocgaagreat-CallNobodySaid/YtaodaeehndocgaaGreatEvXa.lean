/- The evaluator with whole regions at once: its soundness. -/
import Derived.Test.YtaodaeehndocgaaGreatEvX
set_option linter.unusedSimpArgs false
set_option linter.unusedVariables false
namespace Go.Ev
open Go.RowKit

abbrev RCT := AF → H → Option (AV × H)
def loopA (E : Env) (rc : RCT) (ops : Array Oper) (k : List AItem) : List Oper → AF → H → Option (AV × H)
  | [], fr, h => rc { fr with todo := k } h
  | o :: rest, fr, h => opsA2 E rc (loopA E rc ops k rest) fr h ops o rest k

def codeL (E : Env) (rc : RCT) : Code → List AItem → AF → H → Option (AV × H)
  | .skip, k, fr, h => rc { fr with todo := k } h
  | .label _, k, fr, h => rc { fr with todo := k } h
  | .seq a b, k, fr, h => codeL E rc a (.code b :: k) { fr with todo := .code a :: .code b :: k } h
  | .cond c a b, k, fr, h => (match aev fr.tm c with
    | some (.bool t) => cond t (codeL E rc a k { fr with todo := .code a :: k } h) (codeL E rc b k { fr with todo := .code b :: k } h)
    | _ => none)
  | .block id c, k, fr, h => codeL E rc c (.inBlock id :: k) { fr with todo := .code c :: .inBlock id :: k } h
  | .loop c, k, fr, h => codeL E rc c (.inLoop c :: k) { fr with todo := .code c :: .inLoop c :: k } h
  | .scope c, k, fr, h => codeL E rc c (.inScope c :: k) { fr with todo := .code c :: .inScope c :: k } h
  | .region _ ops false, k, fr, h => loopA E rc ops k ops.toList { fr with todo := .ops ops ops.toList :: k } h
  | .region id ops true, k, fr, h => codeA E rc fr h (.region id ops true) k
  | .ret, k, fr, h => codeA E rc fr h .ret k
  | .exit id, k, fr, h => codeA E rc fr h (.exit id) k
  | .goto l, k, fr, h => codeA E rc fr h (.goto l) k
  | .rangeFunc f p a b, k, fr, h => codeA E rc fr h (.rangeFunc f p a b) k
  | .refuse _, _, _, _ => none

def bodyL (E : Env) (rc : RCT) (fr : AF) (h : H) : Option (AV × H) :=
  cond fr.ret (bodyA E rc fr h) (match fr.todo with
    | .code c :: k => codeL E rc c k fr h
    | .inLoop c :: k => codeL E rc c (.inLoop c :: k) { fr with todo := .code c :: .inLoop c :: k } h
    | _ => bodyA E rc fr h)

section
variable {P : Program} {E : Env} {σ σ₁ : Sg} {w w₁ : World} {h h₁ h' : H} {fr fr₁ : AF} {cf cf₁ : Frame} {v : AV}

theorem loop_sound (hE : EnvOk P E) {rc : RCT} (hrc : RC P rc) {ops : Array Oper} {k : List AItem} : ∀ (rest : List Oper) (fr : AF) (h : H), fr.todo = .ops ops rest :: k → fr.ret = false →
    loopA E rc ops k rest fr h = some (v, h') → ∀ σ cf w, FRel σ fr cf → HRel σ h w.heap → Done P σ h w fr cf v h'
  | [], fr, h, ht, hret, hb, σ, cf, w, hf, r => by
    obtain ⟨tm, tk, d, ro, rfl, h2, h3, h4, h7⟩ := hf.inv
    have hm : modeOf fr = .run := by simp [modeOf, hret]
    rw [hm]
    rw [ht] at h3
    obtain ⟨it, k', rfl, hi, hk3⟩ := h3.cons; clear h3
    have h3 := hk3
    cases it <;> simp only [IRel] at hi
    rename_i ops' todo
    obtain ⟨rfl, i, rfl, hrest⟩ := hi
    have : (List.range ops'.size).drop i = [] := by
      refine List.drop_eq_nil_of_le ?_
      have := congrArg List.length hrest
      simp at this ⊢; omega
    rw [this]
    refine Done.next hrc (fr₁ := { fr with todo := k }) (cf₁ := ⟨fr.fn, tm, k', d, .run, kindOf fr, ro⟩) (fun cs _ => .one st_regionEnd) rfl rfl rfl (Ext.refl _ _ _) hb ?_ r
    have := FRel.mk' (fr := { fr with todo := k }) (σ := σ) (tm := tm) (k := k') (d := d) (ro := ro) h2 h3 h4 h7
    simpa [modeOf, hret, kindOf] using this
  | o :: rest, fr, h, ht, hret, hb, σ, cf, w, hf, r =>
    ops_sound2 hE hrc ht hret (fun fr' h₁ a b c => loop_sound hE hrc rest fr' h₁ a b c) hb hf r

theorem codeL_sound (hE : EnvOk P E) (hD : DrawOk P E) {rc : RCT} (hrc : RC P rc) : ∀ (c : Code) (k : List AItem) (fr : AF) (h : H), fr.todo = .code c :: k → fr.ret = false →
    codeL E rc c k fr h = some (v, h') → ∀ σ cf w, FRel σ fr cf → HRel σ h w.heap → Done P σ h w fr cf v h' := by
  intro c
  -- a step, and what is left
  have nx : ∀ {fr : AF} {c : Code} {k : List AItem} {σ : Sg} {cf : Frame} {w : World} {h : H}, fr.todo = .code c :: k → fr.ret = false → FRel σ fr cf → HRel σ h w.heap → ∀ (l : List AItem) (f : List Item → List Item),
      (∀ k', KRel σ k k' → KRel σ l (f k')) →
      (∀ {fn : FuncId} {tm : Array Value} {k' : List Item} {d : List Deferred} {kd : CallKind} {ro : Option Nat} {cs : List Frame}, TRel σ fr.nt fr.tm tm → step P (lone ⟨fn, tm, .code c :: k', d, .run, kd, ro⟩ cs w) = .next (lone ⟨fn, tm, f k', d, .run, kd, ro⟩ cs w)) →
      (∀ σ cf w, FRel σ { fr with todo := l } cf → HRel σ h w.heap → Done P σ h w { fr with todo := l } cf v h') → Done P σ h w fr cf v h' := by
    intro fr c k σ cf w h ht hret hf r l f hk hs hd
    obtain ⟨tm, tk, d, ro, rfl, h2, h3, h4, h7⟩ := hf.inv
    have hm : modeOf fr = .run := by simp [modeOf, hret]
    rw [hm]
    rw [ht] at h3
    obtain ⟨it, k', rfl, hi, hk3⟩ := h3.cons; clear h3
    have h3 := hk3
    cases it <;> simp only [IRel] at hi
    subst hi
    have := FRel.mk' (fr := { fr with todo := l }) (σ := σ) (tm := tm) (k := f k') (d := d) (ro := ro) h2 (hk _ h3) h4 h7
    exact (hd σ ⟨fr.fn, tm, f k', d, .run, kindOf fr, ro⟩ w (by simpa [modeOf, hret, kindOf] using this) r).of_step (fun cs => hs h2) rfl rfl rfl
  induction c with
  | skip => exact fun k fr h ht hret hb σ cf w hf r => nx ht hret hf r k id (fun _ q => q) (fun _ => st_skip) fun σ cf w hf r => hrc _ _ _ _ hb σ cf w hf r
  | label l => exact fun k fr h ht hret hb σ cf w hf r => nx ht hret hf r k id (fun _ q => q) (fun _ => st_label) fun σ cf w hf r => hrc _ _ _ _ hb σ cf w hf r
  | seq a b iha ihb => exact fun k fr h ht hret hb σ cf w hf r => nx ht hret hf r (.code a :: .code b :: k) (fun k' => .code a :: .code b :: k') (fun _ q => ⟨rfl, rfl, q⟩) (fun _ => st_seq) fun σ cf w hf r => iha (.code b :: k) { fr with todo := .code a :: .code b :: k } h rfl hret hb σ cf w hf r
  | cond c a b iha ihb =>
    intro k fr h ht hret hb σ cf w hf r
    simp only [codeL] at hb
    split at hb
    · rename_i t hc
      cases t with
      | true => exact nx ht hret hf r (.code a :: k) (fun k' => .code a :: k') (fun _ q => ⟨rfl, q⟩) (fun q => st_cond (t := true) (by have := aev_sound q hc; simpa [conc] using this.symm)) fun σ cf w hf r => iha k { fr with todo := .code a :: k } h rfl hret hb σ cf w hf r
      | false => exact nx ht hret hf r (.code b :: k) (fun k' => .code b :: k') (fun _ q => ⟨rfl, q⟩) (fun q => st_cond (t := false) (by have := aev_sound q hc; simpa [conc] using this.symm)) fun σ cf w hf r => ihb k { fr with todo := .code b :: k } h rfl hret hb σ cf w hf r
    · cases hb
  | block id c ih => exact fun k fr h ht hret hb σ cf w hf r => nx ht hret hf r (.code c :: .inBlock id :: k) (fun k' => .code c :: .inBlock id :: k') (fun _ q => ⟨rfl, rfl, q⟩) (fun _ => st_block) fun σ cf w hf r => ih (.inBlock id :: k) { fr with todo := .code c :: .inBlock id :: k } h rfl hret hb σ cf w hf r
  | loop c ih => exact fun k fr h ht hret hb σ cf w hf r => nx ht hret hf r (.code c :: .inLoop c :: k) (fun k' => .code c :: .inLoop c :: k') (fun _ q => ⟨rfl, rfl, q⟩) (fun _ => st_loop) fun σ cf w hf r => ih (.inLoop c :: k) { fr with todo := .code c :: .inLoop c :: k } h rfl hret hb σ cf w hf r
  | scope c ih => exact fun k fr h ht hret hb σ cf w hf r => nx ht hret hf r (.code c :: .inScope c :: k) (fun k' => .code c :: .inScope c :: k') (fun _ q => ⟨rfl, rfl, q⟩) (fun _ => st_scope) fun σ cf w hf r => ih (.inScope c :: k) { fr with todo := .code c :: .inScope c :: k } h rfl hret hb σ cf w hf r
  | region id ops draw =>
    intro k fr h ht hret hb σ cf w hf r
    cases draw with
    | true => exact code_sound hE hD hrc ht hret hb hf r
    | false => exact nx ht hret hf r (.ops ops ops.toList :: k) (fun k' => .inRegion ops (List.range ops.size) :: k') (fun _ q => ⟨⟨rfl, 0, rfl, rfl⟩, q⟩) (fun _ => st_region) fun σ cf w hf r => loop_sound hE hrc _ { fr with todo := .ops ops ops.toList :: k } h rfl hret hb σ cf w hf r
  | ret => exact fun k fr h ht hret hb σ cf w hf r => code_sound hE hD hrc ht hret hb hf r
  | exit id => exact fun k fr h ht hret hb σ cf w hf r => code_sound hE hD hrc ht hret hb hf r
  | goto l => exact fun k fr h ht hret hb σ cf w hf r => code_sound hE hD hrc ht hret hb hf r
  | rangeFunc f p a b iha ihb => exact fun k fr h ht hret hb σ cf w hf r => code_sound hE hD hrc ht hret hb hf r
  | refuse s => exact fun k fr h ht hret hb => by cases hb

theorem bodyL_sound (hE : EnvOk P E) (hD : DrawOk P E) {rc : RCT} (hrc : RC P rc) : RC P (bodyL E rc) := by
  intro fr h v h' hb σ cf w hf r
  unfold bodyL at hb
  cases hret : fr.ret with
  | true => rw [hret] at hb; exact body_sound hE hD hrc fr h v h' hb σ cf w hf r
  | false =>
    rw [hret] at hb; simp only [cond_false] at hb
    rw [← hret] at hb
    split at hb
    · rename_i c k ht
      exact codeL_sound hE hD hrc c k fr h ht hret hb σ cf w hf r
    · rename_i c k ht
      obtain ⟨tm, tk, d, ro, rfl, h2, h3, h4, h7⟩ := hf.inv
      have hm : modeOf fr = .run := by simp [modeOf, hret]
      rw [hm]
      rw [ht] at h3
      obtain ⟨it, k', rfl, hi, hk3⟩ := h3.cons; clear h3
      have h3 := hk3
      cases it <;> simp only [IRel] at hi
      subst hi
      rename_i c
      have := FRel.mk' (fr := { fr with todo := .code c :: .inLoop c :: k }) (σ := σ) (tm := tm) (k := .code c :: .inLoop c :: k') (d := d) (ro := ro) h2 ⟨rfl, rfl, h3⟩ h4 h7
      exact (codeL_sound hE hD hrc c _ { fr with todo := .code c :: .inLoop c :: k } h rfl hret hb σ ⟨fr.fn, tm, .code c :: .inLoop c :: k', d, .run, kindOf fr, ro⟩ w (by simpa [modeOf, hret, kindOf] using this) r).of_step (fun cs => st_inLoop) rfl rfl rfl
    · exact body_sound hE hD hrc fr h v h' hb σ cf w hf r

noncomputable def runL (E : Env) (n : Nat) : RCT :=
  Nat.rec (motive := fun _ => RCT) (fun _ _ => none) (fun _ ih fr h => bodyL E ih fr h) n
theorem runL_sound (hE : EnvOk P E) : ∀ n, RC P (runL E n)
  | 0 => fun fr h v h' hb => by cases hb
  | n + 1 => bodyL_sound hE (draw_ok hE) (runL_sound hE n)
noncomputable def callL (E : Env) (n : Nat) (f : FuncId) (args : List AV) (h : H) : Option (AV × H) := enterA E f args false fun cf => runL E n cf h

theorem callL_sound (hE : EnvOk P E) {n : Nat} {f : FuncId} {args : List AV} {h h' : H} {v : AV} (hc : callL E n f args h = some (v, h')) {σ : Sg} {w : World} {xs : List Value} (hx : concL σ args = some xs) (r : HRel σ h w.heap) :
    Calls P f ⟨xs⟩ w fun e w' => ∃ σ' x, e = .returned x ∧ conc σ' v = some x ∧ HRel σ' h' w'.heap ∧ Ext σ h w σ' h' w' := by
  unfold callL at hc
  obtain ⟨fr, h1, h2, h3, h4, h5, h6⟩ := enter_rel hE hc
  obtain ⟨σ', w', x, a1, a2, a3, a4⟩ := runL_sound hE n fr h v h' h1 σ _ w (h6 σ xs hx) r
  intro cs
  simp only [Ends, h3] at a4
  obtain ⟨cf', s1, q1, q2, q3, q4, fn, q5, q6⟩ := a4 cs (fun _ q => by rw [h4] at q; cases q)
  rw [h4] at q4
  refine ⟨.returned x, w', cf', ⟨σ', x, rfl, a1, a2, a3⟩, s1, by rw [q1, h2], q2, q3, q4, fn, by rw [q1]; exact q5, q6⟩

/-- a call without arguments that comes to a plain value: memory that was there is left alone -/
theorem callL_plain (hE : EnvOk P E) {n : Nat} {f : FuncId} {h' : H} {b : Bool} (hc : callL E n f [] ⟨0, .nil⟩ = some (.bool b, h')) (w : World) :
    Calls P f #[] w fun e w' => e = .returned (.bool b) ∧ Below w.heap.size w w' := by
  have := callL_sound hE hc (σ := fun _ => none) (w := w) (xs := []) rfl ⟨fun _ _ => rfl, fun i o hi => by simp [get_nil] at hi, fun i j o o' b c c' hi => by simp [get_nil] at hi⟩
  refine this.mono fun e w' he => ?_
  obtain ⟨σ', x, rfl, h1, h2, h3⟩ := he
  simp only [conc, Option.some.injEq] at h1
  subst h1
  exact ⟨rfl, h3.below⟩

end
end Go.Ev
